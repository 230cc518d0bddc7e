/- Texts joined. -/
import Derived.Test.YthbhbfnnagaclaaGreatDoorKx8ebff2
import Derived.Test.YthbhbfnnagaclaaGreatDoorKx2c75d9
import Derived.Lib.LaidTab
import Derived.Lib.ItoaNum
import Derived.Lib.AtoiAll
import Derived.Lib.Split
import Derived.Lib.AppendIntMem
import Derived.Lib.AtoiErrMem
import Derived.Lib.CutLaws
import Derived.Lib.TrimByte
import Derived.Test.YthbhbfnnagaclaaGreatDoorProg
import Derived.Lib.ParseIntBTie
import Derived.Lay
import Derived.LaidSub
import Derived.Stop.LaidErr
namespace Go.Proofs.YthbhbfnnagaclaaGreatDoor.Mir
open Go Go.RowKit
def R64 (n : Int) : Prop := -9223372036854775808 ≤ n ∧ n < 9223372036854775808
theorem bindP {A B : Type} (o : Option A) (a : A) (k : A → Option B) (h : o = some a) : Option.bind o k = k a := by subst h; exact id rfl
def errN : Option Int → Int
 | none => 0
 | some e => e
end Go.Proofs.YthbhbfnnagaclaaGreatDoor.Mir
namespace Go.Proofs.YthbhbfnnagaclaaGreatDoor.Mir
open Go Go.RowKit
set_option maxRecDepth 100000
structure LQ where
 m : Int
 es : Value
 er : Value
 hs : ∃ t p, es = .iface t p
 hr : ∃ t p, er = .iface t p
def tabL (g : Nat) (zs : List Int) : List (Nat × Nat × Value) := (List.range zs.length).map fun i => (g, i, Value.int .u64 (zs.getD i 0))
def laidQ (q : LQ) : List (Nat × Nat × Value) :=
 laidL ++ ((1, 0, .int .i64 q.m) :: (2, 0, q.es) :: (3, 0, q.er) :: tabL 4 Lib.pow10Tab)
def CellsQ (q : LQ) (w : World) : Prop := ∀ x ∈ laidQ q, w.cell? ⟨x.1, x.2.1, none⟩ = some x.2.2
theorem lift {q : LQ} {f : FuncId} {S : Sum} (h : SumOk Tryz.prog laidL f S) : SumOk Tryz.prog (laidQ q) f S :=
 fun al bs r hr g w vs h1 h2 h3 => h al bs r hr g w vs (fun p hp => h1 p (List.mem_append_left _ hp)) (fun p hp => by
  obtain ⟨row, ty, x, e, s⟩ := h2 p (List.mem_append_left _ hp)
  refine ⟨row, ty, x, e, s.trans ?_⟩
  obtain rfl := List.mem_singleton.1 hp
  rfl) (fun β hb p hp => h3 β hb p (List.mem_append_left _ hp))
theorem pow10_mem {q : LQ} (i : Nat) (hi : i < 20) : (4, i, Value.int .u64 (Lib.pow10Tab.getD i 0)) ∈ laidQ q := by
 refine List.mem_append_right _ (List.mem_cons_of_mem _ (List.mem_cons_of_mem _ (List.mem_cons_of_mem _ ?_)))
 exact List.mem_map.2 ⟨i, List.mem_range.2 (by rw [Lib.pow10Tab_length]; exact hi), rfl⟩
theorem pow10_size {q : LQ} : ((laidQ q).filter fun x => x.1 == 4).length = 20 := by rfl
theorem tab_is {q : LQ} {w : World} (hc : CellsQ q w) (hw : Whole (laidQ q) w) : Lib.TabIs Tryz.prog w "internal/strconv.uint64pow10" .u64 Lib.pow10Tab := by
 obtain ⟨row, ty, x, e, s⟩ := hw _ (pow10_mem (q := q) 0 (by decide))
 have s : row.size = 20 := s.trans pow10_size
 unfold Lib.TabIs World.var?
 rw [show Tryz.prog.globalNamed "internal/strconv.uint64pow10" = some 4 by kernel_rfl]
 show (match w.heap[4]? with | some (.cells cs _ _) => some cs | _ => none) = _
 rw [e]
 show some row = some _
 congr 1
 apply Array.ext
 ·simp [s, Lib.pow10Tab_length]
 ·intro i h1 h2
  have hi : i < 20 := by omega
  have h := hc _ (pow10_mem (q := q) i hi)
  simp only at h
  rw [cell_row e, Array.getElem?_eq_getElem h1] at h
  have h := Option.some.inj h
  rw [h, List.getElem_toArray, List.getElem_map, List.getD_eq_getElem?_getD, List.getElem?_eq_getElem (by rw [Lib.pow10Tab_length]; exact hi)]; rfl
theorem cell_max {q : LQ} {w : World} (hc : CellsQ q w) : w.cell? ⟨1, 0, none⟩ = some (.int .i64 q.m) :=
 hc (1, 0, .int .i64 q.m) (List.mem_append_right _ (List.mem_cons_self ..))
theorem cell_syn {q : LQ} {w : World} (hc : CellsQ q w) : w.cell? ⟨2, 0, none⟩ = some q.es :=
 hc (2, 0, q.es) (List.mem_append_right _ (List.mem_cons_of_mem _ (List.mem_cons_self ..)))
theorem cell_ran {q : LQ} {w : World} (hc : CellsQ q w) : w.cell? ⟨3, 0, none⟩ = some q.er :=
 hc (3, 0, q.er) (List.mem_append_right _ (List.mem_cons_of_mem _ (List.mem_cons_of_mem _ (List.mem_cons_self ..))))
end Go.Proofs.YthbhbfnnagaclaaGreatDoor.Mir
namespace Go.Proofs.YthbhbfnnagaclaaGreatDoor.Mir
def Leap (y : Int) : Prop := y % 4 = 0 ∧ (y % 100 ≠ 0 ∨ y % 400 = 0)
instance (y : Int) : Decidable (Leap y) := by unfold Leap; infer_instance
def lenM (y m : Int) : Int := if m < 1 ∨ 12 < m then 0 else if m = 2 then (if Leap y then 29 else 28) else if m = 4 ∨ m = 6 ∨ m = 9 ∨ m = 11 then 30 else 31
def yearN (y : Int) : Int := 365 * (y - 1) + (y - 1) / 4 - (y - 1) / 100 + (y - 1) / 400
def monN (y m : Int) : Int := if m ≤ 1 then 0 else if m = 2 then 31 else (153 * (m - 3) + 2) / 5 + (if Leap y then 60 else 59)
def daysD (y m d : Int) : Int := yearN y + monN y m + d - 719163
def MayD (y m d : Int) : Prop := 1 ≤ y ∧ y ≤ 9999 ∧ 1 ≤ d ∧ d ≤ lenM y m
instance (y m d : Int) : Decidable (MayD y m d) := by unfold MayD; infer_instance
theorem lenM_in {y m : Int} (h : 1 ≤ lenM y m) : 1 ≤ m ∧ m ≤ 12 := by
 unfold lenM at h
 split at h <;> omega
theorem MayD.m {y m d : Int} (h : MayD y m d) : 1 ≤ m ∧ m ≤ 12 := lenM_in (y := y) (by have := h.2.2; omega)
theorem lenM_le (y m : Int) : lenM y m ≤ 31 := by
 unfold lenM
 repeat' split
 all_goals omega
theorem yoe {day y : Int} (h0 : 0 ≤ day) (h1 : day < 146097) (hy : y = (day - day / 1460 + day / 36524 - day / 146096) / 365) :
  0 ≤ y ∧ y ≤ 399 ∧ 365 * y + y / 4 - y / 100 ≤ day ∧ (day < 365 * (y + 1) + (y + 1) / 4 - (y + 1) / 100 ∨ (y = 399 ∧ day = 146096)) := by
 generalize hq1 : day / 1460 = q1 at hy
 generalize hq2 : day / 36524 = q2 at hy
 generalize hq3 : day / 146096 = q3 at hy
 refine ⟨by omega, by omega, ?_, ?_⟩
 ·generalize hc : y / 100 = c
  generalize hd : y / 4 = d
  have hc3 : c = 0 ∨ c = 1 ∨ c = 2 ∨ c = 3 := by omega
  rcases hc3 with rfl | rfl | rfl | rfl <;> omega
 ·by_cases h : y = 399
  ·omega
  ·left
   generalize hc : (y + 1) / 100 = c
   generalize hd : (y + 1) / 4 = d
   have hc3 : c = 0 ∨ c = 1 ∨ c = 2 ∨ c = 3 := by omega
   rcases hc3 with rfl | rfl | rfl | rfl <;> omega
theorem mar_ok {E y r m Y : Int} (y0 : 0 ≤ y) (y1 : y ≤ 399) (r0 : 0 ≤ r) (r1 : r < 365 + ((y + 1) / 4 - y / 4) - ((y + 1) / 100 - y / 100) ∨ (y = 399 ∧ r ≤ 365)) (hm : m = (5 * r + 2) / 153) (hY : Y = 400 * E + y + m / 10) :
  0 ≤ m ∧ m ≤ 11 ∧ 1 ≤ r - (153 * m + 2) / 5 + 1 ∧ r - (153 * m + 2) / 5 + 1 ≤ lenM Y ((m + 2) % 12 + 1) ∧ daysD Y ((m + 2) % 12 + 1) (r - (153 * m + 2) / 5 + 1) = 146097 * E + (365 * y + y / 4 - y / 100) + r - 719468 := by
 have hr : r ≤ 365 := by omega
 have hm1 : 0 ≤ m ∧ m ≤ 11 := by omega
 refine ⟨hm1.1, hm1.2, ?_⟩
 have hc : m = 0 ∨ m = 1 ∨ m = 2 ∨ m = 3 ∨ m = 4 ∨ m = 5 ∨ m = 6 ∨ m = 7 ∨ m = 8 ∨ m = 9 ∨ m = 10 ∨ m = 11 := by omega
 unfold lenM daysD yearN monN Leap
 rcases hc with rfl | rfl | rfl | rfl | rfl | rfl | rfl | rfl | rfl | rfl | rfl | rfl <;> simp only [Int.reduceMul, Int.reduceAdd, Int.reduceDiv, Int.reduceMod, Int.reduceLT, Int.reduceLE, Int.reduceEq, Int.reduceSub, if_true, if_false, or_self, or_false, or_true] at * <;> (subst hY; first | omega | (refine ⟨by omega, ?_, ?_⟩ <;> (split <;> omega)))
def ofY (n : Int) : Int := let r := (n + 719468) % 146097; let y := (r - r / 1460 + r / 36524 - r / 146096) / 365; let m := (5 * (r - (365 * y + y / 4 - y / 100)) + 2) / 153; 400 * ((n + 719468) / 146097) + y + m / 10
def ofM (n : Int) : Int := let r := (n + 719468) % 146097; let y := (r - r / 1460 + r / 36524 - r / 146096) / 365; let m := (5 * (r - (365 * y + y / 4 - y / 100)) + 2) / 153; (m + 2) % 12 + 1
def ofD (n : Int) : Int := let r := (n + 719468) % 146097; let y := (r - r / 1460 + r / 36524 - r / 146096) / 365; let q := r - (365 * y + y / 4 - y / 100); q - (153 * ((5 * q + 2) / 153) + 2) / 5 + 1
theorem of_ok (n : Int) : 1 ≤ ofD n ∧ ofD n ≤ lenM (ofY n) (ofM n) ∧ daysD (ofY n) (ofM n) (ofD n) = n ∧ 400 * ((n + 719468) / 146097) ≤ ofY n ∧ ofY n ≤ 400 * ((n + 719468) / 146097) + 400 := by
 unfold ofY ofM ofD
 simp only
 have h0 := Int.emod_nonneg (n + 719468) (show (146097 : Int) ≠ 0 by decide)
 have h1 := Int.emod_lt_of_pos (n + 719468) (show (0 : Int) < 146097 by decide)
 have he := Int.mul_ediv_add_emod (n + 719468) 146097
 generalize (n + 719468) / 146097 = E at *
 generalize (n + 719468) % 146097 = r at *
 generalize hy : (r - r / 1460 + r / 36524 - r / 146096) / 365 = y
 obtain ⟨y0, y1, y2, y3⟩ := yoe h0 h1 hy.symm
 generalize hq : r - (365 * y + y / 4 - y / 100) = q
 generalize hm : (5 * q + 2) / 153 = m
 obtain ⟨m0, m1, m2, m3, m4⟩ := mar_ok (E := E) (y := y) (r := q) (m := m) y0 y1 (by omega) (by omega) hm.symm rfl
 refine ⟨m2, m3, by rw [m4]; omega, by omega, by omega⟩
theorem yearN_mono {a b : Int} (h : a ≤ b) : yearN a ≤ yearN b := by unfold yearN; omega
theorem yearN_step (y : Int) : yearN (y + 1) = yearN y + (if Leap y then 366 else 365) := by
 by_cases h : Leap y
 ·rw [if_pos h]; unfold Leap at h; unfold yearN; omega
 ·rw [if_neg h]; unfold Leap at h; unfold yearN; omega
theorem monN_step {y m : Int} (h1 : 1 ≤ m) (h2 : m ≤ 12) : monN y (m + 1) = monN y m + lenM y m := by
 have hc : m = 1 ∨ m = 2 ∨ m = 3 ∨ m = 4 ∨ m = 5 ∨ m = 6 ∨ m = 7 ∨ m = 8 ∨ m = 9 ∨ m = 10 ∨ m = 11 ∨ m = 12 := by omega
 unfold monN lenM
 by_cases L : Leap y <;> simp only [L, if_true, if_false] <;> (rcases hc with rfl | rfl | rfl | rfl | rfl | rfl | rfl | rfl | rfl | rfl | rfl | rfl <;> decide)
theorem monN_mono {y a b : Int} (_ : 1 ≤ a) (h : a ≤ b) : monN y a ≤ monN y b := by
 unfold monN
 repeat' split
 all_goals omega
theorem monN_13 (y : Int) : monN y 13 = if Leap y then 366 else 365 := by
 unfold monN
 rw [if_neg (by decide), if_neg (by decide)]
 split <;> rfl
theorem daysD_in {y m d : Int} (h : 1 ≤ d ∧ d ≤ lenM y m) : yearN y ≤ daysD y m d + 719162 ∧ daysD y m d + 719162 < yearN (y + 1) ∧ monN y m ≤ daysD y m d + 719162 - yearN y ∧ daysD y m d + 719162 - yearN y < monN y (m + 1) := by
 have hm := lenM_in (y := y) (m := m) (by omega)
 have h1 := monN_step (y := y) hm.1 hm.2
 have h2 := yearN_step y
 have h3 := monN_13 y
 have h4 := monN_mono (y := y) (a := m + 1) (b := 13) (by omega) (by omega)
 have h5 : 0 ≤ monN y m := by
  have := monN_mono (y := y) (a := 1) (b := m) (by omega) (by omega)
  have : monN y 1 = 0 := rfl
  omega
 unfold daysD
 omega
theorem daysD_inj {y m d y' m' d' : Int} (h : 1 ≤ d ∧ d ≤ lenM y m) (h' : 1 ≤ d' ∧ d' ≤ lenM y' m') (e : daysD y m d = daysD y' m' d') : y = y' ∧ m = m' ∧ d = d' := by
 obtain ⟨a1, a2, a3, a4⟩ := daysD_in h
 obtain ⟨b1, b2, b3, b4⟩ := daysD_in h'
 have hm := lenM_in (y := y) (m := m) (by omega)
 have hm' := lenM_in (y := y') (m := m') (by omega)
 have hy : y = y' := by
  rcases Int.lt_trichotomy y y' with q | q | q
  ·have := yearN_mono (a := y + 1) (b := y') (by omega); omega
  ·exact q
  ·have := yearN_mono (a := y' + 1) (b := y) (by omega); omega
 subst hy
 have hmm : m = m' := by
  rcases Int.lt_trichotomy m m' with q | q | q
  ·have := monN_mono (y := y) (a := m + 1) (b := m') (by omega) (by omega); omega
  ·exact q
  ·have := monN_mono (y := y) (a := m' + 1) (b := m) (by omega) (by omega); omega
 subst hmm
 refine ⟨rfl, rfl, ?_⟩
 unfold daysD at e
 omega
theorem of_days {y m d : Int} (h : 1 ≤ d ∧ d ≤ lenM y m) : ofY (daysD y m d) = y ∧ ofM (daysD y m d) = m ∧ ofD (daysD y m d) = d := by
 obtain ⟨h1, h2, h3, _⟩ := of_ok (daysD y m d)
 exact daysD_inj ⟨h1, h2⟩ h h3
theorem of_year (n : Int) : (1 ≤ ofY n ↔ -719162 ≤ n) ∧ (ofY n ≤ 9999 ↔ n ≤ 2932896) := by
 obtain ⟨h1, h2, h3, _⟩ := of_ok n
 obtain ⟨a1, a2, _⟩ := daysD_in ⟨h1, h2⟩
 rw [h3] at a1 a2
 have k0 : yearN 1 = 0 := rfl
 have k1 : yearN 10000 = 3652059 := rfl
 refine ⟨⟨fun h => ?_, fun h => ?_⟩, ⟨fun h => ?_, fun h => ?_⟩⟩
 ·have := yearN_mono (a := 1) (b := ofY n) h; omega
 ·rcases Int.lt_or_le (ofY n) 1 with q | q
  ·have := yearN_mono (a := ofY n + 1) (b := 1) (by omega); omega
  ·exact q
 ·have := yearN_mono (a := ofY n + 1) (b := 10000) (by omega); omega
 ·rcases Int.lt_or_le 9999 (ofY n) with q | q
  ·have := yearN_mono (a := 10000) (b := ofY n) (by omega); omega
  ·exact q
theorem days_mar {y m d : Int} (h1 : 1 ≤ m) (h2 : m ≤ 12) :
  daysD y m d = (if m < 3 then (y - 1) / 400 * 146097 + (y - 1) % 400 * 365 + (y - 1) % 400 / 4 - (y - 1) % 400 / 100 + (153 * (m + 9) + 2) / 5 else y / 400 * 146097 + y % 400 * 365 + y % 400 / 4 - y % 400 / 100 + (153 * (m - 3) + 2) / 5) + d - 1 - 719468 := by
 have hc : m = 1 ∨ m = 2 ∨ m = 3 ∨ m = 4 ∨ m = 5 ∨ m = 6 ∨ m = 7 ∨ m = 8 ∨ m = 9 ∨ m = 10 ∨ m = 11 ∨ m = 12 := by omega
 unfold daysD yearN monN Leap
 rcases hc with rfl | rfl | rfl | rfl | rfl | rfl | rfl | rfl | rfl | rfl | rfl | rfl <;> simp <;> first | omega | (split <;> omega)
def dgF : Nat → Nat → List UInt8
 | 0, _ => []
 | k + 1, u => if u < 10 then [UInt8.ofNat (48 + u)] else dgF k (u / 10) ++ [UInt8.ofNat (48 + u % 10)]
def twoL : Nat → Nat → List UInt8
 | 0, _ => []
 | k + 1, n => twoL k (n / 10) ++ [UInt8.ofNat (48 + n % 10)]
theorem dgF_len : ∀ (k f u : Nat), u < 10 ^ (k + 1) → k < f → (dgF f u).length ≤ k + 1
 | k, 0, u, _, h => by omega
 | k, f + 1, u, hu, h => by
  unfold dgF
  split
  ·simp
  ·rename_i h10
   cases k with
   | zero => simp at hu; omega
   | succ k =>
    have := dgF_len k f (u / 10) (by rw [Nat.pow_succ] at hu; omega) (by omega)
    simp; omega
theorem dgF_eq : ∀ (k f u : Nat), u < 10 ^ (k + 1) → k < f → dgF f u = Lib.decDigits u
 | k, 0, u, _, h => by omega
 | k, f + 1, u, hu, h => by
  unfold dgF
  rw [Lib.decDigits]
  split
  ·rfl
  ·rename_i h10
   cases k with
   | zero => simp at hu; omega
   | succ k => rw [dgF_eq k f (u / 10) (by rw [Nat.pow_succ] at hu; omega) (by omega)]
theorem twoL_zero : ∀ k, twoL k 0 = List.replicate k 48
 | 0 => rfl
 | k + 1 => by
  unfold twoL
  rw [show 0 / 10 = 0 from rfl, twoL_zero k, show UInt8.ofNat (48 + 0 % 10) = 48 from rfl, ← List.replicate_succ']
theorem pad_eq : ∀ (k f u : Nat), u < 10 ^ (k + 1) → k < f → List.replicate (k + 1 - (dgF f u).length) 48 ++ dgF f u = twoL (k + 1) u
 | k, 0, u, _, h => by omega
 | k, f + 1, u, hu, h => by
  unfold dgF twoL
  split
  ·rename_i h10
   rw [show u / 10 = 0 by omega, twoL_zero, Nat.mod_eq_of_lt h10]; simp
  ·rename_i h10
   cases k with
   | zero => simp at hu; omega
   | succ k =>
    have ih := pad_eq k f (u / 10) (by rw [Nat.pow_succ] at hu; omega) (by omega)
    have hl := dgF_len k f (u / 10) (by rw [Nat.pow_succ] at hu; omega) (by omega)
    rw [← ih]
    simp only [List.length_append, List.length_singleton]
    rw [← List.append_assoc]
    congr 3
    omega
theorem twoL_len : ∀ k n, (twoL k n).length = k
 | 0, _ => rfl
 | k + 1, n => by unfold twoL; simp [twoL_len k]
theorem dig_nat {d : Nat} (h : d < 10) : (UInt8.ofNat (48 + d)).toNat = 48 + d := by
 rw [UInt8.toNat_ofNat']
 omega
def valL (acc : Nat) : List UInt8 → Nat
 | [] => acc
 | c :: r => valL (acc * 10 + (c.toNat - 48)) r
def digB (c : UInt8) : Bool := decide (48 ≤ c.toNat) && decide (c.toNat ≤ 57)
theorem valL_app : ∀ (l r : List UInt8) (a : Nat), valL a (l ++ r) = valL (valL a l) r
 | [], _, _ => rfl
 | _ :: l, r, _ => valL_app l r _
theorem valL_two : ∀ (k n a : Nat), n < 10 ^ k → valL a (twoL k n) = a * 10 ^ k + n
 | 0, n, a, h => by
  have : n = 0 := by rw [Nat.pow_zero] at h; omega
  subst this
  show a = a * 10 ^ 0 + 0
  rw [Nat.pow_zero, Nat.mul_one, Nat.add_zero]
 | k + 1, n, a, h => by
  rw [Nat.pow_succ] at h ⊢
  have ih := valL_two k (n / 10) a (by omega)
  have hd := dig_nat (Nat.mod_lt n (by decide : 0 < 10))
  generalize hc : UInt8.ofNat (48 + n % 10) = c at hd
  have e : twoL (k + 1) n = twoL k (n / 10) ++ [c] := by rw [← hc]; rfl
  rw [e, valL_app, ih]
  show (a * 10 ^ k + n / 10) * 10 + (c.toNat - 48) = _
  rw [hd, Nat.add_mul, Nat.mul_assoc]
  omega
theorem twoL_dig : ∀ (k n : Nat), ∀ c ∈ twoL k n, digB c = true
 | 0, _, c, h => by cases h
 | k + 1, n, c, h => by
  unfold twoL at h
  rcases List.mem_append.1 h with h | h
  ·exact twoL_dig k _ c h
  ·obtain rfl := List.mem_singleton.1 h
   unfold digB
   rw [dig_nat (Nat.mod_lt n (by decide : 0 < 10)), decide_eq_true (by omega), decide_eq_true (by omega)]; rfl
theorem digB_ok {c : UInt8} (h : digB c = true) : 48 ≤ c.toNat ∧ c.toNat ≤ 57 := by simpa [digB] using h
theorem ofNat_dig {c : UInt8} (h : digB c = true) : UInt8.ofNat (48 + (c.toNat - 48)) = c := by
 obtain ⟨h1, h2⟩ := digB_ok h
 rw [show 48 + (c.toNat - 48) = c.toNat by omega]; simp
theorem two_val : ∀ (l : List UInt8) (m a : Nat), (∀ c ∈ l, digB c = true) → twoL (m + l.length) (valL a l) = twoL m a ++ l
 | [], m, a, _ => (List.append_nil _).symm
 | c :: l, m, a, h => by
  have hc := digB_ok (h c (List.mem_cons_self ..))
  have ih := two_val l (m + 1) (a * 10 + (c.toNat - 48)) (fun x hx => h x (List.mem_cons_of_mem _ hx))
  rw [show m + (c :: l).length = m + 1 + l.length by simp; omega]
  show twoL _ (valL (a * 10 + (c.toNat - 48)) l) = _
  rw [ih]
  show (twoL m ((a * 10 + (c.toNat - 48)) / 10) ++ [UInt8.ofNat (48 + (a * 10 + (c.toNat - 48)) % 10)]) ++ l = _
  rw [show (a * 10 + (c.toNat - 48)) / 10 = a by omega, show (a * 10 + (c.toNat - 48)) % 10 = c.toNat - 48 by omega, ofNat_dig (h c (List.mem_cons_self ..)), List.append_assoc]; rfl
theorem valL_lt : ∀ (l : List UInt8) (a m : Nat), (∀ c ∈ l, digB c = true) → a < 10 ^ m → valL a l < 10 ^ (m + l.length)
 | [], _, _, _, h => h
 | c :: l, a, m, hd, h => by
  have hc := digB_ok (hd c (List.mem_cons_self ..))
  have := valL_lt l (a * 10 + (c.toNat - 48)) (m + 1) (fun x hx => hd x (List.mem_cons_of_mem _ hx)) (by rw [Nat.pow_succ]; omega)
  rw [show m + (c :: l).length = m + 1 + l.length by simp; omega]
  exact this
theorem parse_dig : ∀ (l : List UInt8) (a : Nat), (∀ c ∈ l, digB c = true) → (a + 1) * 10 ^ l.length ≤ 1000000000000000000 → Lib.parseUint10 a l = .ok (valL a l)
 | [], a, _, _ => rfl
 | c :: l, a, hd, h => by
  obtain ⟨c1, c2⟩ := digB_ok (hd c (List.mem_cons_self ..))
  rw [List.length_cons, Nat.pow_succ] at h
  have hp : 1 ≤ 10 ^ l.length := Nat.one_le_pow _ _ (by decide)
  have h1 : (a + 1) * 10 ≤ 1000000000000000000 := by
   have : (a + 1) * (1 * 10) ≤ (a + 1) * (10 ^ l.length * 10) := Nat.mul_le_mul_left _ (Nat.mul_le_mul_right _ hp)
   omega
  unfold Lib.parseUint10 valL
  rw [if_pos ⟨c1, c2⟩, if_neg (by omega), if_neg (by omega)]
  refine parse_dig l _ (fun x hx => hd x (List.mem_cons_of_mem _ hx)) ?_
  refine Nat.le_trans (Nat.mul_le_mul_right _ (show a * 10 + (c.toNat - 48) + 1 ≤ (a + 1) * 10 by omega)) ?_
  rw [Nat.mul_assoc, Nat.mul_comm 10]
  exact h
theorem atoi_two {k n : Nat} (hk : 1 ≤ k) (hk2 : k ≤ 17) (h : n < 10 ^ k) : Lib.atoiAll (twoL k n) = .ok (n : Int) := by
 have hp : Lib.parseUint10 0 (twoL k n) = .ok n := by
  rw [parse_dig _ 0 (twoL_dig k n) (by
   rw [twoL_len, Nat.zero_add, Nat.one_mul]
   exact Nat.le_trans (Nat.pow_le_pow_right (by decide) hk2) (by decide)), valL_two k n 0 h, Nat.zero_mul, Nat.zero_add]
 have hl := twoL_len k n
 have hd := twoL_dig k n
 have hn : n < 10 ^ 17 := Nat.lt_of_lt_of_le h (Nat.pow_le_pow_right (by decide) hk2)
 generalize twoL k n = l at hp hl hd
 cases l with
 | nil => simp at hl; omega
 | cons c r =>
  obtain ⟨c1, c2⟩ := digB_ok (hd c (List.mem_cons_self ..))
  unfold Lib.atoiAll
  simp only
  rw [if_neg (show ¬ (c.toNat = 43 ∨ c.toNat = 45) by omega)]
  unfold Lib.parseMag
  rw [if_neg (by simp), hp]
  simp only
  rw [if_neg (by omega), if_neg (by omega), if_neg (by omega)]
end Go.Proofs.YthbhbfnnagaclaaGreatDoor.Mir
namespace Go.Proofs.YthbhbfnnagaclaaGreatDoor.Mir
open Go Go.RowKit
set_option maxRecDepth 100000
def r64B (x : Int) : Bool := decide (-9223372036854775808 ≤ x ∧ x < 9223372036854775808)
theorem r64B_iff {x : Int} : r64B x = true ↔ -9223372036854775808 ≤ x ∧ x < 9223372036854775808 := by simp [r64B]
def itoaL (n : Int) : List UInt8 := if n < 0 then 45 :: dgF 20 n.natAbs else dgF 20 n.toNat
theorem itoaL_eq {n : Int} (h0 : -9223372036854775808 ≤ n) (h1 : n < 9223372036854775808) : itoaL n = Lib.itoa n := by
 unfold itoaL Lib.itoa
 split
 ·rw [dgF_eq 19 20 _ (by omega) (by omega)]
 ·rw [dgF_eq 19 20 _ (by omega) (by omega)]
abbrev shI : ShA := .one (.d (.int .i64))
abbrev shT : ShA := .one (.d .str)
abbrev shX : ShA := .one (.d .erx)
def itoaF (n : Int) : Option (TAs [shT]) := bif r64B n then some ⟨(itoaL n).toArray⟩ else none
def itoaS : Sum := fnSum 1 0 1 [shI] [shT] (fun n => itoaF n)
theorem itoaS_ok {q : LQ} : SumOk Tryz.prog (laidQ q) 106 itoaS := by
 refine bridgeW rfl (fun _ => rfl) ?_
 rintro n r h g w vs hc hw ⟨_, _, rfl, ha, rfl⟩
 simp only [itoaF] at h
 cases hk : r64B n with
 | false => rw [hk] at h; cases h
 | true =>
  rw [hk] at h
  obtain rfl := Option.some.inj h
  obtain ⟨k0, k1⟩ := r64B_iff.1 hk
  cases ha
  refine invokes_of_calls Tryz.func106 (by kernel_rfl) (by kernel_rfl) ((Tryz.strconv_Itoa n k0 (by omega) w (tab_is hc hw)).mono ?_)
  rintro e w' ⟨rfl, k, os, rfl⟩
  refine ⟨_, rfl, ?_, Lib.below_grow _ w (Nat.le_refl _) k os⟩
  rw [itoaL_eq k0 k1]; rfl
def fmtF (n b : Int) : Option (TAs [shT]) := bif r64B n && b == 10 then some ⟨(itoaL n).toArray⟩ else none
def fmtS : Sum := fnSum 2 0 1 [shI, shI] [shT] (fun p => fmtF p.1 p.2)
theorem fmtS_ok {q : LQ} : SumOk Tryz.prog (laidQ q) 58 fmtS := by
 refine bridgeW rfl (fun _ => rfl) ?_
 rintro ⟨n, b⟩ r h g w vs hc hw ⟨_, _, rfl, ha, _, _, rfl, hb, rfl⟩
 simp only [fmtF] at h
 cases hk : (r64B n && b == 10) with
 | false => rw [hk] at h; cases h
 | true =>
  rw [hk] at h
  obtain rfl := Option.some.inj h
  simp only [Bool.and_eq_true, r64B_iff, beq_iff_eq] at hk
  obtain ⟨⟨k0, k1⟩, rfl⟩ := hk
  cases ha; cases hb
  refine invokes_of_calls Tryz.func58 (by kernel_rfl) (by kernel_rfl) ((Tryz.strconv_FormatInt_10 n k0 (by omega) w (tab_is hc hw)).mono ?_)
  rintro e w' ⟨rfl, k, os, rfl⟩
  refine ⟨_, rfl, ?_, Lib.below_grow _ w (Nat.le_refl _) k os⟩
  rw [itoaL_eq k0 k1]; rfl
def repF (s : ByteArray) (n : Int) : Option (TAs [shT]) := bif decide (0 ≤ n) && decide (s.size * n.toNat ≤ 140737488355328) && decide (n ≤ 9223372036854775807) then some ⟨(Lib.repeatL s.data.toList n.toNat).toArray⟩ else none
def repS : Sum := fnSum 2 0 1 [shT, shI] [shT] (fun p => repF p.1 p.2)
theorem repS_ok {q : LQ} : SumOk Tryz.prog (laidQ q) 35 repS := by
 refine bridgeW rfl (fun _ => rfl) ?_
 rintro ⟨s, n⟩ r h g w vs hc hw ⟨_, _, rfl, ha, _, _, rfl, hb, rfl⟩
 simp only [repF] at h
 cases hk : (decide (0 ≤ n) && decide (s.size * n.toNat ≤ 140737488355328) && decide (n ≤ 9223372036854775807)) with
 | false => rw [hk] at h; cases h
 | true =>
  rw [hk] at h
  obtain rfl := Option.some.inj h
  simp only [Bool.and_eq_true, decide_eq_true_eq] at hk
  obtain ⟨⟨k0, k1⟩, k2⟩ := hk
  cases ha; cases hb
  have k2 : n ≤ (9223372036854775807 : Int) := k2
  have hc := Tryz.strings_Repeat s n.toNat w (Int.toNat_le.2 k2) k1
  rw [Int.toNat_of_nonneg k0] at hc
  refine invokes_of_calls Tryz.func35 (by kernel_rfl) (by kernel_rfl) (hc.mono ?_)
  rintro e w' ⟨rfl, hw⟩
  exact ⟨_, rfl, rfl, hw⟩
def splF (s c : ByteArray) : Option (TAs [.one (.d (.sl [.str]))]) := bif decide (s.size < 4294967281) && decide (1 ≤ c.size) then some (Lib.splitB c 0 (Lib.countB s c) s) else none
def splS : Sum := fnSum 2 0 1 [shT, shT] [.one (.d (.sl [.str]))] (fun p => splF p.1 p.2)
theorem splS_ok {q : LQ} : SumOk Tryz.prog (laidQ q) 53 splS := by
 refine bridgeK rfl (fun _ => rfl) ?_
 rintro ⟨s, c⟩ r h g w vs hc hw ⟨_, _, rfl, ha, _, _, rfl, hb, rfl⟩ hlt
 simp only [splF] at h
 cases hk : (decide (s.size < 4294967281) && decide (1 ≤ c.size)) with
 | false => rw [hk] at h; cases h
 | true =>
  rw [hk] at h
  obtain rfl := Option.some.inj h
  simp only [Bool.and_eq_true, decide_eq_true_eq] at hk
  obtain ⟨k0, k1⟩ := hk
  cases ha; cases hb
  have hlen := Lib.splitB_all c k1 0 _ s rfl
  generalize hP : Lib.splitB c 0 (Lib.countB s c) s = P at hlen
  have hC := Tryz.strings_Split s c q.m w k0 (cell_max hc) k1
  rw [hP] at hC
  refine invokes_of_calls Tryz.func53 (by kernel_rfl) (by kernel_rfl) (hC.mono ?_)
  rintro e w' ⟨rfl, rfl⟩
  have hnew : (w.alloc (.cells (P.map Value.string).toArray 9)).heap[w.heap.size]? = some (.cells (P.map Value.string).toArray 9) := heap_alloc_new w _
  refine ⟨_, rfl, fun β o => if β = w.heap.size then (P.map Value.string)[o]? else g.K β o, fun β o v e => ?_, fun β o v e => ?_, ?_, (Below.refl _ _).alloc (Nat.le_refl _) _⟩
  ·have := hlt β o v e
   show (if β = w.heap.size then _ else _) = _
   rw [if_neg (Nat.ne_of_lt this)]; exact e
  ·have e : (if β = w.heap.size then (P.map Value.string)[o]? else g.K β o) = some v := e
   by_cases hβ : β = w.heap.size
   ·rw [if_pos hβ] at e
    subst hβ
    refine .inr ⟨Nat.le_refl _, ?_⟩
    rw [cell_row hnew]
    simpa using e
   ·rw [if_neg hβ] at e; exact .inl e
  ·refine ⟨.inr ⟨w.heap.size, 0, Lib.countB s c + 1, by rw [hlen], by omega, fun i x hx => ⟨[.string x], rfl, rfl, fun j u hu => ?_⟩⟩, fun _ _ e => by cases e⟩
   cases j with
   | succ j => simp at hu
   | zero =>
    simp only [List.getElem?_cons_zero, Option.some.injEq] at hu
    subst hu
    show (if w.heap.size = w.heap.size then (P.map Value.string)[0 + (i * 1 + 0)]? else _) = _
    rw [if_pos rfl, show 0 + (i * 1 + 0) = i by omega, List.getElem?_map, hx]; rfl
def endD (r : Lib.NumEnd Int) (m : Int) : Int × Bool := match r with | .ok v => (v, true) | .range => (m, false) | _ => (0, false)
def atoiF (s : ByteArray) : Option (TAs [shI, shX]) := bif decide (s.size ≤ 281474976710656) then some (endD (Lib.atoiAll s.data.toList) (Lib.atoiSat s.data.toList)) else none
def atoiS : Sum := fnSum 1 0 2 [shT] [shI, shX] (fun s => atoiF s)
theorem atoiS_ok {q : LQ} : SumOk Tryz.prog (laidQ q) 79 atoiS := by
 refine bridgeW rfl (fun _ => rfl) ?_
 rintro s r h g w vs hc hw ⟨_, _, rfl, ha, rfl⟩
 simp only [atoiF] at h
 by_cases hk : s.size ≤ 281474976710656
 ·rw [decide_eq_true hk] at h
  obtain rfl := Option.some.inj h
  cases ha
  obtain ⟨t1, p1, e1⟩ := q.hs
  obtain ⟨t2, p2, e2⟩ := q.hr
  cases hr : Lib.atoiAll s.data.toList with
  | ok v =>
   refine invokes_of_calls Tryz.func79 (by kernel_rfl) (by kernel_rfl) ((Tryz.strconv_Atoi_ok s (by omega) v hr w).mono ?_)
   rintro e w' ⟨rfl, hw⟩
   refine ⟨_, rfl, ⟨_, rfl, _, _, rfl, rfl, _, _, rfl, .inl ⟨rfl, rfl⟩, rfl⟩, ?_⟩
   rcases hw with rfl | ⟨t, rfl⟩
   ·exact Below.refl _ _
   ·exact Lib.bytesWorld_below _ _ _
  | range =>
   refine invokes_of_calls Tryz.func79 (by kernel_rfl) (by kernel_rfl) ((Tryz.strconv_Atoi_range s hk hr q.er w (cell_ran hc) (.inr ⟨_, _, e2⟩)).mono ?_)
   rintro e w' ⟨N, rfl, _, _, hw⟩
   exact ⟨_, rfl, ⟨_, rfl, _, _, rfl, rfl, _, _, rfl, .inr ⟨rfl, _, _, rfl⟩, rfl⟩, hw⟩
  | _ =>
   refine invokes_of_calls Tryz.func79 (by kernel_rfl) (by kernel_rfl) ((Tryz.strconv_Atoi_syntax s hk hr q.es w (cell_syn hc) (.inr ⟨_, _, e1⟩)).mono ?_)
   rintro e w' ⟨N, rfl, _, _, hw⟩
   exact ⟨_, rfl, ⟨_, rfl, _, _, rfl, rfl, _, _, rfl, .inr ⟨rfl, _, _, rfl⟩, rfl⟩, hw⟩
 ·rw [decide_eq_false hk] at h; cases h
end Go.Proofs.YthbhbfnnagaclaaGreatDoor.Mir
namespace Go.Proofs.YthbhbfnnagaclaaGreatDoor.Mir
open Go Go.RowKit
set_option maxRecDepth 100000
def pintG (s : ByteArray) (b z : Int) : Option (TAs [shI, shX]) := bif decide (s.size ≤ 281474976710656) && (b == 10 && (z == 64 || z == 8)) then some (endD (Lib.parseIntB z.toNat s.data.toList) (Lib.intSat z.toNat s.data.toList)) else none
def pintGS : Sum := fnSum 3 0 2 [shT, shI, shI] [shI, shX] (fun p => pintG p.1 p.2.1 p.2.2)
theorem pintGS_ok {q : LQ} : SumOk Tryz.prog (laidQ q) 34 pintGS := by
 refine bridgeW rfl (fun _ => rfl) ?_
 rintro ⟨s, b, z⟩ r h g w vs hc hw ⟨_, _, rfl, ha, _, _, rfl, hb, _, _, rfl, hz, rfl⟩
 simp only [pintG] at h
 cases hk : (decide (s.size ≤ 281474976710656) && (b == 10 && (z == 64 || z == 8))) with
 | false => rw [hk] at h; cases h
 | true =>
  rw [hk] at h
  obtain rfl := Option.some.inj h
  simp only [Bool.and_eq_true, Bool.or_eq_true, decide_eq_true_eq, beq_iff_eq] at hk
  obtain ⟨hk, rfl, hzz⟩ := hk
  obtain ⟨t1, p1, e1⟩ := q.hs
  obtain ⟨t2, p2, e2⟩ := q.hr
  rcases hzz with rfl | rfl
  ·cases ha; cases hb; cases hz
   cases hr : Lib.parseIntB 64 s.data.toList with
   | ok v =>
    refine invokes_of_calls Tryz.func34 (by kernel_rfl) (by kernel_rfl) ((Tryz.strconv_ParseInt_10_at64_ok s (by omega) v hr w).mono ?_)
    rintro e w' ⟨rfl, hw⟩
    refine ⟨_, rfl, ⟨_, rfl, _, _, rfl, by rw [show Lib.parseIntB (Int.toNat 64) s.data.toList = _ from hr]; rfl, _, _, rfl, .inl ⟨by rw [show Lib.parseIntB (Int.toNat 64) s.data.toList = _ from hr]; rfl, rfl⟩, rfl⟩, ?_⟩
    rcases hw with rfl | ⟨t, rfl⟩
    ·exact Below.refl _ _
    ·exact Lib.bytesWorld_below _ _ _
   | range =>
    refine invokes_of_calls Tryz.func34 (by kernel_rfl) (by kernel_rfl) ((Tryz.strconv_ParseInt_10_at64_range s hk hr q.er w (cell_ran hc) (.inr ⟨_, _, e2⟩)).mono ?_)
    rintro e w' ⟨N, rfl, _, _, hw⟩
    exact ⟨_, rfl, ⟨_, rfl, _, _, rfl, by rw [show Lib.parseIntB (Int.toNat 64) s.data.toList = _ from hr]; rfl, _, _, rfl, .inr ⟨by rw [show Lib.parseIntB (Int.toNat 64) s.data.toList = _ from hr]; rfl, _, _, rfl⟩, rfl⟩, hw⟩
   | _ =>
    refine invokes_of_calls Tryz.func34 (by kernel_rfl) (by kernel_rfl) ((Tryz.strconv_ParseInt_10_at64_syntax s hk hr q.es w (cell_syn hc) (.inr ⟨_, _, e1⟩)).mono ?_)
    rintro e w' ⟨N, rfl, _, _, hw⟩
    exact ⟨_, rfl, ⟨_, rfl, _, _, rfl, by rw [show Lib.parseIntB (Int.toNat 64) s.data.toList = _ from hr]; rfl, _, _, rfl, .inr ⟨by rw [show Lib.parseIntB (Int.toNat 64) s.data.toList = _ from hr]; rfl, _, _, rfl⟩, rfl⟩, hw⟩
  ·cases ha; cases hb; cases hz
   cases hr : Lib.parseIntB 8 s.data.toList with
   | ok v =>
    refine invokes_of_calls Tryz.func34 (by kernel_rfl) (by kernel_rfl) ((Tryz.strconv_ParseInt_10_at8_ok s (by omega) v hr w).mono ?_)
    rintro e w' ⟨rfl, hw⟩
    refine ⟨_, rfl, ⟨_, rfl, _, _, rfl, by rw [show Lib.parseIntB (Int.toNat 8) s.data.toList = _ from hr]; rfl, _, _, rfl, .inl ⟨by rw [show Lib.parseIntB (Int.toNat 8) s.data.toList = _ from hr]; rfl, rfl⟩, rfl⟩, ?_⟩
    rcases hw with rfl | ⟨t, rfl⟩
    ·exact Below.refl _ _
    ·exact Lib.bytesWorld_below _ _ _
   | range =>
    refine invokes_of_calls Tryz.func34 (by kernel_rfl) (by kernel_rfl) ((Tryz.strconv_ParseInt_10_at8_range s hk hr q.er w (cell_ran hc) (.inr ⟨_, _, e2⟩)).mono ?_)
    rintro e w' ⟨N, rfl, _, _, hw⟩
    exact ⟨_, rfl, ⟨_, rfl, _, _, rfl, by rw [show Lib.parseIntB (Int.toNat 8) s.data.toList = _ from hr]; rfl, _, _, rfl, .inr ⟨by rw [show Lib.parseIntB (Int.toNat 8) s.data.toList = _ from hr]; rfl, _, _, rfl⟩, rfl⟩, hw⟩
   | _ =>
    refine invokes_of_calls Tryz.func34 (by kernel_rfl) (by kernel_rfl) ((Tryz.strconv_ParseInt_10_at8_syntax s hk hr q.es w (cell_syn hc) (.inr ⟨_, _, e1⟩)).mono ?_)
    rintro e w' ⟨N, rfl, _, _, hw⟩
    exact ⟨_, rfl, ⟨_, rfl, _, _, rfl, by rw [show Lib.parseIntB (Int.toNat 8) s.data.toList = _ from hr]; rfl, _, _, rfl, .inr ⟨by rw [show Lib.parseIntB (Int.toNat 8) s.data.toList = _ from hr]; rfl, _, _, rfl⟩, rfl⟩, hw⟩
def cutF (s c : ByteArray) : Option (TAs [shT, shT, .one (.d .bool)]) := bif decide (s.size < 4294967281) then some (⟨(Lib.cut s.data.toList c.data.toList).1.toArray⟩, ⟨(Lib.cut s.data.toList c.data.toList).2.1.toArray⟩, (Lib.cut s.data.toList c.data.toList).2.2) else none
def cutS : Sum := fnSum 2 0 3 [shT, shT] [shT, shT, .one (.d .bool)] (fun p => cutF p.1 p.2)
theorem cutS_ok {q : LQ} : SumOk Tryz.prog (laidQ q) 33 cutS := by
 refine bridgeW rfl (fun _ => rfl) ?_
 rintro ⟨s, c⟩ r h g w vs hc hw ⟨_, _, rfl, ha, _, _, rfl, hb, rfl⟩
 simp only [cutF] at h
 by_cases hk : s.size < 4294967281
 ·rw [decide_eq_true hk] at h
  obtain rfl := Option.some.inj h
  cases ha; cases hb
  refine invokes_of_calls Tryz.func33 (by kernel_rfl) (by kernel_rfl) ((Tryz.strings_Cut s c q.m w hk (cell_max hc)).mono ?_)
  rintro e w' ⟨rfl, n, rfl⟩
  exact ⟨_, rfl, ⟨_, rfl, _, _, rfl, rfl, _, _, rfl, rfl, _, _, rfl, rfl, rfl⟩, below_drewN _ _ _⟩
 ·rw [decide_eq_false hk] at h; cases h
theorem one_text {c : ByteArray} {x : UInt8} (h : c.data.toList = [x]) : c = ⟨#[x]⟩ := by
 apply ByteArray.ext
 have := congrArg List.toArray h
 simpa using this
def trimF (s c : ByteArray) : Option (TAs [shT]) := bif decide (s.size ≤ 9223372036854775807) && decide (c.data.toList = [48]) then some ⟨(Lib.trimRightB s.data.toList 48).toArray⟩ else none
def trimS : Sum := fnSum 2 0 1 [shT, shT] [shT] (fun p => trimF p.1 p.2)
theorem trimS_ok {q : LQ} : SumOk Tryz.prog (laidQ q) 59 trimS := by
 refine bridgeW rfl (fun _ => rfl) ?_
 rintro ⟨s, c⟩ r h g w vs hc hw ⟨_, _, rfl, ha, _, _, rfl, hb, rfl⟩
 simp only [trimF] at h
 cases hk : (decide (s.size ≤ 9223372036854775807) && decide (c.data.toList = [48])) with
 | false => rw [hk] at h; cases h
 | true =>
  rw [hk] at h
  obtain rfl := Option.some.inj h
  simp only [Bool.and_eq_true, decide_eq_true_eq] at hk
  obtain ⟨k0, k1⟩ := hk
  obtain rfl := one_text k1
  cases ha; cases hb
  refine invokes_of_calls Tryz.func59 (by kernel_rfl) (by kernel_rfl) ((Tryz.strings_TrimRight_one s 48 (by decide) w k0).mono ?_)
  rintro e w' ⟨rfl, rfl⟩
  exact ⟨_, rfl, rfl, Below.refl _ _⟩
end Go.Proofs.YthbhbfnnagaclaaGreatDoor.Mir
namespace Go.Proofs.YthbhbfnnagaclaaGreatDoor.Mir
open Go Go.RowKit
set_option maxRecDepth 100000
def ti_2 : TI := ⟨.int .i64, 1, 8, [int .i64 0], [.int .i64]⟩
theorem tk_2 : TyOk1 Go.Proofs.Tryz.prog 2 ti_2 := ⟨by kernel_rfl, fieldsNone (fun fs h => by cases h), ⟨Go.Proofs.Tryz.t2, (Go.Proofs.Tryz.t2.zero).getD .nilIface, by kernel_rfl, by kernel_rfl, by kernel_rfl, by kernel_rfl, by kernel_rfl⟩⟩
def ti_3 : TI := ⟨.int .i64, 1, 8, [int .i64 0], [.int .i64]⟩
theorem tk_3 : TyOk1 Go.Proofs.Tryz.prog 3 ti_3 := ⟨by kernel_rfl, fieldsNone (fun fs h => by cases h), ⟨Go.Proofs.Tryz.t3, (Go.Proofs.Tryz.t3.zero).getD .nilIface, by kernel_rfl, by kernel_rfl, by kernel_rfl, by kernel_rfl, by kernel_rfl⟩⟩
def ti_4 : TI := ⟨.bool, 1, 1, [boolC false], [.bool]⟩
theorem tk_4 : TyOk1 Go.Proofs.Tryz.prog 4 ti_4 := ⟨by kernel_rfl, fieldsNone (fun fs h => by cases h), ⟨Go.Proofs.Tryz.t4, (Go.Proofs.Tryz.t4.zero).getD .nilIface, by kernel_rfl, by kernel_rfl, by kernel_rfl, by kernel_rfl, by kernel_rfl⟩⟩
def ti_5 : TI := ⟨.int .u8, 1, 1, [int .u8 0], [.int .u8]⟩
theorem tk_5 : TyOk1 Go.Proofs.Tryz.prog 5 ti_5 := ⟨by kernel_rfl, fieldsNone (fun fs h => by cases h), ⟨Go.Proofs.Tryz.t5, (Go.Proofs.Tryz.t5.zero).getD .nilIface, by kernel_rfl, by kernel_rfl, by kernel_rfl, by kernel_rfl, by kernel_rfl⟩⟩
def ti_9 : TI := ⟨.string, 1, 16, [.lit (.string ByteArray.empty)], [.str]⟩
theorem tk_9 : TyOk1 Go.Proofs.Tryz.prog 9 ti_9 := ⟨by kernel_rfl, fieldsNone (fun fs h => by cases h), ⟨Go.Proofs.Tryz.t9, (Go.Proofs.Tryz.t9.zero).getD .nilIface, by kernel_rfl, by kernel_rfl, by kernel_rfl, by kernel_rfl, by kernel_rfl⟩⟩
def ti_23 : TI := ⟨.struct #[{ name := "Nano", type := 2, offset := 0, embedded := false, tag := "", pkgPath := "", byteOffset := 0 }, { name := "Off", type := 2, offset := 1, embedded := false, tag := "", pkgPath := "", byteOffset := 8 }], 2, 16, [int .i64 0, int .i64 0], [.int .i64, .int .i64]⟩
theorem tk_23 : TyOk1 Go.Proofs.Tryz.prog 23 ti_23 := ⟨by kernel_rfl, fieldsSome rfl (by kernel_rfl), ⟨Go.Proofs.Tryz.t23, (Go.Proofs.Tryz.t23.zero).getD .nilIface, by kernel_rfl, by kernel_rfl, by kernel_rfl, by kernel_rfl, by kernel_rfl⟩⟩
def ti_26 : TI := ⟨.interface #[("Error", 115)], 1, 16, [.lit .nilIface], [.err 54]⟩
theorem tk_26 : TyOk1 Go.Proofs.Tryz.prog 26 ti_26 := ⟨by kernel_rfl, fieldsNone (fun fs h => by cases h), ⟨Go.Proofs.Tryz.t26, (Go.Proofs.Tryz.t26.zero).getD .nilIface, by kernel_rfl, by kernel_rfl, by kernel_rfl, by kernel_rfl, by kernel_rfl⟩⟩
def ti_29 : TI := ⟨.struct #[{ name := "Nano", type := 2, offset := 0, embedded := false, tag := "", pkgPath := "", byteOffset := 0 }, { name := "Off", type := 2, offset := 1, embedded := false, tag := "", pkgPath := "", byteOffset := 8 }], 2, 16, [int .i64 0, int .i64 0], [.int .i64, .int .i64]⟩
theorem tk_29 : TyOk1 Go.Proofs.Tryz.prog 29 ti_29 := ⟨by kernel_rfl, fieldsSome rfl (by kernel_rfl), ⟨Go.Proofs.Tryz.t29, (Go.Proofs.Tryz.t29.zero).getD .nilIface, by kernel_rfl, by kernel_rfl, by kernel_rfl, by kernel_rfl, by kernel_rfl⟩⟩
def ti_54 : TI := ⟨.int .i64, 1, 8, [int .i64 0], [.int .i64]⟩
theorem tk_54 : TyOk1 Go.Proofs.Tryz.prog 54 ti_54 := ⟨by kernel_rfl, fieldsNone (fun fs h => by cases h), ⟨Go.Proofs.Tryz.t54, (Go.Proofs.Tryz.t54.zero).getD .nilIface, by kernel_rfl, by kernel_rfl, by kernel_rfl, by kernel_rfl, by kernel_rfl⟩⟩
def ti_70 : TI := ⟨.slice 9, 1, 24, [.lit (.slice none 0 0)], [.sl [.str]]⟩
theorem tk_70 : TyOk1 Go.Proofs.Tryz.prog 70 ti_70 := ⟨by kernel_rfl, fieldsNone (fun fs h => by cases h), ⟨Go.Proofs.Tryz.t70, (Go.Proofs.Tryz.t70.zero).getD .nilIface, by kernel_rfl, by kernel_rfl, by kernel_rfl, by kernel_rfl, by kernel_rfl⟩⟩
def ti_74 : TI := ⟨.pointer 54, 1, 8, [.lit (Value.pointer none)], []⟩
theorem tk_74 : TyOk1 Go.Proofs.Tryz.prog 74 ti_74 := ⟨by kernel_rfl, fieldsNone (fun fs h => by cases h), ⟨Go.Proofs.Tryz.t74, (Go.Proofs.Tryz.t74.zero).getD .nilIface, by kernel_rfl, by kernel_rfl, by kernel_rfl, by kernel_rfl, by kernel_rfl⟩⟩
def ti_77 : TI := ⟨.struct #[{ name := "H", type := 3, offset := 0, embedded := false, tag := "", pkgPath := "", byteOffset := 0 }, { name := "M", type := 3, offset := 1, embedded := false, tag := "", pkgPath := "", byteOffset := 8 }, { name := "S", type := 3, offset := 2, embedded := false, tag := "", pkgPath := "", byteOffset := 16 }], 3, 24, [int .i64 0, int .i64 0, int .i64 0], [.int .i64, .int .i64, .int .i64]⟩
theorem tk_77 : TyOk1 Go.Proofs.Tryz.prog 77 ti_77 := ⟨by kernel_rfl, fieldsSome rfl (by kernel_rfl), ⟨Go.Proofs.Tryz.t77, (Go.Proofs.Tryz.t77.zero).getD .nilIface, by kernel_rfl, by kernel_rfl, by kernel_rfl, by kernel_rfl, by kernel_rfl⟩⟩
def ti_81 : TI := ⟨.struct #[{ name := "Y", type := 3, offset := 0, embedded := false, tag := "", pkgPath := "", byteOffset := 0 }, { name := "M", type := 3, offset := 1, embedded := false, tag := "", pkgPath := "", byteOffset := 8 }, { name := "D", type := 3, offset := 2, embedded := false, tag := "", pkgPath := "", byteOffset := 16 }], 3, 24, [int .i64 0, int .i64 0, int .i64 0], [.int .i64, .int .i64, .int .i64]⟩
theorem tk_81 : TyOk1 Go.Proofs.Tryz.prog 81 ti_81 := ⟨by kernel_rfl, fieldsSome rfl (by kernel_rfl), ⟨Go.Proofs.Tryz.t81, (Go.Proofs.Tryz.t81.zero).getD .nilIface, by kernel_rfl, by kernel_rfl, by kernel_rfl, by kernel_rfl, by kernel_rfl⟩⟩
def ti_86 : TI := ⟨.struct #[{ name := "Y", type := 3, offset := 0, embedded := false, tag := "", pkgPath := "", byteOffset := 0 }, { name := "M", type := 3, offset := 1, embedded := false, tag := "", pkgPath := "", byteOffset := 8 }, { name := "D", type := 3, offset := 2, embedded := false, tag := "", pkgPath := "", byteOffset := 16 }], 3, 24, [int .i64 0, int .i64 0, int .i64 0], [.int .i64, .int .i64, .int .i64]⟩
theorem tk_86 : TyOk1 Go.Proofs.Tryz.prog 86 ti_86 := ⟨by kernel_rfl, fieldsSome rfl (by kernel_rfl), ⟨Go.Proofs.Tryz.t86, (Go.Proofs.Tryz.t86.zero).getD .nilIface, by kernel_rfl, by kernel_rfl, by kernel_rfl, by kernel_rfl, by kernel_rfl⟩⟩
def ti_89 : TI := ⟨.struct #[{ name := "H", type := 3, offset := 0, embedded := false, tag := "", pkgPath := "", byteOffset := 0 }, { name := "M", type := 3, offset := 1, embedded := false, tag := "", pkgPath := "", byteOffset := 8 }, { name := "S", type := 3, offset := 2, embedded := false, tag := "", pkgPath := "", byteOffset := 16 }], 3, 24, [int .i64 0, int .i64 0, int .i64 0], [.int .i64, .int .i64, .int .i64]⟩
theorem tk_89 : TyOk1 Go.Proofs.Tryz.prog 89 ti_89 := ⟨by kernel_rfl, fieldsSome rfl (by kernel_rfl), ⟨Go.Proofs.Tryz.t89, (Go.Proofs.Tryz.t89.zero).getD .nilIface, by kernel_rfl, by kernel_rfl, by kernel_rfl, by kernel_rfl, by kernel_rfl⟩⟩
def ti_131 : TI := ⟨.array 3 3, 3, 24, [.arr .i64 3 (List.replicate 3 0)], [.arr .i64 3]⟩
theorem tk_131 : TyOk1 Go.Proofs.Tryz.prog 131 ti_131 := ⟨by kernel_rfl, fieldsNone (fun fs h => by cases h), ⟨Go.Proofs.Tryz.t131, (Go.Proofs.Tryz.t131.zero).getD .nilIface, by kernel_rfl, by kernel_rfl, by kernel_rfl, by kernel_rfl, by kernel_rfl⟩⟩
def ti_172 : TI := ⟨.slice 3, 1, 24, [.lit (.slice none 0 0)], [.sl [.int .i64]]⟩
theorem tk_172 : TyOk1 Go.Proofs.Tryz.prog 172 ti_172 := ⟨by kernel_rfl, fieldsNone (fun fs h => by cases h), ⟨Go.Proofs.Tryz.t172, (Go.Proofs.Tryz.t172.zero).getD .nilIface, by kernel_rfl, by kernel_rfl, by kernel_rfl, by kernel_rfl, by kernel_rfl⟩⟩
def tab : List (Nat × TI) := [(2, ti_2), (3, ti_3), (4, ti_4), (5, ti_5), (9, ti_9), (23, ti_23), (26, ti_26), (29, ti_29), (54, ti_54), (70, ti_70), (74, ti_74), (77, ti_77), (81, ti_81), (86, ti_86), (89, ti_89), (131, ti_131), (172, ti_172)]
def tyT : TypeId → Option TI := lookT tab
theorem tyOk : TyOk Go.Proofs.Tryz.prog tyT := TysOk.ok (tysOk_cons tk_2 (tysOk_cons tk_3 (tysOk_cons tk_4 (tysOk_cons tk_5 (tysOk_cons tk_9 (tysOk_cons tk_23 (tysOk_cons tk_26 (tysOk_cons tk_29 (tysOk_cons tk_54 (tysOk_cons tk_70 (tysOk_cons tk_74 (tysOk_cons tk_77 (tysOk_cons tk_81 (tysOk_cons tk_86 (tysOk_cons tk_89 (tysOk_cons tk_131 (tysOk_cons tk_172 tysOk_nil)))))))))))))))))
theorem ek_29 : EqOk Go.Proofs.Tryz.prog 29 (eqQ [.int .i64, .int .i64]) := eqQ_ok (d := 9) (by kernel_rfl) (by omega) (by kernel_rfl) (by kernel_rfl)
theorem ek_77 : EqOk Go.Proofs.Tryz.prog 77 (eqQ [.int .i64, .int .i64, .int .i64]) := eqQ_ok (d := 9) (by kernel_rfl) (by omega) (by kernel_rfl) (by kernel_rfl)
def eqT : TypeId → Option (List C → List C → Option Bool) := lookE [(29, eqQ [.int .i64, .int .i64]), (77, eqQ [.int .i64, .int .i64, .int .i64])]
theorem eqOk : ∀ t q, eqT t = some q → EqOk Go.Proofs.Tryz.prog t q := (eqsOk_cons ek_29 (eqsOk_cons ek_77 eqsOk_nil))
variable {q : LQ}
theorem mix0 : Tryz.prog.follows .mixedOrders = true := by kernel_rfl
def h0 : Nat → Bool := fun _ => false
theorem fz : FnsOk Tryz.prog (laidQ q) [] := fnsOk_nil
theorem fk {g : Nat} {S : Sum} {l : List (Nat × Sum)} (h : SumOk Tryz.prog (laidQ q) g S) (t : FnsOk Tryz.prog (laidQ q) l) : FnsOk Tryz.prog (laidQ q) ((g, S) :: l) := fnsOk_cons h t
def cX (l : List (Nat × Sum)) (h : Nat → Bool) : Ctx := ⟨tyT, lookF l, eqT, h⟩
theorem cx {l : List (Nat × Sum)} (h : Nat → Bool) (H : FnsOk Tryz.prog (laidQ q) l) : CtxOk Tryz.prog (laidQ q) (cX l h) := ⟨tyOk, eqOk, fun _ _ => H.get, mix0⟩
theorem fn_x {l : List (Nat × Sum)} (h : Nat → Bool) (H : FnsOk Tryz.prog (laidQ q) l) {f : FuncId} {fn : Func} (hf : Tryz.prog.funcs[f]? = some fn) {n nOut nr : Nat} {PS RS : List ShA} {F : TAs PS → Option (TAs RS)} {ls : List (Nat × LSum)} (hl : LksOk Tryz.prog (laidQ q) nOut fn.ntmps 0 (bodyOf fn) ls)
  (hF : ∀ p, F p = exec (cX l h) fn.ntmps (lookL ls) (bodyOf fn) 0 (fnK (cX l h) fn.results.toList nOut RS) (fnSt n nOut PS p) := by intro _; kernel_rfl)
  (hb : fn.body = some (bodyOf fn) := by kernel_rfl) (hname : (fn.name == "runtime.NumGoroutine") = false := by kernel_rfl) (hnr : fn.results.size = nr := by exact rfl) (hn : nodupB ((loopsIn 0 (bodyOf fn)).map (·.1)) = true := by kernel_rfl) : SumOk Tryz.prog (laidQ q) f (fnSum n nOut nr PS RS F) :=
 fn_ok (cx h H) hf hb hname hnr hF (loopsAll hn hl)
theorem lp_x {l : List (Nat × Sum)} (h : Nat → Bool) (H : FnsOk Tryz.prog (laidQ q) l) {nOut NT cur k : Nat} {θ : Type} {live bl : List Nat} {sh : List ShA} {O : OutK nOut θ} {c : Code} {b : (TAs sh → Option θ) → TAs sh → Option θ} {N : Nat} {ls : List (Nat × LSum)} (hl : LksOk Tryz.prog (laidQ q) nOut NT k (unloop (loopAt cur k c)) ls)
  (hs : ∀ ih p, b ih p = exec (cX l h) NT (lookL ls) (unloop (loopAt cur k c)) k (roundK live bl sh O ih) (stOf live bl sh p) := by intro _ _; kernel_rfl)
  (hne : loopAt cur k c = .loop (unloop (loopAt cur k c)) := by kernel_rfl) (hn : nodupB ((loopsIn k (unloop (loopAt cur k c))).map (·.1)) = true := by kernel_rfl) : SegOk Tryz.prog (laidQ q) nOut NT (loopAt cur k c) (loopSum live bl sh O (iter b N)) :=
 (congrArg (fun c => SegOk Tryz.prog (laidQ q) nOut NT c (loopSum live bl sh O (iter b N))) hne).mpr (loop_ok (cx h H) (fun n => iter b n) (fun _ => rfl) (fun n p => hs (iter b n) p) (loopsAll hn hl) N)
theorem seg_x {l : List (Nat × Sum)} (h : Nat → Bool) (H : FnsOk Tryz.prog (laidQ q) l) {nOut NT cur : Nat} {θ : Type} {live bl : List Nat} {sh : List ShA} {O : OutK nOut θ} {body : Code} {F : TAs sh → Option θ} {ls : List (Nat × LSum)} (hl : LksOk Tryz.prog (laidQ q) nOut NT cur body ls)
  (hs : ∀ p, F p = exec (cX l h) NT (lookL ls) body cur O.K0 (stOf live bl sh p) := by intro _; kernel_rfl) (hn : nodupB ((loopsIn cur body).map (·.1)) = true := by kernel_rfl) : SegOk Tryz.prog (laidQ q) nOut NT body (loopSum live bl sh O F) :=
 seg_ok (cx h H) F hs (loopsAll hn hl)
abbrev zg0 : ShA := .agg [.d (.int .i64), .d (.int .i64), .d (.int .i64)]
abbrev zg1 : ShA := .agg [.d (.int .i64), .d (.int .i64)]
end Go.Proofs.YthbhbfnnagaclaaGreatDoor.Mir
namespace Go.Proofs.YthbhbfnnagaclaaGreatDoor.Mir
open Go Go.RowKit
set_option maxRecDepth 100000
noncomputable section
variable {q : LQ}
def f_14 (_ : Nat) (x1 : Option Int) : Option (TAs [.one (.d (.int .i64))]) :=
 (bif (Option.isNone x1) then (some 0) else ((some (x1, (0 : Int)) : Option (Option Int × Int)).bind fun r2 => (bif (Option.isSome r2.1) then (some (asVal r2.2 r2.1)) else (some (-1)))))
def S_14 (N : Nat) : Sum := fnSum 1 0 1 [.one (.d (.err 54))] [.one (.d (.int .i64))] (fun x1 => f_14 N x1)
theorem s_14 (N : Nat) : SumOk Tryz.prog (laidQ q) 14 (S_14 N) := fn_x h0 (fk (lift asS_ok) fz) Tryz.func14 (lookOk_nil)
def f_17 (_ : Nat) (x1 x2 : Int) : Option (TAs [.one (.d (.int .i64)), .one (.d (.int .i64)), .one (.d (.err 54))]) :=
 (bif (decide (x2 < 1)) then (some (0, 0, (some 1))) else (bif (decide (x2 = 0)) then none else (bif (decide (x2 = 0)) then none else (bif (decide ((Int.tmod x1 x2) < 0)) then (some ((IntKind.i64.wrap ((IntKind.i64.wrap (Int.tdiv x1 x2)) - 1)), (IntKind.i64.wrap ((Int.tmod x1 x2) + x2)), none)) else (some ((IntKind.i64.wrap (Int.tdiv x1 x2)), (Int.tmod x1 x2), none))))))
def S_17 (N : Nat) : Sum := fnSum 2 0 3 [.one (.d (.int .i64)), .one (.d (.int .i64))] [.one (.d (.int .i64)), .one (.d (.int .i64)), .one (.d (.err 54))] (fun (x1, x2) => f_17 N x1 x2)
theorem s_17 (N : Nat) : SumOk Tryz.prog (laidQ q) 17 (S_17 N) := fn_x h0 fz Tryz.func17 (lookOk_nil)
def X_24 (_ : Nat) : List (Nat × Sum) := [(53, splS), (34, pintGS)]
theorem x_24 (N : Nat) : FnsOk Tryz.prog (laidQ q) (X_24 N) := fk splS_ok (fk pintGS_ok fz)
def sh_24_0 : List ShA := [.one (.d (.str)), .one (.d (.int .i64)), .one (.d (.int .i64)), .one (.d (.sl [.str])), .one (.d (.int .i64)), .one (.d (.int .i64))]
abbrev T_24_0 := ((TAs [.one (.d (.int .i64)), .one (.d (.bool))]) ⊕ (TAs [.one (.d (.str)), .one (.d (.int .i64))]))
def o_24_0 : OutK 0 T_24_0 := (outTwo (outOne 0 .ret [2, 3] [] [.one (.d (.int .i64)), .one (.d (.bool))]) (outOne 0 (.exit 0) [0, 5] [] [.one (.d (.str)), .one (.d (.int .i64))]))
def b_24_0 (_ : Nat) (ih : TAs sh_24_0 → Option T_24_0) : TAs sh_24_0 → Option T_24_0 := fun (y3, y4, y5, y6, y7, y8) =>
 (bif (decide (y8 < y7)) then (bif (decide (0 ≤ y8 ∧ y8 < (List.length y6 : Int))) then ((pintG (List.getD y6 (Int.toNat y8) ByteArray.empty) 10 8).bind fun r9 => (bif (!r9.2) then (some (.inl (0, false))) else (ih (y3, (IntKind.i64.wrap (y4 + (IntKind.i64.wrap (r9.1 * y5)))), (IntKind.i64.wrap (Int.tdiv y5 60)), y6, y7, (IntKind.i64.wrap (y8 + 1)))))) else none) else (some (.inr (y3, y4))))
def l_24_0 (N : Nat) : TAs sh_24_0 → Option T_24_0 := iter (b_24_0 N) N
def L_24_0 (N : Nat) : LSum := loopSum [0, 5, 6, 24, 25, 26] [] sh_24_0 o_24_0 (l_24_0 N)
theorem L_ok_24_0 (N : Nat) : SegOk Tryz.prog (laidQ q) 0 Tryz.f24.ntmps (loopAt 0 0 (bodyOf Tryz.f24)) (L_24_0 N) :=
 lp_x h0 (x_24 N) (lookOk_nil)
def f_24 (N : Nat) (x1 : ByteArray) : Option (TAs [.one (.d (.int .i64)), .one (.d (.bool))]) :=
 (bif ((ByteArray.toList x1) == (ByteArray.toList (⟨#[]⟩ : ByteArray))) then (some (0, false)) else (bif (decide (0 ≤ (ByteArray.size x1 : Int) ∧ (ByteArray.size x1 : Int) ≤ (ByteArray.size x1 : Int))) then (bif (decide (0 ≤ (1 : Int) ∧ (1 : Int) ≤ (ByteArray.size x1 : Int))) then ((splF (ByteArray.extract x1 (Int.toNat (1 : Int)) (Int.toNat (ByteArray.size x1 : Int))) (⟨#[58]⟩)).bind fun r2 => (bif (decide ((List.length r2 : Int) < 2)) then (some (0, false)) else (bif (decide ((List.length r2 : Int) > 3)) then (some (0, false)) else ((l_24_0 N (x1, 0, 3600, r2, (List.length r2 : Int), 0)).bind fun q => (match q with | .inl q10 => (some (q10.1, q10.2)) | .inr q11 => (bif (decide (0 ≤ (1 : Int) ∧ (1 : Int) ≤ (ByteArray.size q11.1 : Int))) then (bif (decide (0 ≤ (0 : Int) ∧ (0 : Int) ≤ (1 : Int))) then (bif ((ByteArray.toList (ByteArray.extract q11.1 (Int.toNat (0 : Int)) (Int.toNat (1 : Int)))) == (ByteArray.toList (⟨#[45]⟩ : ByteArray))) then (some ((IntKind.i64.wrap (0 - q11.2)), true)) else (some (q11.2, true))) else none) else none)))))) else none) else none))
def S_24 (N : Nat) : Sum := fnSum 1 0 2 [.one (.d (.str))] [.one (.d (.int .i64)), .one (.d (.bool))] (fun x1 => f_24 N x1)
theorem s_24 (N : Nat) : SumOk Tryz.prog (laidQ q) 24 (S_24 N) := fn_x h0 (x_24 N) Tryz.func24 ((lookOk_cons (L_ok_24_0 N) lookOk_nil))
def f_25 (_ : Nat) (x1 x2 : Int) : Option (TAs [.one (.d (.int .i64)), .one (.d (.err 54))]) :=
 (bif (x1 == 0) then (some (0, none)) else (bif (x2 == 0) then (some (0, none)) else (bif (x1 == (-1)) then (bif (x2 == (-9223372036854775808)) then (some (0, (some 2))) else (bif (x2 == (-1)) then (bif (x1 == (-9223372036854775808)) then (some (0, (some 2))) else (bif (decide (x2 = 0)) then none else (bif ((IntKind.i64.wrap (Int.tdiv (IntKind.i64.wrap (x1 * x2)) x2)) != x1) then (some (0, (some 2))) else (some ((IntKind.i64.wrap (x1 * x2)), none))))) else (bif (decide (x2 = 0)) then none else (bif ((IntKind.i64.wrap (Int.tdiv (IntKind.i64.wrap (x1 * x2)) x2)) != x1) then (some (0, (some 2))) else (some ((IntKind.i64.wrap (x1 * x2)), none)))))) else (bif (x2 == (-1)) then (bif (x1 == (-9223372036854775808)) then (some (0, (some 2))) else (bif (decide (x2 = 0)) then none else (bif ((IntKind.i64.wrap (Int.tdiv (IntKind.i64.wrap (x1 * x2)) x2)) != x1) then (some (0, (some 2))) else (some ((IntKind.i64.wrap (x1 * x2)), none))))) else (bif (decide (x2 = 0)) then none else (bif ((IntKind.i64.wrap (Int.tdiv (IntKind.i64.wrap (x1 * x2)) x2)) != x1) then (some (0, (some 2))) else (some ((IntKind.i64.wrap (x1 * x2)), none))))))))
def S_25 (N : Nat) : Sum := fnSum 2 0 2 [.one (.d (.int .i64)), .one (.d (.int .i64))] [.one (.d (.int .i64)), .one (.d (.err 54))] (fun (x1, x2) => f_25 N x1 x2)
theorem s_25 (N : Nat) : SumOk Tryz.prog (laidQ q) 25 (S_25 N) := fn_x h0 fz Tryz.func25 (lookOk_nil)
def f_29 (_ : Nat) (x1 : Int) : Option (TAs [.one (.d (.str))]) :=
 ((fmtF (IntKind.i64.wrap (Int.tdiv x1 1000000000)) 10).bind fun r2 => ((fmtF (Int.tmod x1 1000000000) 10).bind fun r3 => ((repF (⟨#[48]⟩) (IntKind.i64.wrap (9 - (ByteArray.size r3 : Int)))).bind fun r4 => (bif (decide (((ByteArray.size r4 + ByteArray.size r3 : Nat) : Int) > 9223372036854775807)) then none else ((trimF (r4 ++ r3) (⟨#[48]⟩)).bind fun r5 => (bif ((ByteArray.toList r5) == (ByteArray.toList (⟨#[]⟩ : ByteArray))) then (bif (decide (((ByteArray.size r2 + ByteArray.size (⟨#[115]⟩ : ByteArray) : Nat) : Int) > 9223372036854775807)) then none else (some (r2 ++ (⟨#[115]⟩ : ByteArray)))) else (bif (decide (((ByteArray.size r2 + ByteArray.size (⟨#[46]⟩ : ByteArray) : Nat) : Int) > 9223372036854775807)) then none else (bif (decide (((ByteArray.size (r2 ++ (⟨#[46]⟩ : ByteArray)) + ByteArray.size r5 : Nat) : Int) > 9223372036854775807)) then none else (bif (decide (((ByteArray.size ((r2 ++ (⟨#[46]⟩ : ByteArray)) ++ r5) + ByteArray.size (⟨#[115]⟩ : ByteArray) : Nat) : Int) > 9223372036854775807)) then none else (some (((r2 ++ (⟨#[46]⟩ : ByteArray)) ++ r5) ++ (⟨#[115]⟩ : ByteArray))))))))))))
def S_29 (N : Nat) : Sum := fnSum 1 0 1 [.one (.d (.int .i64))] [.one (.d (.str))] (fun x1 => f_29 N x1)
theorem s_29 (N : Nat) : SumOk Tryz.prog (laidQ q) 29 (S_29 N) := fn_x h0 (fk fmtS_ok (fk repS_ok (fk trimS_ok fz))) Tryz.func29 (lookOk_nil)
def f_36 (_ : Nat) (x1 x2 : Int) : Option (TAs [.one (.d (.int .i64)), .one (.d (.err 54))]) :=
 (bif (!((decide ((IntKind.i64.wrap (x1 + x2)) < x1)) == (decide (x2 < 0)))) then (some (0, (some 2))) else (some ((IntKind.i64.wrap (x1 + x2)), none)))
def S_36 (N : Nat) : Sum := fnSum 2 0 2 [.one (.d (.int .i64)), .one (.d (.int .i64))] [.one (.d (.int .i64)), .one (.d (.err 54))] (fun (x1, x2) => f_36 N x1 x2)
theorem s_36 (N : Nat) : SumOk Tryz.prog (laidQ q) 36 (S_36 N) := fn_x h0 fz Tryz.func36 (lookOk_nil)
def f_41 (_ : Nat) (x1 : Int) : Option (TAs [zg0, .one (.d (.err 54))]) :=
 (bif (decide (x1 < 0)) then (some ((0, 0, 0), (some 1))) else (bif (decide (x1 > 86400)) then (some ((0, 0, 0), (some 1))) else (bif (x1 == 86400) then (some ((23, 59, 60), none)) else (some (((IntKind.i64.wrap (Int.tdiv x1 3600)), (Int.tmod (IntKind.i64.wrap (Int.tdiv x1 60)) 60), (Int.tmod x1 60)), none)))))
def S_41 (N : Nat) : Sum := fnSum 1 0 2 [.one (.d (.int .i64))] [zg0, .one (.d (.err 54))] (fun x1 => f_41 N x1)
theorem s_41 (N : Nat) : SumOk Tryz.prog (laidQ q) 41 (S_41 N) := fn_x h0 fz Tryz.func41 (lookOk_nil)
def f_44 (_ : Nat) (x1 x2 : Int) : Option (TAs [.one (.d (.str))]) :=
 ((fmtF x1 10).bind fun r3 => ((repF (⟨#[48]⟩) (if (IntKind.i64.wrap (x2 - (ByteArray.size r3 : Int))) > 0 then (IntKind.i64.wrap (x2 - (ByteArray.size r3 : Int))) else 0)).bind fun r4 => (bif (decide (((ByteArray.size r4 + ByteArray.size r3 : Nat) : Int) > 9223372036854775807)) then none else (some (r4 ++ r3)))))
def S_44 (N : Nat) : Sum := fnSum 2 0 1 [.one (.d (.int .i64)), .one (.d (.int .i64))] [.one (.d (.str))] (fun (x1, x2) => f_44 N x1 x2)
theorem s_44 (N : Nat) : SumOk Tryz.prog (laidQ q) 44 (S_44 N) := fn_x h0 (fk fmtS_ok (fk repS_ok fz)) Tryz.func44 (lookOk_nil)
def f_45 (_ : Nat) (x1 : Int) : Option (TAs [.one (.d (.str))]) :=
 ((fmtF (IntKind.i64.wrap (Int.tdiv x1 10)) 10).bind fun r2 => ((fmtF (Int.tmod x1 10) 10).bind fun r3 => (bif (decide (((ByteArray.size r2 + ByteArray.size r3 : Nat) : Int) > 9223372036854775807)) then none else (some (r2 ++ r3)))))
def S_45 (N : Nat) : Sum := fnSum 1 0 1 [.one (.d (.int .i64))] [.one (.d (.str))] (fun x1 => f_45 N x1)
theorem s_45 (N : Nat) : SumOk Tryz.prog (laidQ q) 45 (S_45 N) := fn_x h0 (fk fmtS_ok fz) Tryz.func45 (lookOk_nil)
def f_52 (_ : Nat) (x1 : ByteArray) : Option (TAs [.one (.d (.int .i64))]) :=
 ((pintG x1 10 64).bind fun r2 => (bif (!r2.2) then (some (-1)) else (some r2.1)))
def S_52 (N : Nat) : Sum := fnSum 1 0 1 [.one (.d (.str))] [.one (.d (.int .i64))] (fun x1 => f_52 N x1)
theorem s_52 (N : Nat) : SumOk Tryz.prog (laidQ q) 52 (S_52 N) := fn_x h0 (fk pintGS_ok fz) Tryz.func52 (lookOk_nil)
def f_54 (_ : Nat) (x1 : Bool) : Option (TAs [.one (.d (.int .i64))]) :=
 (bif x1 then (some (-9223372036854775808)) else (some 9223372036854775807))
def S_54 (N : Nat) : Sum := fnSum 1 0 1 [.one (.d (.bool))] [.one (.d (.int .i64))] (fun x1 => f_54 N x1)
theorem s_54 (N : Nat) : SumOk Tryz.prog (laidQ q) 54 (S_54 N) := fn_x h0 fz Tryz.func54 (lookOk_nil)
def f_76 (_ : Nat) (x1 x2 : Int) : Option (TAs [.one (.d (.str))]) :=
 ((itoaF x1).bind fun r3 => ((repF (⟨#[48]⟩) (IntKind.i64.wrap (x2 - (ByteArray.size r3 : Int)))).bind fun r4 => (bif (decide (((ByteArray.size r4 + ByteArray.size r3 : Nat) : Int) > 9223372036854775807)) then none else (some (r4 ++ r3)))))
def S_76 (N : Nat) : Sum := fnSum 2 0 1 [.one (.d (.int .i64)), .one (.d (.int .i64))] [.one (.d (.str))] (fun (x1, x2) => f_76 N x1 x2)
theorem s_76 (N : Nat) : SumOk Tryz.prog (laidQ q) 76 (S_76 N) := fn_x h0 (fk itoaS_ok (fk repS_ok fz)) Tryz.func76 (lookOk_nil)
def f_80 (_ : Nat) (x1 x2 x3 : Int) : Option (TAs [.one (.d (.err 54))]) :=
 (bif ((x1 == 23) && ((x2 == 59) && (x3 == 60))) then (some none) else (bif (decide (x1 < 0)) then (some (some 1)) else (bif (decide (x1 > 23)) then (some (some 1)) else (bif (decide (x2 < 0)) then (some (some 1)) else (bif (decide (x2 > 59)) then (some (some 1)) else (bif (decide (x3 < 0)) then (some (some 1)) else (bif (decide (x3 > 59)) then (some (some 1)) else (some none))))))))
def S_80 (N : Nat) : Sum := fnSum 1 0 1 [zg0] [.one (.d (.err 54))] (fun (x1, x2, x3) => f_80 N x1 x2 x3)
theorem s_80 (N : Nat) : SumOk Tryz.prog (laidQ q) 80 (S_80 N) := fn_x h0 fz Tryz.func80 (lookOk_nil)
def f_89 (_ : Nat) (x1 x2 : ByteArray) : Option (TAs [.one (.d (.bool))]) :=
 (bif (decide ((ByteArray.size x1 : Int) ≥ (ByteArray.size x2 : Int))) then (bif (decide (0 ≤ (ByteArray.size x1 : Int) ∧ (ByteArray.size x1 : Int) ≤ (ByteArray.size x1 : Int))) then (bif (decide (0 ≤ (IntKind.i64.wrap ((ByteArray.size x1 : Int) - (ByteArray.size x2 : Int))) ∧ (IntKind.i64.wrap ((ByteArray.size x1 : Int) - (ByteArray.size x2 : Int))) ≤ (ByteArray.size x1 : Int))) then (some ((ByteArray.toList (ByteArray.extract x1 (Int.toNat (IntKind.i64.wrap ((ByteArray.size x1 : Int) - (ByteArray.size x2 : Int)))) (Int.toNat (ByteArray.size x1 : Int)))) == (ByteArray.toList x2))) else none) else none) else (some false))
def S_89 (N : Nat) : Sum := fnSum 2 0 1 [.one (.d (.str)), .one (.d (.str))] [.one (.d (.bool))] (fun (x1, x2) => f_89 N x1 x2)
theorem s_89 (N : Nat) : SumOk Tryz.prog (laidQ q) 89 (S_89 N) := fn_x h0 fz Tryz.func89 (lookOk_nil)
def f_104 (_ : Nat) (x1 x2 : Int) : Option (TAs [.one (.d (.int .i64)), .one (.d (.err 54))]) :=
 (bif (!((decide ((IntKind.i64.wrap (x1 - x2)) > x1)) == (decide (x2 < 0)))) then (some (0, (some 2))) else (some ((IntKind.i64.wrap (x1 - x2)), none)))
def S_104 (N : Nat) : Sum := fnSum 2 0 2 [.one (.d (.int .i64)), .one (.d (.int .i64))] [.one (.d (.int .i64)), .one (.d (.err 54))] (fun (x1, x2) => f_104 N x1 x2)
theorem s_104 (N : Nat) : SumOk Tryz.prog (laidQ q) 104 (S_104 N) := fn_x h0 fz Tryz.func104 (lookOk_nil)
def f_128 (_ : Nat) (x1 : Int) : Option (TAs [.one (.d (.bool))]) :=
 (bif ((Int.tmod x1 4) == 0) then (bif ((Int.tmod x1 100) != 0) then (some true) else (some ((Int.tmod x1 400) == 0))) else (some false))
def S_128 (N : Nat) : Sum := fnSum 1 0 1 [.one (.d (.int .i64))] [.one (.d (.bool))] (fun x1 => f_128 N x1)
theorem s_128 (N : Nat) : SumOk Tryz.prog (laidQ q) 128 (S_128 N) := fn_x h0 fz Tryz.func128 (lookOk_nil)
def f_10 (N : Nat) (x1 : Int) : Option (TAs [.one (.d (.str)), .one (.d (.err 54))]) :=
 (bif (decide (x1 < 0)) then (some (⟨#[]⟩, (some 1))) else ((f_29 N x1).bind fun r2 => (some (r2, none))))
def S_10 (N : Nat) : Sum := fnSum 1 0 2 [.one (.d (.int .i64))] [.one (.d (.str)), .one (.d (.err 54))] (fun x1 => f_10 N x1)
theorem s_10 (N : Nat) : SumOk Tryz.prog (laidQ q) 10 (S_10 N) := fn_x h0 (fk (s_29 N) fz) Tryz.func10 (lookOk_nil)
def f_26 (N : Nat) (x1 x2 : Int) : Option (TAs [.one (.d (.int .i64))]) :=
 ((f_36 N x1 x2).bind fun r3 => (bif (!(Option.isNone r3.2)) then ((f_54 N (decide (x2 < 0))).bind fun r4 => (some r4)) else (some r3.1)))
def S_26 (N : Nat) : Sum := fnSum 2 0 1 [.one (.d (.int .i64)), .one (.d (.int .i64))] [.one (.d (.int .i64))] (fun (x1, x2) => f_26 N x1 x2)
theorem s_26 (N : Nat) : SumOk Tryz.prog (laidQ q) 26 (S_26 N) := fn_x h0 (fk (s_36 N) (fk (s_54 N) fz)) Tryz.func26 (lookOk_nil)
def f_51 (N : Nat) (x1 x2 x3 : Int) : Option (TAs [.one (.d (.int .i64)), .one (.d (.err 54))]) :=
 ((f_80 N x1 x2 x3).bind fun r4 => (bif (!(Option.isNone r4)) then (some (0, r4)) else (some ((IntKind.i64.wrap ((IntKind.i64.wrap ((IntKind.i64.wrap (x1 * 3600)) + (IntKind.i64.wrap (x2 * 60)))) + x3)), none))))
def S_51 (N : Nat) : Sum := fnSum 1 0 2 [zg0] [.one (.d (.int .i64)), .one (.d (.err 54))] (fun (x1, x2, x3) => f_51 N x1 x2 x3)
theorem s_51 (N : Nat) : SumOk Tryz.prog (laidQ q) 51 (S_51 N) := fn_x h0 (fk (s_80 N) fz) Tryz.func51 (lookOk_nil)
def f_60 (N : Nat) (x1 x2 : ByteArray) : Option (TAs [.one (.d (.str)), .one (.d (.bool))]) :=
 ((f_89 N x1 x2).bind fun r3 => (bif (!r3) then (some (x1, false)) else (bif (decide (0 ≤ (IntKind.i64.wrap ((ByteArray.size x1 : Int) - (ByteArray.size x2 : Int))) ∧ (IntKind.i64.wrap ((ByteArray.size x1 : Int) - (ByteArray.size x2 : Int))) ≤ (ByteArray.size x1 : Int))) then (bif (decide (0 ≤ (0 : Int) ∧ (0 : Int) ≤ (IntKind.i64.wrap ((ByteArray.size x1 : Int) - (ByteArray.size x2 : Int))))) then (some ((ByteArray.extract x1 (Int.toNat (0 : Int)) (Int.toNat (IntKind.i64.wrap ((ByteArray.size x1 : Int) - (ByteArray.size x2 : Int))))), true)) else none) else none)))
def S_60 (N : Nat) : Sum := fnSum 2 0 2 [.one (.d (.str)), .one (.d (.str))] [.one (.d (.str)), .one (.d (.bool))] (fun (x1, x2) => f_60 N x1 x2)
theorem s_60 (N : Nat) : SumOk Tryz.prog (laidQ q) 60 (S_60 N) := fn_x h0 (fk (s_89 N) fz) Tryz.func60 (lookOk_nil)
def f_74 (N : Nat) (x1 x2 : Int) : Option (TAs [.one (.d (.int .i64))]) :=
 ((f_104 N x1 x2).bind fun r3 => (bif (!(Option.isNone r3.2)) then ((f_54 N (decide (x2 > 0))).bind fun r4 => (some r4)) else (some r3.1)))
def S_74 (N : Nat) : Sum := fnSum 2 0 1 [.one (.d (.int .i64)), .one (.d (.int .i64))] [.one (.d (.int .i64))] (fun (x1, x2) => f_74 N x1 x2)
theorem s_74 (N : Nat) : SumOk Tryz.prog (laidQ q) 74 (S_74 N) := fn_x h0 (fk (s_104 N) (fk (s_54 N) fz)) Tryz.func74 (lookOk_nil)
def f_105 (N : Nat) (x1 x2 : Int) : Option (TAs [.one (.d (.int .i64))]) :=
 (bif (x2 == 1) then (some 31) else (bif (x2 == 3) then (some 31) else (bif (x2 == 5) then (some 31) else (bif (x2 == 7) then (some 31) else (bif (x2 == 8) then (some 31) else (bif (x2 == 10) then (some 31) else (bif (x2 == 12) then (some 31) else (bif (x2 == 4) then (some 30) else (bif (x2 == 6) then (some 30) else (bif (x2 == 9) then (some 30) else (bif (x2 == 11) then (some 30) else (bif (x2 == 2) then ((f_128 N x1).bind fun r3 => (bif r3 then (some 29) else (some 28))) else (some 0)))))))))))))
def S_105 (N : Nat) : Sum := fnSum 2 0 1 [.one (.d (.int .i64)), .one (.d (.int .i64))] [.one (.d (.int .i64))] (fun (x1, x2) => f_105 N x1 x2)
theorem s_105 (N : Nat) : SumOk Tryz.prog (laidQ q) 105 (S_105 N) := fn_x h0 (fk (s_128 N) fz) Tryz.func105 (lookOk_nil)
def f_32 (N : Nat) (x1 x2 : ByteArray) : Option (TAs [.one (.d (.str)), .one (.d (.bool))]) :=
 ((f_60 N x1 x2).bind fun r3 => (some (r3.1, r3.2)))
def S_32 (N : Nat) : Sum := fnSum 2 0 2 [.one (.d (.str)), .one (.d (.str))] [.one (.d (.str)), .one (.d (.bool))] (fun (x1, x2) => f_32 N x1 x2)
theorem s_32 (N : Nat) : SumOk Tryz.prog (laidQ q) 32 (S_32 N) := fn_x h0 (fk (s_60 N) fz) Tryz.func32 (lookOk_nil)
def f_40 (N : Nat) (x1 : Int) : Option (TAs [.one (.d (.int .i64))]) :=
 (bif (decide (x1 < 0)) then ((f_74 N 0 x1).bind fun r2 => (some r2)) else (some x1))
def S_40 (N : Nat) : Sum := fnSum 1 0 1 [.one (.d (.int .i64))] [.one (.d (.int .i64))] (fun x1 => f_40 N x1)
theorem s_40 (N : Nat) : SumOk Tryz.prog (laidQ q) 40 (S_40 N) := fn_x h0 (fk (s_74 N) fz) Tryz.func40 (lookOk_nil)
def f_75 (N : Nat) (x1 x2 x3 : Int) : Option (TAs [.one (.d (.err 54))]) :=
 (bif (decide (x1 < 1)) then (some (some 1)) else (bif (decide (x1 > 9999)) then (some (some 1)) else (bif (decide (x3 < 1)) then (some (some 1)) else ((f_105 N x1 x2).bind fun r4 => (bif (decide (x3 > r4)) then (some (some 1)) else (some none))))))
def S_75 (N : Nat) : Sum := fnSum 1 0 1 [zg0] [.one (.d (.err 54))] (fun (x1, x2, x3) => f_75 N x1 x2 x3)
theorem s_75 (N : Nat) : SumOk Tryz.prog (laidQ q) 75 (S_75 N) := fn_x h0 (fk (s_105 N) fz) Tryz.func75 (lookOk_nil)
def f_12 (N : Nat) (x1 : ByteArray) : Option (TAs [.one (.d (.int .i64)), .one (.d (.err 54))]) :=
 ((f_32 N x1 (⟨#[115]⟩)).bind fun r2 => ((cutF r2.1 (⟨#[46]⟩)).bind fun r3 => (bif (!r2.2) then (some (0, (some 3))) else (bif (decide ((ByteArray.size r3.2.1 : Int) > 9)) then (some (0, (some 3))) else ((pintG r3.1 10 64).bind fun r4 => (bif (!r4.2) then (some (0, (some 3))) else (bif (decide (((ByteArray.size (⟨#[48]⟩ : ByteArray) + ByteArray.size r3.2.1 : Nat) : Int) > 9223372036854775807)) then none else ((repF (⟨#[48]⟩) (IntKind.i64.wrap (9 - (ByteArray.size r3.2.1 : Int)))).bind fun r5 => (bif (decide (((ByteArray.size ((⟨#[48]⟩ : ByteArray) ++ r3.2.1) + ByteArray.size r5 : Nat) : Int) > 9223372036854775807)) then none else ((pintG (((⟨#[48]⟩ : ByteArray) ++ r3.2.1) ++ r5) 10 64).bind fun r6 => (bif (!r6.2) then (some (0, (some 3))) else ((f_25 N r4.1 1000000000).bind fun r7 => (bif (!(Option.isNone r7.2)) then (some (0, (some 3))) else ((f_36 N r7.1 r6.1).bind fun r8 => (bif (!(Option.isNone r8.2)) then (some (0, (some 3))) else (bif (decide (r8.1 < 0)) then (some (0, (some 3))) else ((f_29 N r8.1).bind fun r9 => (bif (!((ByteArray.toList r9) == (ByteArray.toList x1))) then (some (0, (some 3))) else (some (r8.1, none))))))))))))))))))))
def S_12 (N : Nat) : Sum := fnSum 1 0 2 [.one (.d (.str))] [.one (.d (.int .i64)), .one (.d (.err 54))] (fun x1 => f_12 N x1)
theorem s_12 (N : Nat) : SumOk Tryz.prog (laidQ q) 12 (S_12 N) := fn_x h0 (fk (s_32 N) (fk cutS_ok (fk pintGS_ok (fk repS_ok (fk (s_25 N) (fk (s_36 N) (fk (s_29 N) fz))))))) Tryz.func12 (lookOk_nil)
def f_15 (N : Nat) (x1 x2 : Int) : Option (TAs [.one (.d (.err 54))]) :=
 ((f_40 N x1).bind fun r3 => (bif (decide (r3 ≥ 4611686018427387904)) then (some (some 1)) else ((f_40 N x2).bind fun r4 => (bif (decide (r4 > 86399)) then (some (some 1)) else (some none)))))
def S_15 (N : Nat) : Sum := fnSum 1 0 1 [zg1] [.one (.d (.err 54))] (fun (x1, x2) => f_15 N x1 x2)
theorem s_15 (N : Nat) : SumOk Tryz.prog (laidQ q) 15 (S_15 N) := fn_x h0 (fk (s_40 N) fz) Tryz.func15 (lookOk_nil)
def f_19 (N : Nat) (x1 : Int) : Option (TAs [.one (.d (.str))]) :=
 ((f_40 N x1).bind fun r2 => (bif (decide (x1 < 0)) then ((f_45 N (IntKind.i64.wrap (Int.tdiv r2 3600))).bind fun r3 => (bif (decide (((ByteArray.size (⟨#[45]⟩ : ByteArray) + ByteArray.size r3 : Nat) : Int) > 9223372036854775807)) then none else (bif (decide (((ByteArray.size ((⟨#[45]⟩ : ByteArray) ++ r3) + ByteArray.size (⟨#[58]⟩ : ByteArray) : Nat) : Int) > 9223372036854775807)) then none else ((f_45 N (Int.tmod (IntKind.i64.wrap (Int.tdiv r2 60)) 60)).bind fun r4 => (bif (decide (((ByteArray.size (((⟨#[45]⟩ : ByteArray) ++ r3) ++ (⟨#[58]⟩ : ByteArray)) + ByteArray.size r4 : Nat) : Int) > 9223372036854775807)) then none else (bif (decide ((Int.tmod r2 60) > 0)) then ((f_45 N (Int.tmod r2 60)).bind fun r5 => (bif (decide (((ByteArray.size (⟨#[58]⟩ : ByteArray) + ByteArray.size r5 : Nat) : Int) > 9223372036854775807)) then none else (bif (decide (((ByteArray.size ((((⟨#[45]⟩ : ByteArray) ++ r3) ++ (⟨#[58]⟩ : ByteArray)) ++ r4) + ByteArray.size ((⟨#[58]⟩ : ByteArray) ++ r5) : Nat) : Int) > 9223372036854775807)) then none else (some (((((⟨#[45]⟩ : ByteArray) ++ r3) ++ (⟨#[58]⟩ : ByteArray)) ++ r4) ++ ((⟨#[58]⟩ : ByteArray) ++ r5)))))) else (some ((((⟨#[45]⟩ : ByteArray) ++ r3) ++ (⟨#[58]⟩ : ByteArray)) ++ r4)))))))) else ((f_45 N (IntKind.i64.wrap (Int.tdiv r2 3600))).bind fun r6 => (bif (decide (((ByteArray.size (⟨#[43]⟩ : ByteArray) + ByteArray.size r6 : Nat) : Int) > 9223372036854775807)) then none else (bif (decide (((ByteArray.size ((⟨#[43]⟩ : ByteArray) ++ r6) + ByteArray.size (⟨#[58]⟩ : ByteArray) : Nat) : Int) > 9223372036854775807)) then none else ((f_45 N (Int.tmod (IntKind.i64.wrap (Int.tdiv r2 60)) 60)).bind fun r7 => (bif (decide (((ByteArray.size (((⟨#[43]⟩ : ByteArray) ++ r6) ++ (⟨#[58]⟩ : ByteArray)) + ByteArray.size r7 : Nat) : Int) > 9223372036854775807)) then none else (bif (decide ((Int.tmod r2 60) > 0)) then ((f_45 N (Int.tmod r2 60)).bind fun r8 => (bif (decide (((ByteArray.size (⟨#[58]⟩ : ByteArray) + ByteArray.size r8 : Nat) : Int) > 9223372036854775807)) then none else (bif (decide (((ByteArray.size ((((⟨#[43]⟩ : ByteArray) ++ r6) ++ (⟨#[58]⟩ : ByteArray)) ++ r7) + ByteArray.size ((⟨#[58]⟩ : ByteArray) ++ r8) : Nat) : Int) > 9223372036854775807)) then none else (some (((((⟨#[43]⟩ : ByteArray) ++ r6) ++ (⟨#[58]⟩ : ByteArray)) ++ r7) ++ ((⟨#[58]⟩ : ByteArray) ++ r8)))))) else (some ((((⟨#[43]⟩ : ByteArray) ++ r6) ++ (⟨#[58]⟩ : ByteArray)) ++ r7))))))))))
def S_19 (N : Nat) : Sum := fnSum 1 0 1 [.one (.d (.int .i64))] [.one (.d (.str))] (fun x1 => f_19 N x1)
theorem s_19 (N : Nat) : SumOk Tryz.prog (laidQ q) 19 (S_19 N) := fn_x h0 (fk (s_40 N) (fk (s_45 N) fz)) Tryz.func19 (lookOk_nil)
def X_42 (N : Nat) : List (Nat × Sum) := [(36, (S_36 N)), (17, (S_17 N)), (75, (S_75 N))]
theorem x_42 (N : Nat) : FnsOk Tryz.prog (laidQ q) (X_42 N) := fk (s_36 N) (fk (s_17 N) (fk (s_75 N) fz))
def sh_42_1000000 : List ShA := [.one (.d (.int .i64))]
abbrev T_42_1000000 := TAs [.one (.d (.int .i64)), .one (.ptr 160 0), zg0]
def o_42_1000000 : OutK 0 T_42_1000000 := (outOne 0 .normal [0, 2] [160] [.one (.d (.int .i64)), .one (.ptr 160 0), zg0])
def l_42_1000000 (_ : Nat) : TAs sh_42_1000000 → Option T_42_1000000 := fun y2 =>
 (some ((y2, (), (0, 0, 0))))
def L_42_1000000 (N : Nat) : LSum := loopSum [0] [] sh_42_1000000 o_42_1000000 (l_42_1000000 N)
theorem L_ok_42_1000000 (N : Nat) : SegOk Tryz.prog (laidQ q) 0 Tryz.f42.ntmps (loopAt 0 1000000 (bodyOf Tryz.f42)) (L_42_1000000 N) :=
 seg_x (cur := 0) h0 (x_42 N) (lookOk_nil)
def sh_42_1000064 : List ShA := [.one (.d (.int .i64)), .one (.ptr 160 0), zg0]
abbrev T_42_1000064 := TAs [.one (.ptr 160 0), .one (.d (.int .i64)), .one (.d (.err 54)), zg0]
def o_42_1000064 : OutK 0 T_42_1000064 := (outOne 0 .normal [2, 4, 5] [160] [.one (.ptr 160 0), .one (.d (.int .i64)), .one (.d (.err 54)), zg0])
def l_42_1000064 (N : Nat) : TAs sh_42_1000064 → Option T_42_1000064 := fun (y4, _, (y5, y6, y7)) =>
 ((f_36 N y4 719468).bind fun r8 => (some (((), r8.1, r8.2, (y5, y6, y7)))))
def L_42_1000064 (N : Nat) : LSum := loopSum [0, 2] [160] sh_42_1000064 o_42_1000064 (l_42_1000064 N)
theorem L_ok_42_1000064 (N : Nat) : SegOk Tryz.prog (laidQ q) 0 Tryz.f42.ntmps (loopAt 0 1000064 (bodyOf Tryz.f42)) (L_42_1000064 N) :=
 seg_x (cur := 0) h0 (x_42 N) (lookOk_nil)
def sh_42_1000128 : List ShA := [.one (.ptr 160 0), .one (.d (.int .i64)), .one (.d (.err 54)), zg0]
abbrev T_42_1000128 := TAs [.one (.ptr 160 0), .one (.d (.int .i64)), .one (.d (.bool)), zg0]
def o_42_1000128 : OutK 0 T_42_1000128 := (outOne 0 .normal [2, 4, 17] [160] [.one (.ptr 160 0), .one (.d (.int .i64)), .one (.d (.bool)), zg0])
def l_42_1000128 (_ : Nat) : TAs sh_42_1000128 → Option T_42_1000128 := fun (_, y10, y11, (y12, y13, y14)) =>
 (some (((), y10, (!(Option.isNone y11)), (y12, y13, y14))))
def L_42_1000128 (N : Nat) : LSum := loopSum [2, 4, 5] [160] sh_42_1000128 o_42_1000128 (l_42_1000128 N)
theorem L_ok_42_1000128 (N : Nat) : SegOk Tryz.prog (laidQ q) 0 Tryz.f42.ntmps (loopAt 0 1000128 (bodyOf Tryz.f42)) (L_42_1000128 N) :=
 seg_x (cur := 0) h0 (x_42 N) (lookOk_nil)
def sh_42_1000256 : List ShA := [.one (.ptr 160 0), .one (.d (.int .i64)), zg0]
abbrev T_42_1000256 := TAs [.one (.ptr 160 0), .one (.d (.err 54)), .one (.d (.int .i64)), .one (.d (.int .i64)), zg0]
def o_42_1000256 : OutK 0 T_42_1000256 := (outOne 0 .normal [2, 5, 6, 7] [160] [.one (.ptr 160 0), .one (.d (.err 54)), .one (.d (.int .i64)), .one (.d (.int .i64)), zg0])
def l_42_1000256 (N : Nat) : TAs sh_42_1000256 → Option T_42_1000256 := fun (_, y16, (y17, y18, y19)) =>
 ((f_17 N y16 146097).bind fun r20 => (some (((), r20.2.2, r20.1, r20.2.1, (y17, y18, y19)))))
def L_42_1000256 (N : Nat) : LSum := loopSum [2, 4] [160] sh_42_1000256 o_42_1000256 (l_42_1000256 N)
theorem L_ok_42_1000256 (N : Nat) : SegOk Tryz.prog (laidQ q) 0 Tryz.f42.ntmps (loopAt 0 1000256 (bodyOf Tryz.f42)) (L_42_1000256 N) :=
 seg_x (cur := 0) h0 (x_42 N) (lookOk_nil)
def sh_42_1000320 : List ShA := [.one (.ptr 160 0), .one (.d (.err 54)), .one (.d (.int .i64)), .one (.d (.int .i64)), zg0]
abbrev T_42_1000320 := TAs [.one (.ptr 160 0), .one (.d (.int .i64)), .one (.d (.int .i64)), .one (.d (.bool)), zg0]
def o_42_1000320 : OutK 0 T_42_1000320 := (outOne 0 .normal [2, 6, 7, 31] [160] [.one (.ptr 160 0), .one (.d (.int .i64)), .one (.d (.int .i64)), .one (.d (.bool)), zg0])
def l_42_1000320 (_ : Nat) : TAs sh_42_1000320 → Option T_42_1000320 := fun (_, y22, y23, y24, (y25, y26, y27)) =>
 (bif (!(Option.isNone y22)) then (some (((), y23, y24, true, (y25, y26, y27)))) else (some (((), y23, y24, (decide (y23 > 9999)), (y25, y26, y27)))))
def L_42_1000320 (N : Nat) : LSum := loopSum [2, 5, 6, 7] [160] sh_42_1000320 o_42_1000320 (l_42_1000320 N)
theorem L_ok_42_1000320 (N : Nat) : SegOk Tryz.prog (laidQ q) 0 Tryz.f42.ntmps (loopAt 0 1000320 (bodyOf Tryz.f42)) (L_42_1000320 N) :=
 seg_x (cur := 0) h0 (x_42 N) (lookOk_nil)
def sh_42_1000448 : List ShA := [.one (.ptr 160 0), .one (.d (.int .i64)), .one (.d (.int .i64)), zg0]
abbrev T_42_1000448 := TAs [.one (.ptr 160 0), .one (.d (.int .i64)), .one (.d (.int .i64)), .one (.d (.int .i64)), zg0]
def o_42_1000448 : OutK 0 T_42_1000448 := (outOne 0 .normal [2, 6, 7, 8] [160] [.one (.ptr 160 0), .one (.d (.int .i64)), .one (.d (.int .i64)), .one (.d (.int .i64)), zg0])
def l_42_1000448 (_ : Nat) : TAs sh_42_1000448 → Option T_42_1000448 := fun (_, y29, y30, (y31, y32, y33)) =>
 (some (((), y29, y30, (IntKind.i64.wrap (Int.tdiv (IntKind.i64.wrap ((IntKind.i64.wrap ((IntKind.i64.wrap (y30 - (IntKind.i64.wrap (Int.tdiv y30 1460)))) + (IntKind.i64.wrap (Int.tdiv y30 36524)))) - (IntKind.i64.wrap (Int.tdiv y30 146096)))) 365)), (y31, y32, y33))))
def L_42_1000448 (N : Nat) : LSum := loopSum [2, 6, 7] [160] sh_42_1000448 o_42_1000448 (l_42_1000448 N)
theorem L_ok_42_1000448 (N : Nat) : SegOk Tryz.prog (laidQ q) 0 Tryz.f42.ntmps (loopAt 0 1000448 (bodyOf Tryz.f42)) (L_42_1000448 N) :=
 seg_x (cur := 0) h0 (x_42 N) (lookOk_nil)
def sh_42_1000512 : List ShA := [.one (.ptr 160 0), .one (.d (.int .i64)), .one (.d (.int .i64)), .one (.d (.int .i64)), zg0]
abbrev T_42_1000512 := TAs [.one (.ptr 160 0), .one (.d (.int .i64)), .one (.d (.int .i64)), .one (.d (.int .i64)), zg0]
def o_42_1000512 : OutK 0 T_42_1000512 := (outOne 0 .normal [2, 6, 7, 8] [160] [.one (.ptr 160 0), .one (.d (.int .i64)), .one (.d (.int .i64)), .one (.d (.int .i64)), zg0])
def l_42_1000512 (_ : Nat) : TAs sh_42_1000512 → Option T_42_1000512 := fun (_, y35, y36, y37, (y38, y39, y40)) =>
 (some (((), y35, (IntKind.i64.wrap (y36 - (IntKind.i64.wrap ((IntKind.i64.wrap ((IntKind.i64.wrap (365 * y37)) + (IntKind.i64.wrap (Int.tdiv y37 4)))) - (IntKind.i64.wrap (Int.tdiv y37 100)))))), y37, (y38, y39, y40))))
def L_42_1000512 (N : Nat) : LSum := loopSum [2, 6, 7, 8] [160] sh_42_1000512 o_42_1000512 (l_42_1000512 N)
theorem L_ok_42_1000512 (N : Nat) : SegOk Tryz.prog (laidQ q) 0 Tryz.f42.ntmps (loopAt 0 1000512 (bodyOf Tryz.f42)) (L_42_1000512 N) :=
 seg_x (cur := 0) h0 (x_42 N) (lookOk_nil)
def sh_42_1000576 : List ShA := [.one (.ptr 160 0), .one (.d (.int .i64)), .one (.d (.int .i64)), .one (.d (.int .i64)), zg0]
abbrev T_42_1000576 := TAs [.one (.ptr 160 0), .one (.d (.int .i64)), .one (.d (.int .i64)), .one (.d (.int .i64)), .one (.d (.int .i64)), zg0]
def o_42_1000576 : OutK 0 T_42_1000576 := (outOne 0 .normal [2, 6, 7, 8, 9] [160] [.one (.ptr 160 0), .one (.d (.int .i64)), .one (.d (.int .i64)), .one (.d (.int .i64)), .one (.d (.int .i64)), zg0])
def l_42_1000576 (_ : Nat) : TAs sh_42_1000576 → Option T_42_1000576 := fun (_, y42, y43, y44, (y45, y46, y47)) =>
 (some (((), y42, y43, y44, (IntKind.i64.wrap (Int.tdiv (IntKind.i64.wrap ((IntKind.i64.wrap (5 * y43)) + 2)) 153)), (y45, y46, y47))))
def L_42_1000576 (N : Nat) : LSum := loopSum [2, 6, 7, 8] [160] sh_42_1000576 o_42_1000576 (l_42_1000576 N)
theorem L_ok_42_1000576 (N : Nat) : SegOk Tryz.prog (laidQ q) 0 Tryz.f42.ntmps (loopAt 0 1000576 (bodyOf Tryz.f42)) (L_42_1000576 N) :=
 seg_x (cur := 0) h0 (x_42 N) (lookOk_nil)
def sh_42_1000640 : List ShA := [.one (.ptr 160 0), .one (.d (.int .i64)), .one (.d (.int .i64)), .one (.d (.int .i64)), .one (.d (.int .i64)), zg0]
abbrev T_42_1000640 := TAs [.one (.ptr 160 0), .one (.ptr 288 0), zg0, zg0]
def o_42_1000640 : OutK 0 T_42_1000640 := (outOne 0 .normal [2, 10] [160, 288] [.one (.ptr 160 0), .one (.ptr 288 0), zg0, zg0])
def l_42_1000640 (_ : Nat) : TAs sh_42_1000640 → Option T_42_1000640 := fun (_, y49, y50, y51, y52, (y53, y54, y55)) =>
 (some (((), (), (y53, y54, y55), ((IntKind.i64.wrap ((IntKind.i64.wrap ((IntKind.i64.wrap (400 * y49)) + y51)) + (IntKind.i64.wrap (Int.tdiv y52 10)))), (IntKind.i64.wrap ((Int.tmod (IntKind.i64.wrap (y52 + 2)) 12) + 1)), (IntKind.i64.wrap ((IntKind.i64.wrap (y50 - (IntKind.i64.wrap (Int.tdiv (IntKind.i64.wrap ((IntKind.i64.wrap (153 * y52)) + 2)) 5)))) + 1))))))
def L_42_1000640 (N : Nat) : LSum := loopSum [2, 6, 7, 8, 9] [160] sh_42_1000640 o_42_1000640 (l_42_1000640 N)
theorem L_ok_42_1000640 (N : Nat) : SegOk Tryz.prog (laidQ q) 0 Tryz.f42.ntmps (loopAt 0 1000640 (bodyOf Tryz.f42)) (L_42_1000640 N) :=
 seg_x (cur := 0) h0 (x_42 N) (lookOk_nil)
def sh_42_1000704 : List ShA := [.one (.ptr 160 0), .one (.ptr 288 0), zg0, zg0]
abbrev T_42_1000704 := TAs [.one (.ptr 160 0), .one (.ptr 288 0), .one (.d (.bool)), zg0, zg0]
def o_42_1000704 : OutK 0 T_42_1000704 := (outOne 0 .normal [2, 10, 80] [160, 288] [.one (.ptr 160 0), .one (.ptr 288 0), .one (.d (.bool)), zg0, zg0])
def l_42_1000704 (N : Nat) : TAs sh_42_1000704 → Option T_42_1000704 := fun (_, _, (y57, y58, y59), (y60, y61, y62)) =>
 ((f_75 N y60 y61 y62).bind fun r63 => (some (((), (), (!(Option.isNone r63)), (y57, y58, y59), (y60, y61, y62)))))
def L_42_1000704 (N : Nat) : LSum := loopSum [2, 10] [160, 288] sh_42_1000704 o_42_1000704 (l_42_1000704 N)
theorem L_ok_42_1000704 (N : Nat) : SegOk Tryz.prog (laidQ q) 0 Tryz.f42.ntmps (loopAt 0 1000704 (bodyOf Tryz.f42)) (L_42_1000704 N) :=
 seg_x (cur := 0) h0 (x_42 N) (lookOk_nil)
def f_42 (N : Nat) (x1 : Int) : Option (TAs [zg0, .one (.d (.err 54))]) :=
 ((l_42_1000000 N x1).bind fun q3 => ((l_42_1000064 N (q3.1, (), (q3.2.2.1, q3.2.2.2.1, q3.2.2.2.2))).bind fun q9 => ((l_42_1000128 N ((), q9.2.1, q9.2.2.1, (q9.2.2.2.1, q9.2.2.2.2.1, q9.2.2.2.2.2))).bind fun q15 => (bif q15.2.2.1 then (some ((0, 0, 0), (some 2))) else ((l_42_1000256 N ((), q15.2.1, (q15.2.2.2.1, q15.2.2.2.2.1, q15.2.2.2.2.2))).bind fun q21 => ((l_42_1000320 N ((), q21.2.1, q21.2.2.1, q21.2.2.2.1, (q21.2.2.2.2.1, q21.2.2.2.2.2.1, q21.2.2.2.2.2.2))).bind fun q28 => (bif q28.2.2.2.1 then (some ((0, 0, 0), (some 2))) else ((l_42_1000448 N ((), q28.2.1, q28.2.2.1, (q28.2.2.2.2.1, q28.2.2.2.2.2.1, q28.2.2.2.2.2.2))).bind fun q34 => ((l_42_1000512 N ((), q34.2.1, q34.2.2.1, q34.2.2.2.1, (q34.2.2.2.2.1, q34.2.2.2.2.2.1, q34.2.2.2.2.2.2))).bind fun q41 => ((l_42_1000576 N ((), q41.2.1, q41.2.2.1, q41.2.2.2.1, (q41.2.2.2.2.1, q41.2.2.2.2.2.1, q41.2.2.2.2.2.2))).bind fun q48 => ((l_42_1000640 N ((), q48.2.1, q48.2.2.1, q48.2.2.2.1, q48.2.2.2.2.1, (q48.2.2.2.2.2.1, q48.2.2.2.2.2.2.1, q48.2.2.2.2.2.2.2))).bind fun q56 => ((l_42_1000704 N ((), (), (q56.2.2.1.1, q56.2.2.1.2.1, q56.2.2.1.2.2), (q56.2.2.2.1, q56.2.2.2.2.1, q56.2.2.2.2.2))).bind fun q64 => (bif q64.2.2.1 then (some ((0, 0, 0), (some 2))) else (some ((q64.2.2.2.2.1, q64.2.2.2.2.2.1, q64.2.2.2.2.2.2), none)))))))))))))))
def S_42 (N : Nat) : Sum := fnSum 1 0 2 [.one (.d (.int .i64))] [zg0, .one (.d (.err 54))] (fun x1 => f_42 N x1)
theorem s_42 (N : Nat) : SumOk Tryz.prog (laidQ q) 42 (S_42 N) := fn_x h0 (x_42 N) Tryz.func42 ((lookOk_cons (L_ok_42_1000000 N) (lookOk_cons (L_ok_42_1000064 N) (lookOk_cons (L_ok_42_1000128 N) (lookOk_cons (L_ok_42_1000256 N) (lookOk_cons (L_ok_42_1000320 N) (lookOk_cons (L_ok_42_1000448 N) (lookOk_cons (L_ok_42_1000512 N) (lookOk_cons (L_ok_42_1000576 N) (lookOk_cons (L_ok_42_1000640 N) (lookOk_cons (L_ok_42_1000704 N) lookOk_nil)))))))))))
def f_43 (N : Nat) (x1 x2 x3 : Int) : Option (TAs [.one (.d (.str)), .one (.d (.err 54))]) :=
 ((f_75 N x1 x2 x3).bind fun r4 => (bif (!(Option.isNone r4)) then (some (⟨#[]⟩, r4)) else ((f_76 N x1 4).bind fun r5 => (bif (decide (((ByteArray.size r5 + ByteArray.size (⟨#[45]⟩ : ByteArray) : Nat) : Int) > 9223372036854775807)) then none else ((f_76 N x2 2).bind fun r6 => (bif (decide (((ByteArray.size (r5 ++ (⟨#[45]⟩ : ByteArray)) + ByteArray.size r6 : Nat) : Int) > 9223372036854775807)) then none else (bif (decide (((ByteArray.size ((r5 ++ (⟨#[45]⟩ : ByteArray)) ++ r6) + ByteArray.size (⟨#[45]⟩ : ByteArray) : Nat) : Int) > 9223372036854775807)) then none else ((f_76 N x3 2).bind fun r7 => (bif (decide (((ByteArray.size (((r5 ++ (⟨#[45]⟩ : ByteArray)) ++ r6) ++ (⟨#[45]⟩ : ByteArray)) + ByteArray.size r7 : Nat) : Int) > 9223372036854775807)) then none else (some (((((r5 ++ (⟨#[45]⟩ : ByteArray)) ++ r6) ++ (⟨#[45]⟩ : ByteArray)) ++ r7), none)))))))))))
def S_43 (N : Nat) : Sum := fnSum 1 0 2 [zg0] [.one (.d (.str)), .one (.d (.err 54))] (fun (x1, x2, x3) => f_43 N x1 x2 x3)
theorem s_43 (N : Nat) : SumOk Tryz.prog (laidQ q) 43 (S_43 N) := fn_x h0 (fk (s_75 N) (fk (s_76 N) fz)) Tryz.func43 (lookOk_nil)
def X_49 (N : Nat) : List (Nat × Sum) := [(53, splS), (79, atoiS), (43, (S_43 N))]
theorem x_49 (N : Nat) : FnsOk Tryz.prog (laidQ q) (X_49 N) := fk splS_ok (fk atoiS_ok (fk (s_43 N) fz))
def sh_49_0 : List ShA := [.one (.d (.str)), .one (.ptr 160 0), .one (.d (.sl [.str])), .one (.ptr 208 0), .one (.d (.int .i64)), zg0, .agg [.d (.arr .i64 3)]]
abbrev T_49_0 := ((TAs [.one (.ptr 160 0), .one (.d (.err 54)), zg0]) ⊕ (TAs [.one (.d (.str)), .one (.ptr 160 0), .one (.ptr 208 0), zg0, .agg [.d (.arr .i64 3)]]))
def o_49_0 : OutK 0 T_49_0 := (outTwo (outOne 0 .ret [2, 3] [160] [.one (.ptr 160 0), .one (.d (.err 54)), zg0]) (outOne 0 (.exit 0) [0, 2, 5] [160, 208] [.one (.d (.str)), .one (.ptr 160 0), .one (.ptr 208 0), zg0, .agg [.d (.arr .i64 3)]]))
def b_49_0 (_ : Nat) (ih : TAs sh_49_0 → Option T_49_0) : TAs sh_49_0 → Option T_49_0 := fun (y3, _, y4, _, y5, (y6, y7, y8), y9) =>
 (bif (decide (y5 < 3)) then (bif (decide (0 ≤ y5 ∧ y5 < (List.length y4 : Int))) then ((atoiF (List.getD y4 (Int.toNat y5) ByteArray.empty)).bind fun r10 => (bif (!r10.2) then (some (.inl ((), (some 3), (0, 0, 0)))) else (bif (decide (0 ≤ y5 ∧ y5 < 3)) then (ih (y3, (), y4, (), (IntKind.i64.wrap (y5 + 1)), (y6, y7, y8), (List.set y9 (Int.toNat y5) r10.1))) else none))) else none) else (some (.inr (y3, (), (), (y6, y7, y8), y9))))
def l_49_0 (N : Nat) : TAs sh_49_0 → Option T_49_0 := iter (b_49_0 N) N
def L_49_0 (N : Nat) : LSum := loopSum [0, 2, 4, 5, 19] [160, 208] sh_49_0 o_49_0 (l_49_0 N)
theorem L_ok_49_0 (N : Nat) : SegOk Tryz.prog (laidQ q) 0 Tryz.f49.ntmps (loopAt 0 0 (bodyOf Tryz.f49)) (L_49_0 N) :=
 lp_x h0 (x_49 N) (lookOk_nil)
def f_49 (N : Nat) (x1 : ByteArray) : Option (TAs [zg0, .one (.d (.err 54))]) :=
 ((splF x1 (⟨#[45]⟩)).bind fun r2 => (bif ((List.length r2 : Int) != 3) then (some ((0, 0, 0), (some 3))) else ((l_49_0 N (x1, (), r2, (), 0, (0, 0, 0), [0, 0, 0])).bind fun q => (match q with | .inl q11 => (some ((q11.2.2.1, q11.2.2.2.1, q11.2.2.2.2), q11.2.1)) | .inr q12 => ((f_43 N (List.getD q12.2.2.2.2 (Int.toNat 0) 0) (List.getD q12.2.2.2.2 (Int.toNat 1) 0) (List.getD q12.2.2.2.2 (Int.toNat 2) 0)).bind fun r13 => (bif (!(Option.isNone r13.2)) then (some ((0, 0, 0), (some 3))) else (bif (!((ByteArray.toList r13.1) == (ByteArray.toList q12.1))) then (some ((0, 0, 0), (some 3))) else (some (((List.getD q12.2.2.2.2 (Int.toNat 0) 0), (List.getD q12.2.2.2.2 (Int.toNat 1) 0), (List.getD q12.2.2.2.2 (Int.toNat 2) 0)), none)))))))))
def S_49 (N : Nat) : Sum := fnSum 1 0 2 [.one (.d (.str))] [zg0, .one (.d (.err 54))] (fun x1 => f_49 N x1)
theorem s_49 (N : Nat) : SumOk Tryz.prog (laidQ q) 49 (S_49 N) := fn_x h0 (x_49 N) Tryz.func49 ((lookOk_cons (L_ok_49_0 N) lookOk_nil))
def f_50 (N : Nat) (x1 x2 x3 : Int) : Option (TAs [.one (.d (.int .i64)), .one (.d (.err 54))]) :=
 ((f_75 N x1 x2 x3).bind fun r4 => (bif (!(Option.isNone r4)) then (some (0, r4)) else (bif (decide ((IntKind.i64.wrap (x2 - 3)) < 0)) then ((f_17 N (IntKind.i64.wrap (x1 - 1)) 400).bind fun r5 => (bif (!(Option.isNone r5.2.2)) then (some (0, r5.2.2)) else (some ((IntKind.i64.wrap ((IntKind.i64.wrap ((IntKind.i64.wrap ((IntKind.i64.wrap ((IntKind.i64.wrap ((IntKind.i64.wrap ((IntKind.i64.wrap ((IntKind.i64.wrap (r5.1 * 146097)) + (IntKind.i64.wrap (r5.2.1 * 365)))) + (IntKind.i64.wrap (Int.tdiv r5.2.1 4)))) - (IntKind.i64.wrap (Int.tdiv r5.2.1 100)))) + (IntKind.i64.wrap (Int.tdiv (IntKind.i64.wrap ((IntKind.i64.wrap (153 * (IntKind.i64.wrap ((IntKind.i64.wrap (x2 - 3)) + 12)))) + 2)) 5)))) + x3)) - 1)) - 719468)), none)))) else ((f_17 N x1 400).bind fun r6 => (bif (!(Option.isNone r6.2.2)) then (some (0, r6.2.2)) else (some ((IntKind.i64.wrap ((IntKind.i64.wrap ((IntKind.i64.wrap ((IntKind.i64.wrap ((IntKind.i64.wrap ((IntKind.i64.wrap ((IntKind.i64.wrap ((IntKind.i64.wrap (r6.1 * 146097)) + (IntKind.i64.wrap (r6.2.1 * 365)))) + (IntKind.i64.wrap (Int.tdiv r6.2.1 4)))) - (IntKind.i64.wrap (Int.tdiv r6.2.1 100)))) + (IntKind.i64.wrap (Int.tdiv (IntKind.i64.wrap ((IntKind.i64.wrap (153 * (IntKind.i64.wrap (x2 - 3)))) + 2)) 5)))) + x3)) - 1)) - 719468)), none)))))))
def S_50 (N : Nat) : Sum := fnSum 1 0 2 [zg0] [.one (.d (.int .i64)), .one (.d (.err 54))] (fun (x1, x2, x3) => f_50 N x1 x2 x3)
theorem s_50 (N : Nat) : SumOk Tryz.prog (laidQ q) 50 (S_50 N) := fn_x h0 (fk (s_75 N) (fk (s_17 N) fz)) Tryz.func50 (lookOk_nil)
def f_18 (N : Nat) (x1 x2 x3 : Int) : Option (TAs [.one (.d (.str)), .one (.d (.err 54))]) :=
 ((f_41 N x2).bind fun r4 => (bif (!(Option.isNone r4.2)) then (some (⟨#[]⟩, (some 1))) else (bif (decide (x3 < 0)) then (some (⟨#[]⟩, (some 1))) else (bif (decide (x3 ≥ 1000000000)) then (some (⟨#[]⟩, (some 1))) else ((f_42 N x1).bind fun r5 => (bif (!(Option.isNone r5.2)) then (some (⟨#[]⟩, r5.2)) else ((f_43 N r5.1.1 r5.1.2.1 r5.1.2.2).bind fun r6 => (bif (!(Option.isNone r6.2)) then (some (⟨#[]⟩, r6.2)) else (bif (decide (((ByteArray.size r6.1 + ByteArray.size (⟨#[84]⟩ : ByteArray) : Nat) : Int) > 9223372036854775807)) then none else ((f_44 N r4.1.1 2).bind fun r7 => (bif (decide (((ByteArray.size (r6.1 ++ (⟨#[84]⟩ : ByteArray)) + ByteArray.size r7 : Nat) : Int) > 9223372036854775807)) then none else (bif (decide (((ByteArray.size ((r6.1 ++ (⟨#[84]⟩ : ByteArray)) ++ r7) + ByteArray.size (⟨#[58]⟩ : ByteArray) : Nat) : Int) > 9223372036854775807)) then none else ((f_44 N r4.1.2.1 2).bind fun r8 => (bif (decide (((ByteArray.size (((r6.1 ++ (⟨#[84]⟩ : ByteArray)) ++ r7) ++ (⟨#[58]⟩ : ByteArray)) + ByteArray.size r8 : Nat) : Int) > 9223372036854775807)) then none else (bif (decide (((ByteArray.size ((((r6.1 ++ (⟨#[84]⟩ : ByteArray)) ++ r7) ++ (⟨#[58]⟩ : ByteArray)) ++ r8) + ByteArray.size (⟨#[58]⟩ : ByteArray) : Nat) : Int) > 9223372036854775807)) then none else ((f_44 N r4.1.2.2 2).bind fun r9 => (bif (decide (((ByteArray.size (((((r6.1 ++ (⟨#[84]⟩ : ByteArray)) ++ r7) ++ (⟨#[58]⟩ : ByteArray)) ++ r8) ++ (⟨#[58]⟩ : ByteArray)) + ByteArray.size r9 : Nat) : Int) > 9223372036854775807)) then none else (bif (decide (((ByteArray.size ((((((r6.1 ++ (⟨#[84]⟩ : ByteArray)) ++ r7) ++ (⟨#[58]⟩ : ByteArray)) ++ r8) ++ (⟨#[58]⟩ : ByteArray)) ++ r9) + ByteArray.size (⟨#[46]⟩ : ByteArray) : Nat) : Int) > 9223372036854775807)) then none else ((f_44 N x3 9).bind fun r10 => (bif (decide (((ByteArray.size (((((((r6.1 ++ (⟨#[84]⟩ : ByteArray)) ++ r7) ++ (⟨#[58]⟩ : ByteArray)) ++ r8) ++ (⟨#[58]⟩ : ByteArray)) ++ r9) ++ (⟨#[46]⟩ : ByteArray)) + ByteArray.size r10 : Nat) : Int) > 9223372036854775807)) then none else (some (((((((((r6.1 ++ (⟨#[84]⟩ : ByteArray)) ++ r7) ++ (⟨#[58]⟩ : ByteArray)) ++ r8) ++ (⟨#[58]⟩ : ByteArray)) ++ r9) ++ (⟨#[46]⟩ : ByteArray)) ++ r10), none))))))))))))))))))))))
def S_18 (N : Nat) : Sum := fnSum 3 0 2 [.one (.d (.int .i64)), .one (.d (.int .i64)), .one (.d (.int .i64))] [.one (.d (.str)), .one (.d (.err 54))] (fun (x1, x2, x3) => f_18 N x1 x2 x3)
theorem s_18 (N : Nat) : SumOk Tryz.prog (laidQ q) 18 (S_18 N) := fn_x h0 (fk (s_41 N) (fk (s_42 N) (fk (s_43 N) (fk (s_44 N) fz)))) Tryz.func18 (lookOk_nil)
def f_23 (N : Nat) (x1 : ByteArray) : Option (TAs [.one (.d (.int .i64)), .one (.d (.int .i64)), .one (.d (.int .i64)), .one (.d (.err 54))]) :=
 (bif ((ByteArray.size x1 : Int) != 29) then (some (0, 0, 0, (some 3))) else (bif (decide (0 ≤ (10 : Int) ∧ (10 : Int) ≤ (ByteArray.size x1 : Int))) then (bif (decide (0 ≤ (0 : Int) ∧ (0 : Int) ≤ (10 : Int))) then ((f_49 N (ByteArray.extract x1 (Int.toNat (0 : Int)) (Int.toNat (10 : Int)))).bind fun r2 => (bif (!(Option.isNone r2.2)) then (some (0, 0, 0, r2.2)) else ((f_50 N r2.1.1 r2.1.2.1 r2.1.2.2).bind fun r3 => (bif (!(Option.isNone r3.2)) then (some (0, 0, 0, (some 3))) else (bif (decide (0 ≤ (13 : Int) ∧ (13 : Int) ≤ (ByteArray.size x1 : Int))) then (bif (decide (0 ≤ (11 : Int) ∧ (11 : Int) ≤ (13 : Int))) then ((f_52 N (ByteArray.extract x1 (Int.toNat (11 : Int)) (Int.toNat (13 : Int)))).bind fun r4 => (bif (decide (0 ≤ (16 : Int) ∧ (16 : Int) ≤ (ByteArray.size x1 : Int))) then (bif (decide (0 ≤ (14 : Int) ∧ (14 : Int) ≤ (16 : Int))) then ((f_52 N (ByteArray.extract x1 (Int.toNat (14 : Int)) (Int.toNat (16 : Int)))).bind fun r5 => (bif (decide (0 ≤ (19 : Int) ∧ (19 : Int) ≤ (ByteArray.size x1 : Int))) then (bif (decide (0 ≤ (17 : Int) ∧ (17 : Int) ≤ (19 : Int))) then ((f_52 N (ByteArray.extract x1 (Int.toNat (17 : Int)) (Int.toNat (19 : Int)))).bind fun r6 => ((f_51 N r4 r5 r6).bind fun r7 => (bif (!(Option.isNone r7.2)) then (some (0, 0, 0, (some 3))) else (bif (decide (0 ≤ (ByteArray.size x1 : Int) ∧ (ByteArray.size x1 : Int) ≤ (ByteArray.size x1 : Int))) then (bif (decide (0 ≤ (20 : Int) ∧ (20 : Int) ≤ (ByteArray.size x1 : Int))) then ((f_52 N (ByteArray.extract x1 (Int.toNat (20 : Int)) (Int.toNat (ByteArray.size x1 : Int)))).bind fun r8 => ((f_18 N r3.1 r7.1 r8).bind fun r9 => (bif (!(Option.isNone r9.2)) then (some (0, 0, 0, (some 3))) else (bif (!((ByteArray.toList r9.1) == (ByteArray.toList x1))) then (some (0, 0, 0, (some 3))) else (some (r3.1, r7.1, r8, none)))))) else none) else none)))) else none) else none)) else none) else none)) else none) else none))))) else none) else none))
def S_23 (N : Nat) : Sum := fnSum 1 0 4 [.one (.d (.str))] [.one (.d (.int .i64)), .one (.d (.int .i64)), .one (.d (.int .i64)), .one (.d (.err 54))] (fun x1 => f_23 N x1)
theorem s_23 (N : Nat) : SumOk Tryz.prog (laidQ q) 23 (S_23 N) := fn_x h0 (fk (s_49 N) (fk (s_50 N) (fk (s_52 N) (fk (s_51 N) (fk (s_18 N) fz))))) Tryz.func23 (lookOk_nil)
def f_6 (N : Nat) (x1 x2 : Int) : Option (TAs [.one (.d (.str)), .one (.d (.err 54))]) :=
 ((f_15 N x1 x2).bind fun r3 => (bif (!(Option.isNone r3)) then (some (⟨#[]⟩, r3)) else ((f_17 N x1 1000000000).bind fun r4 => (bif (!(Option.isNone r4.2.2)) then (some (⟨#[]⟩, r4.2.2)) else ((f_17 N (IntKind.i64.wrap (r4.1 + x2)) 86400).bind fun r5 => (bif (!(Option.isNone r5.2.2)) then (some (⟨#[]⟩, r5.2.2)) else ((f_18 N r5.1 r5.2.1 r4.2.1).bind fun r6 => (bif (!(Option.isNone r6.2)) then (some (⟨#[]⟩, r6.2)) else ((f_19 N x2).bind fun r7 => (bif (decide (((ByteArray.size r6.1 + ByteArray.size r7 : Nat) : Int) > 9223372036854775807)) then none else (some ((r6.1 ++ r7), none))))))))))))
def S_6 (N : Nat) : Sum := fnSum 1 0 2 [zg1] [.one (.d (.str)), .one (.d (.err 54))] (fun (x1, x2) => f_6 N x1 x2)
theorem s_6 (N : Nat) : SumOk Tryz.prog (laidQ q) 6 (S_6 N) := fn_x h0 (fk (s_15 N) (fk (s_17 N) (fk (s_18 N) (fk (s_19 N) fz)))) Tryz.func6 (lookOk_nil)
def f_8 (N : Nat) (x1 : ByteArray) : Option (TAs [zg1, .one (.d (.err 54))]) :=
 (bif (decide ((ByteArray.size x1 : Int) < 29)) then (some ((0, 0), (some 3))) else (bif (decide (0 ≤ (29 : Int) ∧ (29 : Int) ≤ (ByteArray.size x1 : Int))) then (bif (decide (0 ≤ (0 : Int) ∧ (0 : Int) ≤ (29 : Int))) then ((f_23 N (ByteArray.extract x1 (Int.toNat (0 : Int)) (Int.toNat (29 : Int)))).bind fun r2 => (bif (decide (0 ≤ (ByteArray.size x1 : Int) ∧ (ByteArray.size x1 : Int) ≤ (ByteArray.size x1 : Int))) then (bif (decide (0 ≤ (29 : Int) ∧ (29 : Int) ≤ (ByteArray.size x1 : Int))) then ((f_24 N (ByteArray.extract x1 (Int.toNat (29 : Int)) (Int.toNat (ByteArray.size x1 : Int)))).bind fun r3 => (bif (!(Option.isNone r2.2.2.2)) then (some ((0, 0), (some 3))) else (bif (!r3.2) then (some ((0, 0), (some 3))) else ((f_25 N (IntKind.i64.wrap ((IntKind.i64.wrap ((IntKind.i64.wrap (r2.1 * 86400)) + r2.2.1)) - r3.1)) 1000000000).bind fun r4 => (bif (!(Option.isNone r4.2)) then (some ((0, 0), (some 3))) else ((f_26 N r4.1 r2.2.2.1).bind fun r5 => ((f_6 N r5 r3.1).bind fun r6 => (bif (!(Option.isNone r6.2)) then (some ((0, 0), (some 3))) else (bif (!((ByteArray.toList r6.1) == (ByteArray.toList x1))) then (some ((0, 0), (some 3))) else (some ((r5, r3.1), none))))))))))) else none) else none)) else none) else none))
def S_8 (N : Nat) : Sum := fnSum 1 0 2 [.one (.d (.str))] [zg1, .one (.d (.err 54))] (fun x1 => f_8 N x1)
theorem s_8 (N : Nat) : SumOk Tryz.prog (laidQ q) 8 (S_8 N) := fn_x h0 (fk (s_23 N) (fk (s_24 N) (fk (s_25 N) (fk (s_26 N) (fk (s_6 N) fz))))) Tryz.func8 (lookOk_nil)
def f_5 (N : Nat) : Option (TAs [.one (.d (.bool))]) :=
 ((f_6 N 0 3600).bind fun r1 => ((f_10 N 1500000000).bind fun r2 => ((f_8 N (⟨#[49, 57, 55, 48, 45, 48, 49, 45, 48, 49, 84, 48, 48, 58, 48, 48, 58, 48, 48, 46, 48, 48, 48, 48, 48, 48, 48, 48, 49, 45, 48, 48, 58, 48, 48, 58, 48, 49]⟩)).bind fun r3 => ((f_12 N (⟨#[48, 46, 48, 48, 48, 48, 48, 48, 48, 48, 49, 115]⟩)).bind fun r4 => ((f_8 N (⟨#[120]⟩)).bind fun r5 => (bif (Option.isNone r1.2) then (bif (Option.isNone r2.2) then (bif (Option.isNone r3.2) then (bif (Option.isNone r4.2) then (bif ((ByteArray.toList r1.1) == (ByteArray.toList (⟨#[49, 57, 55, 48, 45, 48, 49, 45, 48, 49, 84, 48, 49, 58, 48, 48, 58, 48, 48, 46, 48, 48, 48, 48, 48, 48, 48, 48, 48, 43, 48, 49, 58, 48, 48]⟩ : ByteArray))) then (bif ((ByteArray.toList r2.1) == (ByteArray.toList (⟨#[49, 46, 53, 115]⟩ : ByteArray))) then (bif ((r3.1.1 == 1000000001) && (r3.1.2 == (-1))) then (bif (r4.1 == 1) then ((f_14 N r5.2).bind fun r6 => (some (r6 == 3))) else (some false)) else (some false)) else (some false)) else (some false)) else (some false)) else (some false)) else (some false)) else (some false)))))))
def S_5 (N : Nat) : Sum := fnSum 0 0 1 [] [.one (.d (.bool))] (fun _ => f_5 N)
theorem s_5 (N : Nat) : SumOk Tryz.prog (laidQ q) 5 (S_5 N) := fn_x h0 (fk (s_6 N) (fk (s_10 N) (fk (s_8 N) (fk (s_12 N) (fk (s_14 N) fz))))) Tryz.func5 (lookOk_nil)
def f_4 (N : Nat) (x1 x2 x3 x4 : Int) : Option (TAs [.one (.d (.bool))]) :=
 ((f_6 N x1 x2).bind fun r5 => (bif (Option.isNone r5.2) then ((f_8 N r5.1).bind fun r6 => (bif (!(Option.isNone r6.2)) then (some false) else (bif (!((r6.1.1 == x1) && (r6.1.2 == x2))) then (some false) else ((f_6 N x3 x2).bind fun r7 => (bif (Option.isNone r7.2) then (bif (!((decide (x1 < x3)) == (Op.bytesLess (ByteArray.toList r5.1) (ByteArray.toList r7.1)))) then (some false) else (bif (!((x1 == x3) == ((ByteArray.toList r5.1) == (ByteArray.toList r7.1)))) then (some false) else ((f_10 N x4).bind fun r8 => ((f_12 N r8.1).bind fun r9 => (bif (decide (x4 < 0)) then ((f_14 N r8.2).bind fun r10 => (bif (r10 == 1) then ((f_14 N r9.2).bind fun r11 => (bif (r11 == 3) then ((f_5 N).bind fun r12 => (some r12)) else (some false))) else (some false))) else (bif (Option.isNone r8.2) then (bif (Option.isNone r9.2) then (bif (r9.1 == x4) then ((f_5 N).bind fun r13 => (some r13)) else (some false)) else (some false)) else (some false))))))) else ((f_10 N x4).bind fun r14 => ((f_12 N r14.1).bind fun r15 => (bif (decide (x4 < 0)) then ((f_14 N r14.2).bind fun r16 => (bif (r16 == 1) then ((f_14 N r15.2).bind fun r17 => (bif (r17 == 3) then ((f_5 N).bind fun r18 => (some r18)) else (some false))) else (some false))) else (bif (Option.isNone r14.2) then (bif (Option.isNone r15.2) then (bif (r15.1 == x4) then ((f_5 N).bind fun r19 => (some r19)) else (some false)) else (some false)) else (some false)))))))))) else ((f_10 N x4).bind fun r20 => ((f_12 N r20.1).bind fun r21 => (bif (decide (x4 < 0)) then ((f_14 N r20.2).bind fun r22 => (bif (r22 == 1) then ((f_14 N r21.2).bind fun r23 => (bif (r23 == 3) then ((f_5 N).bind fun r24 => (some r24)) else (some false))) else (some false))) else (bif (Option.isNone r20.2) then (bif (Option.isNone r21.2) then (bif (r21.1 == x4) then ((f_5 N).bind fun r25 => (some r25)) else (some false)) else (some false)) else (some false)))))))
def S_4 (N : Nat) : Sum := fnSum 3 0 1 [zg1, .one (.d (.int .i64)), .one (.d (.int .i64))] [.one (.d (.bool))] (fun ((x1, x2), x3, x4) => f_4 N x1 x2 x3 x4)
theorem s_4 (N : Nat) : SumOk Tryz.prog (laidQ q) 4 (S_4 N) := fn_x h0 (fk (s_6 N) (fk (s_8 N) (fk (s_10 N) (fk (s_12 N) (fk (s_14 N) (fk (s_5 N) fz)))))) Tryz.func4 (lookOk_nil)
end
end Go.Proofs.YthbhbfnnagaclaaGreatDoor.Mir
namespace Go.Proofs.YthbhbfnnagaclaaGreatDoor.Mir
open Go Go.RowKit
set_option maxRecDepth 100000
def rB (s : Int) : Bool := decide (-9223372036854775808 ≤ s ∧ s < 9223372036854775808)
def fit64 (s : Int) : Int × Option Int := bif rB s then (s, none) else (0, some 2)
def satI (s : Int) : Int := if s < -9223372036854775808 then -9223372036854775808 else if s > 9223372036854775807 then 9223372036854775807 else s
theorem rB_t {s : Int} (h : R64 s) : rB s = true := decide_eq_true h
theorem rB_f {s : Int} (h : ¬ R64 s) : rB s = false := decide_eq_false h
theorem satI_in {s : Int} (h : R64 s) : satI s = s := by
 obtain ⟨h1, h2⟩ := h
 unfold satI; rw [if_neg (by omega), if_neg (by omega)]
theorem satI_rng (s : Int) : R64 (satI s) := by
 unfold satI R64
 split
 ·omega
 ·split <;> omega
theorem nadd_at (N : Nat) {a b : Int} (ha : R64 a) (hb : R64 b) : f_36 N a b = some (fit64 (a + b)) := by
 obtain ⟨a1, a2⟩ := ha
 obtain ⟨b1, b2⟩ := hb
 unfold f_36 fit64 rB
 by_cases h : -9223372036854775808 ≤ a + b ∧ a + b < 9223372036854775808
 ·rw [wi64 h.1 h.2, decide_eq_true h, show decide (a + b < a) = decide (b < 0) from decide_eq_decide.2 (by omega)]
  simp
 ·rw [decide_eq_false h]
  rcases (show a + b ≥ 9223372036854775808 ∨ a + b < -9223372036854775808 by omega) with h1 | h1
  ·have e : IntKind.i64.wrap (a + b) = a + b - 18446744073709551616 := by rw [IntKind.wrap_i64]; omega
   rw [e, decide_eq_true (show a + b - 18446744073709551616 < a by omega), decide_eq_false (show ¬ b < 0 by omega)]; rfl
  ·have e : IntKind.i64.wrap (a + b) = a + b + 18446744073709551616 := by rw [IntKind.wrap_i64]; omega
   rw [e, decide_eq_false (show ¬ a + b + 18446744073709551616 < a by omega), decide_eq_true (show b < 0 by omega)]; rfl
theorem nsub_at (N : Nat) {a b : Int} (ha : R64 a) (hb : R64 b) : f_104 N a b = some (fit64 (a - b)) := by
 obtain ⟨a1, a2⟩ := ha
 obtain ⟨b1, b2⟩ := hb
 unfold f_104 fit64 rB
 by_cases h : -9223372036854775808 ≤ a - b ∧ a - b < 9223372036854775808
 ·rw [wi64 h.1 h.2, decide_eq_true h, show decide (a - b > a) = decide (b < 0) from decide_eq_decide.2 (by omega)]
  simp
 ·rw [decide_eq_false h]
  rcases (show a - b ≥ 9223372036854775808 ∨ a - b < -9223372036854775808 by omega) with h1 | h1
  ·have e : IntKind.i64.wrap (a - b) = a - b - 18446744073709551616 := by rw [IntKind.wrap_i64]; omega
   rw [e, decide_eq_false (show ¬ a - b - 18446744073709551616 > a by omega), decide_eq_true (show b < 0 by omega)]; rfl
  ·have e : IntKind.i64.wrap (a - b) = a - b + 18446744073709551616 := by rw [IntKind.wrap_i64]; omega
   rw [e, decide_eq_true (show a - b + 18446744073709551616 > a by omega), decide_eq_false (show ¬ b < 0 by omega)]; rfl
theorem nedge_at (N : Nat) (b : Bool) : f_54 N b = some (bif b then -9223372036854775808 else 9223372036854775807) := by cases b <;> rfl
theorem naddsat_at (N : Nat) {a b : Int} (ha : R64 a) (hb : R64 b) : f_26 N a b = some (satI (a + b)) := by
 unfold f_26
 rw [nadd_at N ha hb, nedge_at]
 obtain ⟨a1, a2⟩ := ha
 obtain ⟨b1, b2⟩ := hb
 simp only [Option.bind_some]
 by_cases h : R64 (a + b)
 ·unfold fit64; rw [rB_t h, satI_in h]; rfl
 ·unfold fit64; rw [rB_f h]
  simp only [cond_false, Option.isNone_some, Bool.not_false, cond_true]
  unfold R64 at h
  unfold satI
  by_cases h0 : b < 0
  ·rw [decide_eq_true h0, if_pos (by omega)]; rfl
  ·rw [decide_eq_false h0, if_neg (by omega), if_pos (by omega)]; rfl
theorem nsubsat_at (N : Nat) {a b : Int} (ha : R64 a) (hb : R64 b) : f_74 N a b = some (satI (a - b)) := by
 unfold f_74
 rw [nsub_at N ha hb, nedge_at]
 obtain ⟨a1, a2⟩ := ha
 obtain ⟨b1, b2⟩ := hb
 simp only [Option.bind_some]
 by_cases h : R64 (a - b)
 ·unfold fit64; rw [rB_t h, satI_in h]; rfl
 ·unfold fit64; rw [rB_f h]
  simp only [cond_false, Option.isNone_some, Bool.not_false, cond_true]
  unfold R64 at h
  unfold satI
  by_cases h0 : b > 0
  ·rw [decide_eq_true h0, if_pos (by omega)]; rfl
  ·rw [decide_eq_false h0, if_neg (by omega), if_pos (by omega)]; rfl
theorem tmod_rng {a b : Int} (hb : 0 < b) : -b < Int.tmod a b ∧ Int.tmod a b < b ∧ (0 ≤ a → 0 ≤ Int.tmod a b) ∧ (a ≤ 0 → Int.tmod a b ≤ 0) := by
 rcases Int.lt_or_le a 0 with h | h
 ·have a1 := Int.tmod_nonneg b (show 0 ≤ -a by omega)
  have a2 := Int.tmod_lt_of_pos (-a) hb
  rw [Int.neg_tmod] at a1 a2
  exact ⟨by omega, by omega, fun h' => by omega, fun _ => by omega⟩
 ·have a1 := Int.tmod_nonneg b h
  have a2 := Int.tmod_lt_of_pos a hb
  refine ⟨by omega, by omega, fun _ => a1, fun h' => ?_⟩
  obtain rfl : a = 0 := by omega
  simp
theorem floor_t {a b : Int} (hb : 0 < b) : a / b = (if Int.tmod a b < 0 then Int.tdiv a b - 1 else Int.tdiv a b) ∧ a % b = (if Int.tmod a b < 0 then Int.tmod a b + b else Int.tmod a b) := by
 have e := Int.mul_tdiv_add_tmod a b
 obtain ⟨l1, l2, _⟩ := tmod_rng (a := a) hb
 split
 ·exact (Int.ediv_emod_unique hb).2 ⟨by rw [Int.mul_sub, Int.mul_one]; omega, by omega, by omega⟩
 ·exact (Int.ediv_emod_unique hb).2 ⟨by omega, by omega, by omega⟩
theorem fdiv_rng {a b : Int} (hb : 1 ≤ b) : (0 ≤ a → 0 ≤ a / b ∧ a / b ≤ a) ∧ (a < 0 → a ≤ a / b ∧ a / b < 0) := by
 have e := Int.mul_ediv_add_emod a b
 have e1 := Int.emod_nonneg a (show b ≠ 0 by omega)
 have e2 := Int.emod_lt_of_pos a (show 0 < b by omega)
 refine ⟨fun h => ⟨Int.ediv_nonneg h (by omega), Int.ediv_le_self b h⟩, fun h => ⟨?_, Int.ediv_neg_of_neg_of_pos h (by omega)⟩⟩
 refine Int.le_ediv_of_mul_le (by omega) ?_
 have := Int.mul_le_mul_of_nonpos_left (show a ≤ 0 by omega) hb
 omega
theorem ndiv_at (N : Nat) {a b : Int} (ha : R64 a) (hb : 1 ≤ b) (hb2 : b < 9223372036854775808) : f_17 N a b = some (a / b, a % b, none) := by
 obtain ⟨a1, a2⟩ := ha
 obtain ⟨f1, f2⟩ := floor_t (a := a) (b := b) (by omega)
 obtain ⟨g1, g2⟩ := fdiv_rng (a := a) hb
 obtain ⟨l1, l2, l3, l4⟩ := tmod_rng (a := a) (b := b) (by omega)
 unfold f_17
 rw [decide_eq_false (show ¬ b < 1 by omega), decide_eq_false (show ¬ b = 0 by omega)]
 simp only [cond_false]
 by_cases h : Int.tmod a b < 0
 ·rw [if_pos h] at f1 f2
  have h0 : a < 0 := by
   rcases Int.lt_or_le a 0 with h0 | h0
   ·exact h0
   ·have := l3 h0; omega
  have g := g2 h0
  rw [decide_eq_true h, wi64 (n := Int.tdiv a b) (by omega) (by omega), wi64 (n := Int.tdiv a b - 1) (by omega) (by omega), wi64 (n := Int.tmod a b + b) (by omega) (by omega), f1, f2]; rfl
 ·rw [if_neg h] at f1 f2
  rw [decide_eq_false h, wi64 (n := Int.tdiv a b) (by omega) (by omega), f1, f2]; rfl
theorem nmul_at (N : Nat) {a b : Int} (ha : R64 a) (hb : R64 b) (hb0 : 0 < b) : f_25 N a b = some (fit64 (a * b)) := by
 obtain ⟨a1, a2⟩ := ha
 obtain ⟨b1, b2⟩ := hb
 unfold f_25
 by_cases h0 : a = 0
 ·subst h0
  rw [Int.zero_mul]; rfl
 rw [show (a == 0) = false by simpa using h0, show (b == 0) = false by simp; omega, show (b == (-1)) = false by simp; omega, show (b == (-9223372036854775808)) = false by simp; omega]
 have hb1 : decide (b = 0) = false := decide_eq_false (by omega)
 unfold fit64
 by_cases h : R64 (a * b)
 ·rw [rB_t h]
  obtain ⟨h1, h2⟩ := h
  have e : Int.tdiv (a * b) b = a := Int.mul_tdiv_cancel a (by omega)
  simp only [wi64 h1 h2, hb1, e, wi64 a1 a2, cond_false, cond_true, bne_self_eq_false]
  cases (a == -1) <;> rfl
 ·rw [rB_f h]
  have hne : (IntKind.i64.wrap (Int.tdiv (IntKind.i64.wrap (a * b)) b) != a) = true := by
   rw [bne_iff_ne]
   intro hc
   have e := Int.mul_tdiv_add_tmod (IntKind.i64.wrap (a * b)) b
   obtain ⟨l1, l2, _⟩ := tmod_rng (a := IntKind.i64.wrap (a * b)) (b := b) hb0
   have hw : -9223372036854775808 ≤ IntKind.i64.wrap (a * b) ∧ IntKind.i64.wrap (a * b) < 9223372036854775808 := by rw [IntKind.wrap_i64]; omega
   obtain ⟨g1, g2⟩ := fdiv_rng (a := IntKind.i64.wrap (a * b)) (b := b) (by omega)
   obtain ⟨f1, _⟩ := floor_t (a := IntKind.i64.wrap (a * b)) (b := b) hb0
   have ht : R64 (Int.tdiv (IntKind.i64.wrap (a * b)) b) := by
    unfold R64
    rcases Int.lt_or_le (IntKind.i64.wrap (a * b)) 0 with q | q
    ·have := g2 q; split at f1 <;> omega
    ·have := g1 q; split at f1 <;> omega
   rw [wi64 ht.1 ht.2] at hc
   rw [hc, Int.mul_comm] at e
   have hm : ∃ k, IntKind.i64.wrap (a * b) = a * b + 18446744073709551616 * k := by
    rw [IntKind.wrap_i64]
    exact ⟨-((a * b + 9223372036854775808) / 18446744073709551616), by omega⟩
   obtain ⟨k, hk⟩ := hm
   unfold R64 at h
   generalize a * b = p at *
   generalize Int.tmod (IntKind.i64.wrap p) b = r at *
   generalize IntKind.i64.wrap p = v at *
   omega
  simp only [hb1, hne, cond_false, cond_true]
  cases (a == -1) <;> rfl
end Go.Proofs.YthbhbfnnagaclaaGreatDoor.Mir
namespace Go.Proofs.YthbhbfnnagaclaaGreatDoor.Mir
open Go Go.RowKit
set_option maxRecDepth 100000
theorem tmodB (y k : Int) : (Int.tmod y k == 0) = decide (y % k = 0) := by
 by_cases h : y % k = 0
 ·rw [decide_eq_true h, Int.tmod_eq_zero_of_dvd (Int.dvd_of_emod_eq_zero h)]; rfl
 ·rw [decide_eq_false h]
  exact beq_eq_false_iff_ne.2 (fun e => h (Int.emod_eq_zero_of_dvd (Int.dvd_of_tmod_eq_zero e)))
theorem tmodN (y k : Int) : (Int.tmod y k != 0) = !decide (y % k = 0) := by rw [← tmodB]; rfl
theorem cleap_at (N : Nat) (y : Int) : f_128 N y = some (decide (Leap y)) := by
 unfold f_128 Leap
 rw [tmodB, tmodB, tmodN]
 by_cases h4 : y % 4 = 0 <;> by_cases h1 : y % 100 = 0 <;> by_cases h2 : y % 400 = 0 <;> simp [h4, h1, h2]
theorem twelve {m : Int} (h : ¬ (m < 1 ∨ 12 < m)) : m = 1 ∨ m = 2 ∨ m = 3 ∨ m = 4 ∨ m = 5 ∨ m = 6 ∨ m = 7 ∨ m = 8 ∨ m = 9 ∨ m = 10 ∨ m = 11 ∨ m = 12 := by omega
theorem cmonth_at (N : Nat) (y m : Int) : f_105 N y m = some (lenM y m) := by
 unfold f_105 lenM
 by_cases h : m < 1 ∨ 12 < m
 ·have e : ∀ k : Int, 1 ≤ k → k ≤ 12 → (m == k) = false := fun k a b => beq_eq_false_iff_ne.2 (by omega)
  rw [if_pos h, e 1 (by decide) (by decide), e 3 (by decide) (by decide), e 5 (by decide) (by decide), e 7 (by decide) (by decide), e 8 (by decide) (by decide), e 10 (by decide) (by decide), e 12 (by decide) (by decide), e 4 (by decide) (by decide), e 6 (by decide) (by decide), e 9 (by decide) (by decide), e 11 (by decide) (by decide), e 2 (by decide) (by decide)]
  rfl
 ·rw [if_neg h, cleap_at]
  by_cases L : Leap y <;> simp only [L, decide_true, decide_false, if_true, if_false] <;> (rcases twelve h with rfl | rfl | rfl | rfl | rfl | rfl | rfl | rfl | rfl | rfl | rfl | rfl <;> rfl)
theorem cchk_at (N : Nat) (y m d : Int) : f_75 N y m d = some (if MayD y m d then none else some 1) := by
 unfold f_75
 rw [cmonth_at]
 simp only [Option.bind_some]
 by_cases h1 : y < 1
 ·rw [decide_eq_true h1, if_neg (fun h : MayD y m d => by have := h.1; omega)]; rfl
 ·rw [decide_eq_false h1]
  by_cases h2 : y > 9999
  ·rw [decide_eq_true h2, if_neg (fun h : MayD y m d => by have := h.2.1; omega)]; rfl
  ·rw [decide_eq_false h2]
   by_cases h3 : d < 1
   ·rw [decide_eq_true h3, if_neg (fun h : MayD y m d => by have := h.2.2.1; omega)]; rfl
   ·rw [decide_eq_false h3]
    by_cases h4 : d > lenM y m
    ·rw [decide_eq_true h4, if_neg (fun h : MayD y m d => by have := h.2.2.2; omega)]; rfl
    ·rw [decide_eq_false h4, if_pos (show MayD y m d from ⟨by omega, by omega, by omega, by omega⟩)]; rfl
theorem tdivN {a b : Int} (h : 0 ≤ a) : Int.tdiv a b = a / b := Int.tdiv_eq_ediv_of_nonneg h
theorem dayN {q r m d : Int} (q0 : 0 ≤ q) (q1 : q ≤ 30) (r0 : 0 ≤ r) (r1 : r < 400) (m0 : 0 ≤ m) (m1 : m ≤ 11) (d0 : 1 ≤ d) (d1 : d ≤ 31) :
  IntKind.i64.wrap (IntKind.i64.wrap (IntKind.i64.wrap (IntKind.i64.wrap (IntKind.i64.wrap (IntKind.i64.wrap (IntKind.i64.wrap (IntKind.i64.wrap (q * 146097) + IntKind.i64.wrap (r * 365)) + IntKind.i64.wrap (Int.tdiv r 4)) - IntKind.i64.wrap (Int.tdiv r 100)) + IntKind.i64.wrap (Int.tdiv (IntKind.i64.wrap (IntKind.i64.wrap (153 * m) + 2)) 5)) + d) - 1) - 719468) = q * 146097 + r * 365 + r / 4 - r / 100 + (153 * m + 2) / 5 + d - 1 - 719468 := by
 rw [wi64 (n := q * 146097) (by omega) (by omega), wi64 (n := r * 365) (by omega) (by omega), wi64 (n := 153 * m) (by omega) (by omega), wi64 (n := 153 * m + 2) (by omega) (by omega), tdivN r0, tdivN r0, tdivN (show 0 ≤ 153 * m + 2 by omega),
  wi64 (n := r / 4) (by omega) (by omega), wi64 (n := r / 100) (by omega) (by omega), wi64 (n := (153 * m + 2) / 5) (by omega) (by omega), wi64 (n := q * 146097 + r * 365) (by omega) (by omega), wi64 (n := q * 146097 + r * 365 + r / 4) (by omega) (by omega), wi64 (n := q * 146097 + r * 365 + r / 4 - r / 100) (by omega) (by omega),
  wi64 (n := q * 146097 + r * 365 + r / 4 - r / 100 + (153 * m + 2) / 5) (by omega) (by omega), wi64 (n := q * 146097 + r * 365 + r / 4 - r / 100 + (153 * m + 2) / 5 + d) (by omega) (by omega), wi64 (n := q * 146097 + r * 365 + r / 4 - r / 100 + (153 * m + 2) / 5 + d - 1) (by omega) (by omega), wi64 (by omega) (by omega)]
theorem cdays_at (N : Nat) (y m d : Int) : f_50 N y m d = some (if MayD y m d then (daysD y m d, none) else (0, some 1)) := by
 unfold f_50
 refine (bindP _ _ _ (cchk_at N y m d)).trans ?_
 by_cases h : MayD y m d
 ·have hm := h.m
  have hl := lenM_le y m
  obtain ⟨h1, h2, h3, h4⟩ := id h
  rw [if_pos h, if_pos h, days_mar hm.1 hm.2, wi64 (n := m - 3) (by omega) (by omega)]
  simp only [Option.isNone_none, Bool.not_true, cond_false]
  by_cases h5 : m < 3
  ·rw [decide_eq_true (show m - 3 < 0 by omega), if_pos h5, wi64 (n := y - 1) (by omega) (by omega), wi64 (n := m - 3 + 12) (by omega) (by omega)]
   simp only [cond_true]
   refine (bindP _ _ _ (ndiv_at N (a := y - 1) (b := 400) ⟨by omega, by omega⟩ (by decide) (by decide))).trans ?_
   simp only [Option.isNone_none, Bool.not_true, cond_false]
   rw [dayN (by omega) (by omega) (by omega) (by omega) (by omega) (by omega) h3 (by omega), show m - 3 + 12 = m + 9 by omega]
  ·rw [decide_eq_false (show ¬ m - 3 < 0 by omega), if_neg h5]
   simp only [cond_false]
   refine (bindP _ _ _ (ndiv_at N (a := y) (b := 400) ⟨by omega, by omega⟩ (by decide) (by decide))).trans ?_
   simp only [Option.isNone_none, Bool.not_true, cond_false]
   rw [dayN (by omega) (by omega) (by omega) (by omega) (by omega) (by omega) h3 (by omega)]
 ·rw [if_neg h, if_neg h]; rfl
def ofE (n : Int) : (Int × Int × Int) × Option Int := if -719162 ≤ n ∧ n ≤ 2932896 then ((ofY n, ofM n, ofD n), none) else ((0, 0, 0), some 2)
theorem of_may {n : Int} : MayD (ofY n) (ofM n) (ofD n) ↔ -719162 ≤ n ∧ n ≤ 2932896 := by
 obtain ⟨h1, h2, _⟩ := of_ok n
 obtain ⟨y1, y2⟩ := of_year n
 unfold MayD
 constructor
 ·rintro ⟨a, b, _⟩; exact ⟨y1.1 a, y2.1 b⟩
 ·rintro ⟨a, b⟩; exact ⟨y1.2 a, y2.2 b, h1, h2⟩
theorem cof_at (N : Nat) {n : Int} (hn : R64 n) : f_42 N n = some (ofE n) := by
 obtain ⟨_, _, _, hy1, hy2⟩ := of_ok n
 have hyr := of_year n
 obtain ⟨n0, n1⟩ := id hn
 unfold f_42 ofE
 refine (bindP _ (n, (), (0, 0, 0)) _ rfl).trans ?_
 refine (bindP _ ((), (fit64 (n + 719468)).1, (fit64 (n + 719468)).2, (0, 0, 0)) _ ((bindP _ _ _ (nadd_at N hn ⟨by decide, by decide⟩)).trans rfl)).trans ?_
 refine (bindP _ ((), (fit64 (n + 719468)).1, !(Option.isNone (fit64 (n + 719468)).2), (0, 0, 0)) _ rfl).trans ?_
 by_cases hf : R64 (n + 719468)
 ·unfold fit64
  rw [rB_t hf]
  simp only [cond_true, Option.isNone_none, Bool.not_true, cond_false]
  refine (bindP _ ((), none, (n + 719468) / 146097, (n + 719468) % 146097, (0, 0, 0)) _ ((bindP _ _ _ (ndiv_at N hf (by decide) (by decide))).trans rfl)).trans ?_
  by_cases hE : (n + 719468) / 146097 > 9999
  ·refine (bindP _ ((), (n + 719468) / 146097, (n + 719468) % 146097, true, (0, 0, 0)) _ (by
    show some ((), _, _, decide (_ > 9999), _) = _
    rw [decide_eq_true hE])).trans ?_
   rw [if_neg (by omega)]; rfl
  ·refine (bindP _ ((), (n + 719468) / 146097, (n + 719468) % 146097, false, (0, 0, 0)) _ (by
    show some ((), _, _, decide (_ > 9999), _) = _
    rw [decide_eq_false hE])).trans ?_
   simp only [cond_false]
   have r0 := Int.emod_nonneg (n + 719468) (show (146097 : Int) ≠ 0 by decide)
   have r1 := Int.emod_lt_of_pos (n + 719468) (show (0 : Int) < 146097 by decide)
   have hmay := of_may (n := n)
   unfold ofY ofM ofD at hmay
   simp only at hmay
   unfold ofY ofM ofD
   simp only
   have hElo : -100000000000000 < (n + 719468) / 146097 := by omega
   generalize (n + 719468) / 146097 = E at hE hElo hmay ⊢
   generalize (n + 719468) % 146097 = r at r0 r1 hmay ⊢
   generalize hy : (r - r / 1460 + r / 36524 - r / 146096) / 365 = y at hmay ⊢
   obtain ⟨y0, y1, y2, y3⟩ := yoe r0 r1 hy.symm
   generalize hq : r - (365 * y + y / 4 - y / 100) = q at hmay ⊢
   have q0 : 0 ≤ q ∧ q ≤ 365 := by omega
   generalize hm : (5 * q + 2) / 153 = m at hmay ⊢
   have m0 : 0 ≤ m ∧ m ≤ 11 := by omega
   refine (bindP _ ((), E, r, y, (0, 0, 0)) _ (by
    show some ((), E, r, IntKind.i64.wrap _, _) = _
    rw [tdivN r0, tdivN r0, tdivN r0, wi64 (n := r / 1460) (by omega) (by omega), wi64 (n := r / 36524) (by omega) (by omega), wi64 (n := r / 146096) (by omega) (by omega), wi64 (n := r - r / 1460) (by omega) (by omega), wi64 (n := r - r / 1460 + r / 36524) (by omega) (by omega), wi64 (n := r - r / 1460 + r / 36524 - r / 146096) (by omega) (by omega), tdivN (show 0 ≤ r - r / 1460 + r / 36524 - r / 146096 by omega), hy, wi64 (n := y) (by omega) (by omega)])).trans ?_
   refine (bindP _ ((), E, q, y, (0, 0, 0)) _ (by
    show some ((), E, IntKind.i64.wrap _, y, _) = _
    rw [tdivN y0, tdivN y0, wi64 (n := 365 * y) (by omega) (by omega), wi64 (n := y / 4) (by omega) (by omega), wi64 (n := y / 100) (by omega) (by omega), wi64 (n := 365 * y + y / 4) (by omega) (by omega), wi64 (n := 365 * y + y / 4 - y / 100) (by omega) (by omega), hq, wi64 (n := q) (by omega) (by omega)])).trans ?_
   refine (bindP _ ((), E, q, y, m, (0, 0, 0)) _ (by
    show some ((), E, q, y, IntKind.i64.wrap _, _) = _
    rw [wi64 (n := 5 * q) (by omega) (by omega), wi64 (n := 5 * q + 2) (by omega) (by omega), tdivN (show 0 ≤ 5 * q + 2 by omega), hm, wi64 (n := m) (by omega) (by omega)])).trans ?_
   refine (bindP _ ((), (), (0, 0, 0), (400 * E + y + m / 10, (m + 2) % 12 + 1, q - (153 * m + 2) / 5 + 1)) _ (by
    show some ((), (), _, IntKind.i64.wrap _, IntKind.i64.wrap _, IntKind.i64.wrap _) = _
    rw [tdivN m0.1, wi64 (n := 400 * E) (by omega) (by omega), wi64 (n := 400 * E + y) (by omega) (by omega), wi64 (n := m / 10) (by omega) (by omega), wi64 (n := 400 * E + y + m / 10) (by omega) (by omega), wi64 (n := m + 2) (by omega) (by omega), Int.tmod_eq_emod_of_nonneg (show 0 ≤ m + 2 by omega), wi64 (n := (m + 2) % 12 + 1) (by omega) (by omega),
     wi64 (n := 153 * m) (by omega) (by omega), wi64 (n := 153 * m + 2) (by omega) (by omega), tdivN (show 0 ≤ 153 * m + 2 by omega), wi64 (n := (153 * m + 2) / 5) (by omega) (by omega), wi64 (n := q - (153 * m + 2) / 5) (by omega) (by omega), wi64 (n := q - (153 * m + 2) / 5 + 1) (by omega) (by omega)])).trans ?_
   refine (bindP _ ((), (), !(Option.isNone (if MayD (400 * E + y + m / 10) ((m + 2) % 12 + 1) (q - (153 * m + 2) / 5 + 1) then (none : Option Int) else some 1)), (0, 0, 0), (400 * E + y + m / 10, (m + 2) % 12 + 1, q - (153 * m + 2) / 5 + 1)) _ ((bindP _ _ _ (cchk_at N (400 * E + y + m / 10) ((m + 2) % 12 + 1) (q - (153 * m + 2) / 5 + 1))).trans rfl)).trans ?_
   by_cases hr : -719162 ≤ n ∧ n ≤ 2932896
   ·rw [if_pos hr, if_pos (hmay.2 hr)]; rfl
   ·rw [if_neg hr, if_neg (fun h => hr (hmay.1 h))]; rfl
 ·unfold fit64
  rw [rB_f hf, if_neg (by unfold R64 at hf; omega)]; rfl
end Go.Proofs.YthbhbfnnagaclaaGreatDoor.Mir
namespace Go.Proofs.YthbhbfnnagaclaaGreatDoor.Mir
open Go Go.RowKit
set_option maxRecDepth 100000
end Go.Proofs.YthbhbfnnagaclaaGreatDoor.Mir
namespace Go.Proofs.YthbhbfnnagaclaaGreatDoor.Mir
open Go Go.RowKit
set_option maxRecDepth 100000
def bt (l : List UInt8) : ByteArray := ⟨l.toArray⟩
theorem bt_list (l : List UInt8) : (bt l).data.toList = l := rfl
theorem bt_size (l : List UInt8) : (bt l).size = l.length := rfl
theorem bt_of (s : ByteArray) : s = bt s.data.toList := rfl
theorem bt_app (a b : List UInt8) : bt a ++ bt b = bt (a ++ b) := by
 apply ByteArray.ext
 rw [ByteArray.data_append]
 show a.toArray ++ b.toArray = (a ++ b).toArray
 simp
theorem bt_beq (a b : List UInt8) : ((bt a).toList == (bt b).toList) = decide (a = b) := by
 rw [Lib.toList_data, Lib.toList_data]
 show (a == b) = _
 by_cases h : a = b
 ·rw [decide_eq_true h, h]; exact beq_self_eq_true b
 ·rw [decide_eq_false h]; exact beq_eq_false_iff_ne.2 h
theorem repL : ∀ n, Lib.repeatL [48] n = List.replicate n 48
 | 0 => rfl
 | n + 1 => by
  show [48] ++ Lib.repeatL [48] n = _
  rw [repL n]; rfl
theorem cdig_at (N : Nat) {k n : Nat} (hk : k < 9) (h : n < 10 ^ (k + 1)) : f_76 N (n : Int) ((k + 1 : Nat) : Int) = some (bt (twoL (k + 1) n)) := by
 have hl := dgF_len k 20 n h (by omega)
 have hn : n < 10 ^ 9 := Nat.lt_of_lt_of_le h (Nat.pow_le_pow_right (by decide) (by omega))
 have hn2 : n < 1000000000 := hn
 have e : itoaF (n : Int) = some (bt (dgF 20 n)) := by
  unfold itoaF itoaL
  rw [r64B_iff.2 ⟨by omega, by omega⟩, if_neg (by omega), Int.toNat_natCast]; rfl
 unfold f_76
 rw [e]
 simp only [Option.bind_some]
 rw [bt_size, wi64 (by omega) (by omega)]
 have er : repF ⟨#[48]⟩ (((k + 1 : Nat) : Int) - ((dgF 20 n).length : Int)) = some (bt (List.replicate (k + 1 - (dgF 20 n).length) 48)) := by
  unfold repF
  have e2 : (((k + 1 : Nat) : Int) - ((dgF 20 n).length : Int)).toNat = k + 1 - (dgF 20 n).length := by omega
  rw [e2, decide_eq_true (by omega), decide_eq_true (show (⟨#[48]⟩ : ByteArray).size * (k + 1 - (dgF 20 n).length) ≤ 140737488355328 from by
   show 1 * _ ≤ _
   omega), decide_eq_true (by omega)]
  show some (bt (Lib.repeatL [48] _)) = _
  rw [repL]
 rw [er]
 simp only [Option.bind_some]
 rw [bt_size, List.length_replicate, decide_eq_false (by omega), bt_app, pad_eq k 20 n h (by omega)]; rfl
def dateL (y m d : Int) : List UInt8 := twoL 4 y.toNat ++ 45 :: (twoL 2 m.toNat ++ 45 :: twoL 2 d.toNat)
theorem cdig_4 (N : Nat) {n : Int} (h0 : 0 ≤ n) (h1 : n ≤ 9999) : f_76 N n 4 = some (bt (twoL 4 n.toNat)) := by
 obtain ⟨a, rfl⟩ := Int.eq_ofNat_of_zero_le h0
 exact cdig_at N (k := 3) (by decide) (show a < 10000 by omega)
theorem cdig_2 (N : Nat) {n : Int} (h0 : 0 ≤ n) (h1 : n ≤ 99) : f_76 N n 2 = some (bt (twoL 2 n.toNat)) := by
 obtain ⟨a, rfl⟩ := Int.eq_ofNat_of_zero_le h0
 exact cdig_at N (k := 1) (by decide) (show a < 100 by omega)
theorem MayD.rng {y m d : Int} (h : MayD y m d) : 1 ≤ y ∧ y ≤ 9999 ∧ 1 ≤ m ∧ m ≤ 12 ∧ 1 ≤ d ∧ d ≤ 31 := by
 have hm := h.m
 have hl := lenM_le y m
 obtain ⟨h1, h2, h3, h4⟩ := h
 omega
theorem dash : (⟨#[45]⟩ : ByteArray) = bt [45] := rfl
theorem ctext_at (N : Nat) (y m d : Int) : f_43 N y m d = some (if MayD y m d then (bt (dateL y m d), none) else (bt [], some 1)) := by
 unfold f_43
 refine (bindP _ _ _ (cchk_at N y m d)).trans ?_
 by_cases h : MayD y m d
 ·obtain ⟨h1, h2, h3, h4, h5, h6⟩ := h.rng
  rw [if_pos h, if_pos h]
  simp only [Option.isNone_none, Bool.not_true, cond_false]
  rw [cdig_4 N (by omega) h2, cdig_2 N (by omega) (by omega), cdig_2 N (by omega) (by omega)]
  simp only [Option.bind_some]
  rw [dash]
  simp only [bt_app, bt_size, List.length_append, twoL_len, List.length_cons, List.length_nil]
  rw [decide_eq_false (by decide), decide_eq_false (by decide), decide_eq_false (by decide), decide_eq_false (by decide)]
  simp only [cond_false]
  unfold dateL
  simp only [List.append_assoc, List.cons_append, List.nil_append]
 ·rw [if_neg h, if_neg h]; rfl
def digV (l : List UInt8) : Int := if l.all digB then (valL 0 l : Int) else -1
theorem drop_at (l : List UInt8) {i : Nat} (h : i < l.length) : l.drop i = l.getD i 0 :: l.drop (i + 1) := by
 rw [List.drop_eq_getElem_cons h, List.getD_eq_getElem?_getD, List.getElem?_eq_getElem h]; rfl
theorem size_list8 (s : ByteArray) : s.size = s.data.toList.length := by rw [Array.length_toList]; rfl
end Go.Proofs.YthbhbfnnagaclaaGreatDoor.Mir
namespace Go.Proofs.YthbhbfnnagaclaaGreatDoor.Mir
open Go Go.RowKit
set_option maxRecDepth 100000
def dY (l : List UInt8) : Int := digV (l.take 4)
def dM (l : List UInt8) : Int := digV ((l.drop 5).take 2)
def dD (l : List UInt8) : Int := digV (l.drop 8)
def okD (l : List UInt8) : Prop := l.length = 10 ∧ l.getD 4 0 = 45 ∧ l.getD 7 0 = 45 ∧ MayD (dY l) (dM l) (dD l)
instance (l : List UInt8) : Decidable (okD l) := inferInstanceAs (Decidable (_ ∧ _))
theorem digV_two {k n : Nat} (h : n < 10 ^ k) : digV (twoL k n) = (n : Int) := by
 unfold digV
 rw [if_pos (List.all_eq_true.2 (twoL_dig k n)), valL_two k n 0 h, Nat.zero_mul, Nat.zero_add]
theorem digV_pos {l : List UInt8} (h : 0 ≤ digV l) : (∀ c ∈ l, digB c = true) ∧ digV l = (valL 0 l : Int) := by
 unfold digV at h ⊢
 by_cases q : l.all digB = true
 ·rw [if_pos q]; exact ⟨List.all_eq_true.1 q, rfl⟩
 ·rw [if_neg q] at h; omega
theorem two_digV {l : List UInt8} {k : Nat} (hl : l.length = k) (h : 0 ≤ digV l) : twoL k (digV l).toNat = l := by
 obtain ⟨h1, h2⟩ := digV_pos h
 rw [h2, Int.toNat_natCast]
 have := two_val l 0 0 h1
 rw [Nat.zero_add, hl] at this
 exact this
theorem ten_parts : ∀ {l : List UInt8}, l.length = 10 → l = l.take 4 ++ l.getD 4 0 :: ((l.drop 5).take 2 ++ l.getD 7 0 :: l.drop 8)
 | [_, _, _, _, _, _, _, _, _, _], _ => rfl
theorem date_ok {y m d : Int} (h : MayD y m d) : okD (dateL y m d) ∧ dY (dateL y m d) = y ∧ dM (dateL y m d) = m ∧ dD (dateL y m d) = d := by
 obtain ⟨h1, h2, h3, h4, h5, h6⟩ := h.rng
 have l1 := twoL_len 4 y.toNat
 have l2 := twoL_len 2 m.toNat
 have e1 : digV (twoL 4 y.toNat) = y := by rw [digV_two (show y.toNat < 10000 by omega)]; omega
 have e2 : digV (twoL 2 m.toNat) = m := by rw [digV_two (show m.toNat < 100 by omega)]; omega
 have e3 : digV (twoL 2 d.toNat) = d := by rw [digV_two (show d.toNat < 100 by omega)]; omega
 have hl : (dateL y m d).length = 10 := by unfold dateL; simp only [List.length_append, List.length_cons, twoL_len]
 have i1 : (dateL y m d).take 4 = twoL 4 y.toNat := by unfold dateL; rw [List.take_left' l1]
 have i2 : (dateL y m d).drop 5 = twoL 2 m.toNat ++ 45 :: twoL 2 d.toNat := by
  unfold dateL
  rw [show 5 = (twoL 4 y.toNat).length + 1 by rw [l1], ← List.drop_drop, List.drop_left]; rfl
 have i3 : ((dateL y m d).drop 5).take 2 = twoL 2 m.toNat := by rw [i2, List.take_left' l2]
 have i4 : (dateL y m d).drop 8 = twoL 2 d.toNat := by
  rw [show 8 = 5 + 3 from rfl, ← List.drop_drop, i2, show 3 = (twoL 2 m.toNat).length + 1 by rw [l2], ← List.drop_drop, List.drop_left]; rfl
 have j1 : (dateL y m d).getD 4 0 = 45 := by
  have := drop_at (dateL y m d) (i := 4) (by omega)
  have k : (dateL y m d).drop 4 = 45 :: (twoL 2 m.toNat ++ 45 :: twoL 2 d.toNat) := by unfold dateL; rw [List.drop_left' l1]
  rw [k] at this
  exact (List.cons.inj this).1.symm
 have j2 : (dateL y m d).getD 7 0 = 45 := by
  have := drop_at (dateL y m d) (i := 7) (by omega)
  have k : (dateL y m d).drop 7 = 45 :: twoL 2 d.toNat := by rw [show 7 = 5 + 2 from rfl, ← List.drop_drop, i2, List.drop_left' l2]
  rw [k] at this
  exact (List.cons.inj this).1.symm
 have f1 : dY (dateL y m d) = y := by unfold dY; rw [i1, e1]
 have f2 : dM (dateL y m d) = m := by unfold dM; rw [i3, e2]
 have f3 : dD (dateL y m d) = d := by unfold dD; rw [i4, e3]
 exact ⟨⟨hl, j1, j2, by rw [f1, f2, f3]; exact h⟩, f1, f2, f3⟩
theorem okD_text {l : List UInt8} (h : okD l) : l = dateL (dY l) (dM l) (dD l) := by
 obtain ⟨h1, h2, h3, h4⟩ := h
 obtain ⟨r1, _, r3, _, r5, _⟩ := h4.rng
 have e := ten_parts h1
 rw [h2, h3] at e
 unfold dateL
 have q1 : twoL 4 (dY l).toNat = l.take 4 := two_digV (by rw [List.length_take]; omega) (show 0 ≤ dY l by omega)
 have q2 : twoL 2 (dM l).toNat = (l.drop 5).take 2 := two_digV (by rw [List.length_take, List.length_drop]; omega) (show 0 ≤ dM l by omega)
 have q3 : twoL 2 (dD l).toNat = l.drop 8 := two_digV (by rw [List.length_drop]; omega) (show 0 ≤ dD l by omega)
 rw [q1, q2, q3]
 exact e
theorem nodash {c : UInt8} (h : digB c = true) : ((45 : UInt8) == c) = false := by
 obtain ⟨h1, h2⟩ := digB_ok h
 refine beq_eq_false_iff_ne.2 (fun e => ?_)
 rw [← e] at h1
 exact absurd h1 (by decide)
theorem index_dash : ∀ (a b : List UInt8), (∀ c ∈ a, digB c = true) → Lib.index (a ++ 45 :: b) [45] = (a.length : Int)
 | [], b, _ => by simp [Lib.index, List.isPrefixOf]
 | c :: a, b, h => by
  have ih := index_dash a b (fun x hx => h x (List.mem_cons_of_mem _ hx))
  have hc := nodash (h c (List.mem_cons_self ..))
  show (if ([45] : List UInt8).isPrefixOf (c :: (a ++ 45 :: b)) then (0 : Int) else if Lib.index (a ++ 45 :: b) [45] == -1 then -1 else Lib.index (a ++ 45 :: b) [45] + 1) = _
  rw [ih, show ([45] : List UInt8).isPrefixOf (c :: (a ++ 45 :: b)) = false from by show ((45 : UInt8) == c && _) = false; rw [hc]; rfl, if_neg (by decide), if_neg (by rw [beq_iff_eq]; omega)]
  rw [List.length_cons]; omega
theorem index_nodash : ∀ (a : List UInt8), (∀ c ∈ a, digB c = true) → Lib.index a [45] = -1
 | [], _ => rfl
 | c :: a, h => by
  have ih := index_nodash a (fun x hx => h x (List.mem_cons_of_mem _ hx))
  have hc := nodash (h c (List.mem_cons_self ..))
  show (if ([45] : List UInt8).isPrefixOf (c :: a) then (0 : Int) else if Lib.index a [45] == -1 then -1 else Lib.index a [45] + 1) = _
  rw [ih, show ([45] : List UInt8).isPrefixOf (c :: a) = false from by show ((45 : UInt8) == c && _) = false; rw [hc]; rfl]; rfl
theorem drop_dash (a b : List UInt8) : (a ++ 45 :: b).drop (a.length + 1) = b := by
 rw [← List.drop_drop, List.drop_left]; rfl
theorem count_dash {a b : List UInt8} (h : ∀ c ∈ a, digB c = true) : Lib.count (a ++ 45 :: b) [45] = 1 + Lib.count b [45] := by
 rw [Lib.count_hit (i := a.length) (by simp) (index_dash a b h), show a.length + ([45] : List UInt8).length = a.length + 1 from rfl, drop_dash]
theorem count_nodash {a : List UInt8} (h : ∀ c ∈ a, digB c = true) : Lib.count a [45] = 0 := Lib.count_miss (index_nodash a h)
theorem splitK_dash {a b : List UInt8} (k : Nat) (h : ∀ c ∈ a, digB c = true) : Lib.splitK [45] 0 (k + 1) (a ++ 45 :: b) = a :: Lib.splitK [45] 0 k b := by
 show (if Lib.index (a ++ 45 :: b) [45] == -1 then _ else _) = _
 rw [index_dash a b h, if_neg (by rw [beq_iff_eq]; omega), Int.toNat_natCast, Nat.add_zero, List.take_left, show a.length + ([45] : List UInt8).length = a.length + 1 from rfl, drop_dash]
theorem split_date {a b c : List UInt8} (ha : ∀ x ∈ a, digB x = true) (hb : ∀ x ∈ b, digB x = true) (hc : ∀ x ∈ c, digB x = true) :
  Lib.splitK [45] 0 (Lib.count (a ++ 45 :: (b ++ 45 :: c)) [45]) (a ++ 45 :: (b ++ 45 :: c)) = [a, b, c] := by
 rw [count_dash ha, count_dash hb, count_nodash hc, show 1 + (1 + 0) = 1 + 1 from rfl, splitK_dash 1 ha, splitK_dash 0 hb]; rfl
theorem splitK_len : ∀ (k : Nat) (l : List UInt8), ∀ p ∈ Lib.splitK [45] 0 k l, p.length ≤ l.length
 | 0, l, p, h => by obtain rfl := List.mem_singleton.1 h; exact Nat.le_refl _
 | k + 1, l, p, h => by
  unfold Lib.splitK at h
  split at h
  ·obtain rfl := List.mem_singleton.1 h; exact Nat.le_refl _
  ·rcases List.mem_cons.1 h with rfl | h
   ·rw [List.length_take]; omega
   ·have := splitK_len k _ p h
    rw [List.length_drop] at this; omega
def atD (p : ByteArray) : Int × Bool := endD (Lib.atoiAll p.data.toList) (Lib.atoiSat p.data.toList)
theorem atoiF_at {p : ByteArray} (h : p.size ≤ 281474976710656) : atoiF p = some (atD p) := by
 unfold atoiF; rw [decide_eq_true h]; rfl
theorem atD_two {k n : Nat} (hk : 1 ≤ k) (hk2 : k ≤ 17) (h : n < 10 ^ k) : atD (bt (twoL k n)) = ((n : Int), true) := by
 unfold atD
 rw [bt_list, atoi_two hk hk2 h]; rfl
theorem cparse_loop (N : Nat) (s a b c : ByteArray) (t : Int × Int × Int) (ha : a.size ≤ 281474976710656) (hb : b.size ≤ 281474976710656) (hc : c.size ≤ 281474976710656) (hN : 4 ≤ N) :
  l_49_0 N (s, (), [a, b, c], (), 0, t, [0, 0, 0]) = some (bif (atD a).2 && ((atD b).2 && (atD c).2) then .inr (s, (), (), t, [(atD a).1, (atD b).1, (atD c).1]) else .inl ((), some 3, (0, 0, 0))) := by
 obtain ⟨M, rfl⟩ : ∃ m, N = m + 4 := ⟨N - 4, by omega⟩
 unfold l_49_0
 rw [show iter (b_49_0 (M + 4)) (M + 4) = b_49_0 (M + 4) (b_49_0 (M + 4) (b_49_0 (M + 4) (b_49_0 (M + 4) (iter (b_49_0 (M + 4)) M)))) from rfl]
 generalize iter (b_49_0 (M + 4)) M = T
 unfold b_49_0
 simp only [List.length_cons, List.length_nil]
 rw [show ([a, b, c] : List ByteArray).getD (Int.toNat 0) ByteArray.empty = a from rfl, atoiF_at ha]
 rw [show IntKind.i64.wrap (0 + 1) = 1 from by rw [wi64 (by decide) (by decide)]; rfl]
 rw [show ([a, b, c] : List ByteArray).getD (Int.toNat 1) ByteArray.empty = b from rfl, atoiF_at hb]
 rw [show IntKind.i64.wrap (1 + 1) = 2 from by rw [wi64 (by decide) (by decide)]; rfl]
 rw [show ([a, b, c] : List ByteArray).getD (Int.toNat 2) ByteArray.empty = c from rfl, atoiF_at hc]
 rw [show IntKind.i64.wrap (2 + 1) = 3 from by rw [wi64 (by decide) (by decide)]; rfl]
 generalize atD a = x
 generalize atD b = y
 generalize atD c = z
 obtain ⟨x1, x2⟩ := x
 obtain ⟨y1, y2⟩ := y
 obtain ⟨z1, z2⟩ := z
 cases x2 <;> cases y2 <;> cases z2 <;> rfl
def parC (l : List UInt8) : (Int × Int × Int) × Option Int := if okD l then ((dY l, dM l, dD l), none) else ((0, 0, 0), some 3)
theorem three_parts (P : List ByteArray) (h : P.length = 3) : ∃ a b c, P = [a, b, c] := by
 match P, h with
 | [a, b, c], _ => exact ⟨a, b, c, rfl⟩
theorem cparse_at (N : Nat) (hN : 4 ≤ N) {s : ByteArray} (hs : s.size ≤ 100) : f_49 N s = some (parC s.data.toList) := by
 have hl := size_list8 s
 have hsp : splF s ⟨#[45]⟩ = some (Lib.splitB ⟨#[45]⟩ 0 (Lib.countB s ⟨#[45]⟩) s) := by
  unfold splF
  rw [decide_eq_true (by omega), show decide (1 ≤ ByteArray.size (⟨#[45]⟩ : ByteArray)) = true from rfl]; rfl
 have hd : (Lib.splitB ⟨#[45]⟩ 0 (Lib.countB s ⟨#[45]⟩) s).map (·.data.toList) = Lib.splitK [45] 0 (Lib.count s.data.toList [45]) s.data.toList := Lib.splitB_data _ _ _ _
 have hlen := splitK_len (Lib.count s.data.toList [45]) s.data.toList
 rw [← hd] at hlen
 unfold f_49
 rw [hsp]
 generalize Lib.splitB ⟨#[45]⟩ 0 (Lib.countB s ⟨#[45]⟩) s = P at hd hlen ⊢
 simp only [Option.bind_some]
 by_cases h3 : P.length = 3
 ·obtain ⟨a, b, c, rfl⟩ := three_parts P h3
  have ba : ∀ p ∈ [a, b, c], p.size ≤ 281474976710656 := fun p hp => by
   have := hlen _ (List.mem_map.2 ⟨p, hp, rfl⟩)
   have := size_list8 p
   omega
  rw [show (((([a, b, c] : List ByteArray).length : Nat) : Int) != 3) = false from rfl]
  simp only [cond_false]
  refine (bindP _ _ _ (cparse_loop N s a b c (0, 0, 0) (ba a (by simp)) (ba b (by simp)) (ba c (by simp)) hN)).trans ?_
  by_cases hk : okD s.data.toList
  ·have ht := okD_text hk
   obtain ⟨h1, h2, h3', h4⟩ := id hk
   obtain ⟨r1, r2, r3, r4, r5, r6⟩ := h4.rng
   unfold parC
   rw [if_pos hk]
   rw [ht] at hd
   generalize dY s.data.toList = y at *
   generalize dM s.data.toList = m at *
   generalize dD s.data.toList = d at *
   unfold dateL at hd
   rw [split_date (twoL_dig _ _) (twoL_dig _ _) (twoL_dig _ _)] at hd
   simp only [List.map_cons, List.map_nil, List.cons.injEq, and_true] at hd
   obtain ⟨q1, q2, q3⟩ := hd
   have w1 : atD a = (y, true) := by
    rw [bt_of a, q1, atD_two (by decide) (by decide) (show y.toNat < 10000 by omega), show ((y.toNat : Nat) : Int) = y by omega]
   have w2 : atD b = (m, true) := by
    rw [bt_of b, q2, atD_two (by decide) (by decide) (show m.toNat < 100 by omega), show ((m.toNat : Nat) : Int) = m by omega]
   have w3 : atD c = (d, true) := by
    rw [bt_of c, q3, atD_two (by decide) (by decide) (show d.toNat < 100 by omega), show ((d.toNat : Nat) : Int) = d by omega]
   rw [w1, w2, w3]
   show Option.bind (f_43 N y m d) _ = _
   refine (bindP _ _ _ (ctext_at N y m d)).trans ?_
   rw [if_pos h4]
   show (bif !((bt (dateL y m d)).toList == s.toList) then _ else _) = _
   rw [bt_of s, bt_beq, ← ht, decide_eq_true rfl]; rfl
  ·unfold parC
   rw [if_neg hk]
   generalize atD a = x
   generalize atD b = y
   generalize atD c = z
   obtain ⟨x1, x2⟩ := x
   obtain ⟨y1, y2⟩ := y
   obtain ⟨z1, z2⟩ := z
   cases x2 <;> cases y2 <;> cases z2 <;> first | rfl | skip
   show Option.bind (f_43 N x1 y1 z1) _ = _
   refine (bindP _ _ _ (ctext_at N x1 y1 z1)).trans ?_
   by_cases hm : MayD x1 y1 z1
   ·rw [if_pos hm]
    show (bif !((bt (dateL x1 y1 z1)).toList == s.toList) then _ else _) = _
    rw [bt_of s, bt_beq, decide_eq_false (fun e => hk (by rw [← e]; exact (date_ok hm).1))]; rfl
   ·rw [if_neg hm]; rfl
 ·rw [show ((P.length : Int) != 3) = true from bne_iff_ne.2 (by omega)]
  unfold parC
  rw [if_neg (fun hk : okD s.data.toList => h3 (by
   have ht := okD_text hk
   rw [ht] at hd
   unfold dateL at hd
   rw [split_date (twoL_dig _ _) (twoL_dig _ _) (twoL_dig _ _)] at hd
   have := congrArg List.length hd
   simpa using this))]; rfl
end Go.Proofs.YthbhbfnnagaclaaGreatDoor.Mir
namespace Go.Proofs.YthbhbfnnagaclaaGreatDoor.Mir
open Go Go.RowKit
set_option maxRecDepth 100000
def MayT (h m s : Int) : Prop := (h = 23 ∧ m = 59 ∧ s = 60) ∨ (0 ≤ h ∧ h ≤ 23 ∧ 0 ≤ m ∧ m ≤ 59 ∧ 0 ≤ s ∧ s ≤ 59)
instance (h m s : Int) : Decidable (MayT h m s) := inferInstanceAs (Decidable (_ ∨ _))
def secT (h m s : Int) : Int := h * 3600 + m * 60 + s
def timD (s : Int) : Int × Int × Int := if s = 86400 then (23, 59, 60) else (s / 3600, s / 60 % 60, s % 60)
theorem MayT.rng {h m s : Int} (q : MayT h m s) : 0 ≤ h ∧ h ≤ 23 ∧ 0 ≤ m ∧ m ≤ 59 ∧ 0 ≤ s ∧ s ≤ 60 ∧ 0 ≤ secT h m s ∧ secT h m s ≤ 86400 := by
 unfold secT; rcases q with ⟨rfl, rfl, rfl⟩ | q <;> omega
theorem tim_sec {h m s : Int} (q : MayT h m s) : timD (secT h m s) = (h, m, s) := by
 rcases q with ⟨rfl, rfl, rfl⟩ | ⟨h1, h2, h3, h4, h5, h6⟩
 ·rfl
 ·unfold timD secT
  rw [if_neg (by omega), show (h * 3600 + m * 60 + s) / 3600 = h by omega, show (h * 3600 + m * 60 + s) / 60 % 60 = m by omega, show (h * 3600 + m * 60 + s) % 60 = s by omega]
theorem sec_tim {n : Int} (h0 : 0 ≤ n) (h1 : n ≤ 86400) : MayT (timD n).1 (timD n).2.1 (timD n).2.2 ∧ secT (timD n).1 (timD n).2.1 (timD n).2.2 = n := by
 unfold timD
 by_cases h : n = 86400
 ·subst h; exact ⟨.inl ⟨rfl, rfl, rfl⟩, rfl⟩
 ·rw [if_neg h]
  refine ⟨.inr ?_, ?_⟩
  ·simp only; omega
  ·unfold secT; simp only; omega
theorem dychk_at (N : Nat) (h m s : Int) : f_80 N h m s = some (if MayT h m s then none else some 1) := by
 unfold f_80
 by_cases hL : h = 23 ∧ m = 59 ∧ s = 60
 ·obtain ⟨rfl, rfl, rfl⟩ := hL; rfl
 ·have e : ((h == 23) && ((m == 59) && (s == 60))) = false := by
   rw [Bool.eq_false_iff]; simpa using hL
  rw [e]
  simp only [cond_false]
  by_cases h1 : h < 0
  ·rw [decide_eq_true h1, if_neg (fun q : MayT h m s => by have := q.rng; omega)]; rfl
  ·rw [decide_eq_false h1]
   by_cases h2 : h > 23
   ·rw [decide_eq_true h2, if_neg (fun q : MayT h m s => by have := q.rng; omega)]; rfl
   ·rw [decide_eq_false h2]
    by_cases h3 : m < 0
    ·rw [decide_eq_true h3, if_neg (fun q : MayT h m s => by have := q.rng; omega)]; rfl
    ·rw [decide_eq_false h3]
     by_cases h4 : m > 59
     ·rw [decide_eq_true h4, if_neg (fun q : MayT h m s => by have := q.rng; omega)]; rfl
     ·rw [decide_eq_false h4]
      by_cases h5 : s < 0
      ·rw [decide_eq_true h5, if_neg (fun q : MayT h m s => by have := q.rng; omega)]; rfl
      ·rw [decide_eq_false h5]
       by_cases h6 : s > 59
       ·rw [decide_eq_true h6, if_neg (fun q : MayT h m s => by rcases q with q | q <;> omega)]; rfl
       ·rw [decide_eq_false h6, if_pos (show MayT h m s from .inr (by omega))]; rfl
def secE (h m s : Int) : Int × Option Int := if MayT h m s then (secT h m s, none) else (0, some 1)
theorem dysecs_at (N : Nat) (h m s : Int) : f_51 N h m s = some (secE h m s) := by
 unfold f_51 secE
 refine (bindP _ _ _ (dychk_at N h m s)).trans ?_
 by_cases q : MayT h m s
 ·obtain ⟨h1, h2, h3, h4, h5, h6, _⟩ := q.rng
  rw [if_pos q, if_pos q]
  simp only [Option.isNone_none, Bool.not_true, cond_false]
  rw [wi64 (n := h * 3600) (by omega) (by omega), wi64 (n := m * 60) (by omega) (by omega), wi64 (n := h * 3600 + m * 60) (by omega) (by omega), wi64 (by omega) (by omega)]; rfl
 ·rw [if_neg q, if_neg q]; rfl
def ofT (n : Int) : (Int × Int × Int) × Option Int := if 0 ≤ n ∧ n ≤ 86400 then (timD n, none) else ((0, 0, 0), some 1)
theorem dyof_at (N : Nat) (n : Int) : f_41 N n = some (ofT n) := by
 unfold f_41 ofT timD
 by_cases h1 : n < 0
 ·rw [decide_eq_true h1, if_neg (by omega)]; rfl
 ·rw [decide_eq_false h1]
  by_cases h2 : n > 86400
  ·rw [decide_eq_true h2, if_neg (by omega)]; rfl
  ·rw [decide_eq_false h2, if_pos (by omega)]
   by_cases h3 : n = 86400
   ·subst h3; rfl
   ·rw [show (n == 86400) = false from beq_eq_false_iff_ne.2 h3, if_neg h3, tdivN (by omega), tdivN (by omega), wi64 (n := n / 3600) (by omega) (by omega), wi64 (n := n / 60) (by omega) (by omega), Int.tmod_eq_emod_of_nonneg (show 0 ≤ n / 60 by omega), Int.tmod_eq_emod_of_nonneg (show 0 ≤ n by omega)]; rfl
theorem dydig_at (N : Nat) {k n : Nat} (hk : k < 9) (h : n < 10 ^ (k + 1)) : f_44 N (n : Int) ((k + 1 : Nat) : Int) = some (bt (twoL (k + 1) n)) := by
 have hl := dgF_len k 20 n h (by omega)
 have hn : n < 10 ^ 9 := Nat.lt_of_lt_of_le h (Nat.pow_le_pow_right (by decide) (by omega))
 have hn2 : n < 1000000000 := hn
 have e : fmtF (n : Int) 10 = some (bt (dgF 20 n)) := by
  unfold fmtF itoaL
  rw [r64B_iff.2 ⟨by omega, by omega⟩, if_neg (by omega), Int.toNat_natCast]; rfl
 unfold f_44
 rw [e]
 simp only [Option.bind_some]
 rw [bt_size, wi64 (by omega) (by omega)]
 have er : repF ⟨#[48]⟩ (if ((k + 1 : Nat) : Int) - ((dgF 20 n).length : Int) > 0 then ((k + 1 : Nat) : Int) - ((dgF 20 n).length : Int) else 0) = some (bt (List.replicate (k + 1 - (dgF 20 n).length) 48)) := by
  unfold repF
  have e2 : (if ((k + 1 : Nat) : Int) - ((dgF 20 n).length : Int) > 0 then ((k + 1 : Nat) : Int) - ((dgF 20 n).length : Int) else 0) = ((k + 1 - (dgF 20 n).length : Nat) : Int) := by split <;> omega
  rw [e2, Int.toNat_natCast, decide_eq_true (by omega), decide_eq_true (show (⟨#[48]⟩ : ByteArray).size * (k + 1 - (dgF 20 n).length) ≤ 140737488355328 from by
   show 1 * _ ≤ _
   omega), decide_eq_true (by omega)]
  show some (bt (Lib.repeatL [48] _)) = _
  rw [repL]
 rw [er]
 simp only [Option.bind_some]
 rw [bt_size, List.length_replicate, decide_eq_false (by omega), bt_app, pad_eq k 20 n h (by omega)]; rfl
theorem dydig_2 (N : Nat) {n : Int} (h0 : 0 ≤ n) (h1 : n ≤ 99) : f_44 N n 2 = some (bt (twoL 2 n.toNat)) := by
 obtain ⟨a, rfl⟩ := Int.eq_ofNat_of_zero_le h0
 exact dydig_at N (k := 1) (by decide) (show a < 100 by omega)
theorem dydig_9 (N : Nat) {n : Int} (h0 : 0 ≤ n) (h1 : n < 1000000000) : f_44 N n 9 = some (bt (twoL 9 n.toNat)) := by
 obtain ⟨a, rfl⟩ := Int.eq_ofNat_of_zero_le h0
 exact dydig_at N (k := 8) (by decide) (show a < 1000000000 by omega)
def stL (p : Int × Int × Int) (t : Int × Int × Int) (n : Int) : List UInt8 := dateL p.1 p.2.1 p.2.2 ++ 84 :: (twoL 2 t.1.toNat ++ 58 :: (twoL 2 t.2.1.toNat ++ 58 :: (twoL 2 t.2.2.toNat ++ 46 :: twoL 9 n.toNat)))
theorem date_len (y m d : Int) : (dateL y m d).length = 10 := by unfold dateL; simp only [List.length_append, List.length_cons, twoL_len]
theorem tee : (⟨#[84]⟩ : ByteArray) = bt [84] := rfl
theorem colon : (⟨#[58]⟩ : ByteArray) = bt [58] := rfl
theorem point : (⟨#[46]⟩ : ByteArray) = bt [46] := rfl
theorem none_ : (⟨#[]⟩ : ByteArray) = bt [] := rfl
def StOk (s n : Int) : Prop := 0 ≤ s ∧ s ≤ 86400 ∧ 0 ≤ n ∧ n < 1000000000
instance (s n : Int) : Decidable (StOk s n) := inferInstanceAs (Decidable (_ ∧ _))
def inR (x : Int) : Prop := -719162 ≤ x ∧ x ≤ 2932896
instance (x : Int) : Decidable (inR x) := inferInstanceAs (Decidable (_ ∧ _))
def stE (x s n : Int) : ByteArray × Option Int := if StOk s n then (if inR x then (bt (stL (ofY x, ofM x, ofD x) (timD s) n), none) else (bt [], some 2)) else (bt [], some 1)
theorem ofE_in {x : Int} (h : inR x) : ofE x = ((ofY x, ofM x, ofD x), none) := by unfold ofE; exact if_pos h
theorem ofE_out {x : Int} (h : ¬ inR x) : ofE x = ((0, 0, 0), some 2) := by unfold ofE; exact if_neg h
theorem dystamp_at (N : Nat) {x s n : Int} (hx : R64 x) : f_18 N x s n = some (stE x s n) := by
 unfold f_18 stE
 refine (bindP _ _ _ (dyof_at N s)).trans ?_
 unfold ofT
 by_cases h1 : 0 ≤ s ∧ s ≤ 86400
 ·rw [if_pos h1]
  simp only [Option.isNone_none, Bool.not_true, cond_false]
  by_cases h2 : n < 0
  ·rw [decide_eq_true h2, if_neg (fun q : StOk s n => by have := q.2.2; omega)]; rfl
  ·rw [decide_eq_false h2]
   by_cases h3 : n ≥ 1000000000
   ·rw [decide_eq_true h3, if_neg (fun q : StOk s n => by have := q.2.2; omega)]; rfl
   ·rw [decide_eq_false h3, if_pos (show StOk s n from ⟨h1.1, h1.2, by omega, by omega⟩)]
    simp only [cond_false]
    rw [cof_at N hx]
    simp only [Option.bind_some]
    by_cases hr : inR x
    ·obtain ⟨q, _⟩ := sec_tim h1.1 h1.2
     obtain ⟨a1, a2, a3, a4, a5, a6, _⟩ := q.rng
     rw [ofE_in hr, if_pos hr]
     simp only [Option.isNone_none, Bool.not_true, cond_false]
     rw [ctext_at, if_pos (of_may.2 hr)]
     simp only [Option.bind_some, Option.isNone_none, Bool.not_true, cond_false]
     rw [dydig_2 N a1 (by omega), dydig_2 N a3 (by omega), dydig_2 N a5 (by omega), dydig_9 N (show 0 ≤ n by omega) (by omega)]
     simp only [Option.bind_some, tee, colon, point, bt_app, bt_size, List.length_append, List.length_cons, List.length_nil, date_len, twoL_len]
     rw [show decide (((10 + (0 + 1) : Nat) : Int) > 9223372036854775807) = false from rfl]
     simp only [cond_false]
     unfold stL
     simp only [List.append_assoc, List.cons_append, List.nil_append]; rfl
    ·rw [ofE_out hr, if_neg hr]; rfl
 ·rw [if_neg h1, if_neg (fun q : StOk s n => h1 ⟨q.1, q.2.1⟩)]; rfl
end Go.Proofs.YthbhbfnnagaclaaGreatDoor.Mir
namespace Go.Proofs.YthbhbfnnagaclaaGreatDoor.Mir
open Go Go.RowKit
set_option maxRecDepth 100000
theorem ofE_days {y m d : Int} (h : MayD y m d) : ofE (daysD y m d) = ((y, m, d), none) ∧ R64 (daysD y m d) := by
 obtain ⟨e1, e2, e3⟩ := of_days ⟨h.2.2.1, h.2.2.2⟩
 have hr := of_may (n := daysD y m d)
 rw [e1, e2, e3] at hr
 have hr := hr.1 h
 unfold ofE
 rw [if_pos hr, e1, e2, e3]
 exact ⟨rfl, by omega, by omega⟩
end Go.Proofs.YthbhbfnnagaclaaGreatDoor.Mir
namespace Go.Proofs.YthbhbfnnagaclaaGreatDoor.Mir
open Go Go.RowKit
set_option maxRecDepth 100000
theorem parts29 {A B C D E : List UInt8} (hA : A.length = 10) (hB : B.length = 2) (hC : C.length = 2) (hD : D.length = 2) :
  (A ++ 84 :: (B ++ 58 :: (C ++ 58 :: (D ++ 46 :: E)))).take 10 = A ∧ ((A ++ 84 :: (B ++ 58 :: (C ++ 58 :: (D ++ 46 :: E)))).drop 11).take 2 = B ∧ ((A ++ 84 :: (B ++ 58 :: (C ++ 58 :: (D ++ 46 :: E)))).drop 14).take 2 = C ∧
  ((A ++ 84 :: (B ++ 58 :: (C ++ 58 :: (D ++ 46 :: E)))).drop 17).take 2 = D ∧ (A ++ 84 :: (B ++ 58 :: (C ++ 58 :: (D ++ 46 :: E)))).drop 20 = E ∧
  (A ++ 84 :: (B ++ 58 :: (C ++ 58 :: (D ++ 46 :: E)))).getD 10 0 = 84 ∧ (A ++ 84 :: (B ++ 58 :: (C ++ 58 :: (D ++ 46 :: E)))).getD 13 0 = 58 ∧ (A ++ 84 :: (B ++ 58 :: (C ++ 58 :: (D ++ 46 :: E)))).getD 16 0 = 58 ∧ (A ++ 84 :: (B ++ 58 :: (C ++ 58 :: (D ++ 46 :: E)))).getD 19 0 = 46 := by
 match A, hA, B, hB, C, hC, D, hD with
 | [_, _, _, _, _, _, _, _, _, _], _, [_, _], _, [_, _], _, [_, _], _ => exact ⟨rfl, rfl, rfl, rfl, rfl, rfl, rfl, rfl, rfl⟩
theorem of29 : ∀ {l : List UInt8}, l.length = 29 → l = l.take 10 ++ l.getD 10 0 :: ((l.drop 11).take 2 ++ l.getD 13 0 :: ((l.drop 14).take 2 ++ l.getD 16 0 :: ((l.drop 17).take 2 ++ l.getD 19 0 :: l.drop 20)))
 | [_, _, _, _, _, _, _, _, _, _, _, _, _, _, _, _, _, _, _, _, _, _, _, _, _, _, _, _, _], _ => rfl
def hP (l : List UInt8) : Int := digV ((l.drop 11).take 2)
def mP (l : List UInt8) : Int := digV ((l.drop 14).take 2)
def sP (l : List UInt8) : Int := digV ((l.drop 17).take 2)
def nP (l : List UInt8) : Int := digV (l.drop 20)
def yP (l : List UInt8) : Int × Int × Int := (dY (l.take 10), dM (l.take 10), dD (l.take 10))
def okS (l : List UInt8) : Prop := l.length = 29 ∧ l.getD 10 0 = 84 ∧ l.getD 13 0 = 58 ∧ l.getD 16 0 = 58 ∧ l.getD 19 0 = 46 ∧ okD (l.take 10) ∧ MayT (hP l) (mP l) (sP l) ∧ 0 ≤ nP l
instance (l : List UInt8) : Decidable (okS l) := inferInstanceAs (Decidable (_ ∧ _))
theorem digV_toNat {k : Nat} {n : Int} (h0 : 0 ≤ n) (h : n.toNat < 10 ^ k) : digV (twoL k n.toNat) = n := by rw [digV_two h]; omega
theorem st_ok {y m d h i s n : Int} (hd : MayD y m d) (ht : MayT h i s) (h0 : 0 ≤ n) (h1 : n < 1000000000) :
  okS (stL (y, m, d) (h, i, s) n) ∧ yP (stL (y, m, d) (h, i, s) n) = (y, m, d) ∧ hP (stL (y, m, d) (h, i, s) n) = h ∧ mP (stL (y, m, d) (h, i, s) n) = i ∧ sP (stL (y, m, d) (h, i, s) n) = s ∧ nP (stL (y, m, d) (h, i, s) n) = n := by
 obtain ⟨o1, o2, o3, o4⟩ := date_ok hd
 obtain ⟨a1, a2, a3, a4, a5, a6, _⟩ := ht.rng
 obtain ⟨p1, p2, p3, p4, p5, p6, p7, p8, p9⟩ := parts29 (E := twoL 9 n.toNat) (date_len y m d) (twoL_len 2 h.toNat) (twoL_len 2 i.toNat) (twoL_len 2 s.toNat)
 have hl : (stL (y, m, d) (h, i, s) n).length = 29 := by unfold stL; simp only [List.length_append, List.length_cons, twoL_len, date_len]
 have q1 : (stL (y, m, d) (h, i, s) n).take 10 = dateL y m d := p1
 have q2 : hP (stL (y, m, d) (h, i, s) n) = h := (congrArg digV p2).trans (digV_toNat a1 (show h.toNat < 100 by omega))
 have q3 : mP (stL (y, m, d) (h, i, s) n) = i := (congrArg digV p3).trans (digV_toNat a3 (show i.toNat < 100 by omega))
 have q4 : sP (stL (y, m, d) (h, i, s) n) = s := (congrArg digV p4).trans (digV_toNat a5 (show s.toNat < 100 by omega))
 have q5 : nP (stL (y, m, d) (h, i, s) n) = n := (congrArg digV p5).trans (digV_toNat h0 (show n.toNat < 1000000000 by omega))
 refine ⟨⟨hl, p6, p7, p8, p9, by rw [q1]; exact o1, by rw [q2, q3, q4]; exact ht, by rw [q5]; exact h0⟩, ?_, q2, q3, q4, q5⟩
 unfold yP
 rw [q1, o2, o3, o4]
theorem okS_text {l : List UInt8} (h : okS l) : l = stL (yP l) (hP l, mP l, sP l) (nP l) := by
 obtain ⟨h1, h2, h3, h4, h5, h6, h7, h8⟩ := h
 obtain ⟨a1, a2, a3, a4, a5, a6, _⟩ := h7.rng
 have e := of29 h1
 rw [h2, h3, h4, h5] at e
 have d := okD_text h6
 unfold stL yP
 simp only
 rw [← d, show twoL 2 (hP l).toNat = (l.drop 11).take 2 from two_digV (by rw [List.length_take, List.length_drop]; omega) a1, show twoL 2 (mP l).toNat = (l.drop 14).take 2 from two_digV (by rw [List.length_take, List.length_drop]; omega) a3,
  show twoL 2 (sP l).toNat = (l.drop 17).take 2 from two_digV (by rw [List.length_take, List.length_drop]; omega) a5, show twoL 9 (nP l).toNat = l.drop 20 from two_digV (by rw [List.length_drop]; omega) h8]
 exact e
theorem nP_lt {l : List UInt8} (h : okS l) : nP l < 1000000000 := by
 obtain ⟨h1, _, _, _, _, _, _, h8⟩ := h
 obtain ⟨d1, d2⟩ := digV_pos h8
 have := valL_lt (l.drop 20) 0 0 d1 (by decide)
 rw [List.length_drop, h1] at this
 have e : nP l = (valL 0 (l.drop 20) : Int) := d2
 have : valL 0 (l.drop 20) < 1000000000 := this
 omega
def dayP (l : List UInt8) : Int := daysD (yP l).1 (yP l).2.1 (yP l).2.2
def dyC (l : List UInt8) : Int × Int × Int × Option Int := if okS l then (dayP l, secT (hP l) (mP l) (sP l), nP l, none) else (0, 0, 0, some 3)
theorem parseM_dig : ∀ (l : List UInt8) (a : Nat), (∀ c ∈ l, digB c = true) → (a + 1) * 10 ^ l.length ≤ 1000000000000000000 → Lib.parseUintM (2 ^ 64 - 1) a l = .ok (valL a l)
 | [], a, _, _ => rfl
 | c :: l, a, hd, h => by
  obtain ⟨c1, c2⟩ := digB_ok (hd c (List.mem_cons_self ..))
  rw [List.length_cons, Nat.pow_succ] at h
  have hp : 1 ≤ 10 ^ l.length := Nat.one_le_pow _ _ (by decide)
  have h1 : (a + 1) * 10 ≤ 1000000000000000000 := by
   have : (a + 1) * (1 * 10) ≤ (a + 1) * (10 ^ l.length * 10) := Nat.mul_le_mul_left _ (Nat.mul_le_mul_right _ hp)
   omega
  unfold Lib.parseUintM valL
  rw [if_pos ⟨c1, c2⟩, if_neg (by omega), if_neg (show ¬ 2 ^ 64 - 1 < a * 10 + (c.toNat - 48) by
   have : (2 : Nat) ^ 64 - 1 = 18446744073709551615 := by decide
   omega)]
  refine parseM_dig l _ (fun x hx => hd x (List.mem_cons_of_mem _ hx)) ?_
  refine Nat.le_trans (Nat.mul_le_mul_right _ (show a * 10 + (c.toNat - 48) + 1 ≤ (a + 1) * 10 by omega)) ?_
  rw [Nat.mul_assoc, Nat.mul_comm 10]
  exact h
theorem pint_two {k n : Nat} (hk : 1 ≤ k) (hk2 : k ≤ 17) (h : n < 10 ^ k) : Lib.parseIntB 64 (twoL k n) = .ok (n : Int) := by
 have hp : Lib.parseUintM (2 ^ 64 - 1) 0 (twoL k n) = .ok n := by
  rw [parseM_dig _ 0 (twoL_dig k n) (by
   rw [twoL_len, Nat.zero_add, Nat.one_mul]
   exact Nat.le_trans (Nat.pow_le_pow_right (by decide) hk2) (by decide)), valL_two k n 0 h, Nat.zero_mul, Nat.zero_add]
 have hl := twoL_len k n
 have hd := twoL_dig k n
 have hn : n < 10 ^ 17 := Nat.lt_of_lt_of_le h (Nat.pow_le_pow_right (by decide) hk2)
 have hn2 : n < 100000000000000000 := hn
 generalize twoL k n = l at hp hl hd
 cases l with
 | nil => simp at hl; omega
 | cons c r =>
  obtain ⟨c1, c2⟩ := digB_ok (hd c (List.mem_cons_self ..))
  have e63 : (2 : Nat) ^ (64 - 1) = 9223372036854775808 := by decide
  unfold Lib.parseIntB
  simp only
  rw [if_neg (show ¬ (c.toNat = 43 ∨ c.toNat = 45) by omega)]
  unfold Lib.parseUintB
  rw [if_neg (by simp), hp]
  simp only
  rw [e63, if_neg (by omega), if_neg (by omega), if_neg (by omega)]
def numD (l : List UInt8) : Int := bif !(endD (Lib.parseIntB 64 l) (Lib.intSat 64 l)).2 then -1 else (endD (Lib.parseIntB 64 l) (Lib.intSat 64 l)).1
theorem dynum_at (N : Nat) {p : ByteArray} (h : p.size ≤ 281474976710656) : f_52 N p = some (numD p.data.toList) := by
 unfold f_52 numD
 refine (bindP _ (endD (Lib.parseIntB 64 p.data.toList) (Lib.intSat 64 p.data.toList)) _ ?_).trans ?_
 ·show (bif decide (p.size ≤ 281474976710656) && _ then _ else none) = _
  rw [decide_eq_true h]; rfl
 cases (endD (Lib.parseIntB 64 p.data.toList) (Lib.intSat 64 p.data.toList)).2 <;> rfl
theorem numD_two {k n : Nat} (hk : 1 ≤ k) (hk2 : k ≤ 17) (h : n < 10 ^ k) : numD (twoL k n) = (n : Int) := by
 unfold numD
 rw [pint_two hk hk2 h]; rfl
theorem numD_dig {l : List UInt8} {k : Nat} (hk : 1 ≤ k) (hk2 : k ≤ 17) (hl : l.length = k) (h : 0 ≤ digV l) : numD l = digV l := by
 have e := two_digV hl h
 obtain ⟨d1, d2⟩ := digV_pos h
 have hlt := valL_lt l 0 0 d1 (by decide)
 rw [hl, Nat.zero_add] at hlt
 have hn : (digV l).toNat < 10 ^ k := by rw [d2, Int.toNat_natCast]; exact hlt
 have q := numD_two hk hk2 hn
 rw [e] at q
 rw [q]; omega
theorem dyparse_at (N : Nat) (hN : 4 ≤ N) (s : ByteArray) : f_23 N s = some (dyC s.data.toList) := by
 have hl := size_list8 s
 unfold f_23
 by_cases h : s.size = 29
 ·have e10 : (s.size : Int) = 29 := by omega
  rw [e10, show ((29 : Int) != 29) = false from rfl]
  have x1 : ByteArray.extract s (Int.toNat (0 : Int)) (Int.toNat (10 : Int)) = bt (s.data.toList.take 10) := by
   rw [bt_of (ByteArray.extract _ _ _), Lib.extract_data]; rfl
  have x2 : ByteArray.extract s (Int.toNat (11 : Int)) (Int.toNat (13 : Int)) = bt ((s.data.toList.drop 11).take 2) := by
   rw [bt_of (ByteArray.extract _ _ _), Lib.extract_data]; rfl
  have x3 : ByteArray.extract s (Int.toNat (14 : Int)) (Int.toNat (16 : Int)) = bt ((s.data.toList.drop 14).take 2) := by
   rw [bt_of (ByteArray.extract _ _ _), Lib.extract_data]; rfl
  have x4 : ByteArray.extract s (Int.toNat (17 : Int)) (Int.toNat (19 : Int)) = bt ((s.data.toList.drop 17).take 2) := by
   rw [bt_of (ByteArray.extract _ _ _), Lib.extract_data]; rfl
  have x5 : ByteArray.extract s (Int.toNat (20 : Int)) (Int.toNat (29 : Int)) = bt (s.data.toList.drop 20) := by
   rw [bt_of (ByteArray.extract _ _ _), Lib.extract_data, List.take_of_length_le (by rw [List.length_drop]; show _ - 20 ≤ 29 - 20; omega)]; rfl
  rw [x1, x2, x3, x4, x5]
  have hs := bt_of s
  generalize hL : s.data.toList = l at hl hs ⊢
  rw [cparse_at N hN (by rw [bt_size, List.length_take]; omega), dynum_at N (p := bt ((l.drop 11).take 2)) (by rw [bt_size, List.length_take]; omega), dynum_at N (p := bt ((l.drop 14).take 2)) (by rw [bt_size, List.length_take]; omega), dynum_at N (p := bt ((l.drop 17).take 2)) (by rw [bt_size, List.length_take]; omega), dynum_at N (p := bt (l.drop 20)) (by rw [bt_size, List.length_drop]; omega)]
  simp only [bt_list, Option.bind_some, dysecs_at]
  show (bif !(Option.isNone (parC (l.take 10)).2) then some (0, 0, 0, (parC (l.take 10)).2) else Option.bind (f_50 N (parC (l.take 10)).1.1 (parC (l.take 10)).1.2.1 (parC (l.take 10)).1.2.2) fun r3 => bif !(Option.isNone r3.2) then some (0, 0, 0, some 3) else
   (bif !(Option.isNone (secE (numD ((l.drop 11).take 2)) (numD ((l.drop 14).take 2)) (numD ((l.drop 17).take 2))).2) then some (0, 0, 0, some 3) else
    Option.bind (f_18 N r3.1 (secE (numD ((l.drop 11).take 2)) (numD ((l.drop 14).take 2)) (numD ((l.drop 17).take 2))).1 (numD (l.drop 20))) fun r9 => bif !(Option.isNone r9.2) then some (0, 0, 0, some 3) else
     (bif !(ByteArray.toList r9.1 == ByteArray.toList s) then some (0, 0, 0, some 3) else some (r3.1, (secE (numD ((l.drop 11).take 2)) (numD ((l.drop 14).take 2)) (numD ((l.drop 17).take 2))).1, numD (l.drop 20), none)))) = _
  unfold dyC
  by_cases h5 : okD (l.take 10)
  ·rw [show parC (l.take 10) = (yP l, none) from if_pos h5]
   simp only [Option.isNone_none, Bool.not_true, cond_false]
   have hM : MayD (yP l).1 (yP l).2.1 (yP l).2.2 := h5.2.2.2
   obtain ⟨k1, k2⟩ := ofE_days hM
   have k3 : inR (dayP l) := by
    by_cases q : inR (dayP l)
    ·exact q
    ·rw [show daysD (yP l).1 (yP l).2.1 (yP l).2.2 = dayP l from rfl, ofE_out q] at k1; exact absurd (congrArg Prod.snd k1) (by simp)
   have k4 : (ofY (dayP l), ofM (dayP l), ofD (dayP l)) = yP l := by
    rw [show daysD (yP l).1 (yP l).2.1 (yP l).2.2 = dayP l from rfl, ofE_in k3] at k1
    exact congrArg Prod.fst k1
   refine (bindP _ _ _ (cdays_at N (yP l).1 (yP l).2.1 (yP l).2.2)).trans ?_
   rw [if_pos hM]
   simp only [Option.isNone_none, Bool.not_true, cond_false]
   by_cases hS : okS l
   ·obtain ⟨_, _, _, _, _, _, h7, h8⟩ := id hS
    obtain ⟨a1, a2, a3, a4, a5, a6, a7, a8⟩ := h7.rng
    rw [if_pos hS, show numD ((l.drop 11).take 2) = hP l from numD_dig (k := 2) (by decide) (by decide) (by rw [List.length_take, List.length_drop]; omega) a1, show numD ((l.drop 14).take 2) = mP l from numD_dig (k := 2) (by decide) (by decide) (by rw [List.length_take, List.length_drop]; omega) a3,
     show numD ((l.drop 17).take 2) = sP l from numD_dig (k := 2) (by decide) (by decide) (by rw [List.length_take, List.length_drop]; omega) a5, show numD (l.drop 20) = nP l from numD_dig (k := 9) (by decide) (by decide) (by rw [List.length_drop]; omega) h8,
     show secE (hP l) (mP l) (sP l) = (secT (hP l) (mP l) (sP l), none) from if_pos h7]
    simp only [Option.isNone_none, Bool.not_true, cond_false]
    refine (bindP _ _ _ (dystamp_at N k2)).trans ?_
    rw [show stE (daysD (yP l).1 (yP l).2.1 (yP l).2.2) (secT (hP l) (mP l) (sP l)) (nP l) = (bt (stL (ofY (dayP l), ofM (dayP l), ofD (dayP l)) (timD (secT (hP l) (mP l) (sP l))) (nP l)), none) from by
     unfold stE; rw [if_pos (show StOk (secT (hP l) (mP l) (sP l)) (nP l) from ⟨a7, a8, h8, nP_lt hS⟩)]; exact if_pos k3, k4, tim_sec h7, ← okS_text hS, hs, bt_beq, decide_eq_true rfl]; rfl
   ·rw [if_neg hS]
    generalize numD ((l.drop 11).take 2) = a
    generalize numD ((l.drop 14).take 2) = b
    generalize numD ((l.drop 17).take 2) = c
    generalize numD (l.drop 20) = n
    by_cases h7 : MayT a b c
    ·obtain ⟨a1, a2, a3, a4, a5, a6, a7, a8⟩ := h7.rng
     rw [show secE a b c = (secT a b c, none) from if_pos h7]
     simp only [Option.isNone_none, Bool.not_true, cond_false]
     refine (bindP _ _ _ (dystamp_at N k2)).trans ?_
     by_cases h9 : StOk (secT a b c) n
     ·rw [show stE (daysD (yP l).1 (yP l).2.1 (yP l).2.2) (secT a b c) n = (bt (stL (ofY (dayP l), ofM (dayP l), ofD (dayP l)) (timD (secT a b c)) n), none) from by
       unfold stE; rw [if_pos h9]; exact if_pos k3, k4, tim_sec h7, hs, bt_beq]
      rw [decide_eq_false (fun e => hS (by rw [← e]; exact (st_ok hM h7 h9.2.2.1 h9.2.2.2).1))]; rfl
     ·rw [show stE (daysD (yP l).1 (yP l).2.1 (yP l).2.2) (secT a b c) n = (bt [], some 1) from if_neg h9]; rfl
    ·rw [show secE a b c = (0, some 1) from if_neg h7]; rfl
  ·rw [show parC (l.take 10) = ((0, 0, 0), some 3) from if_neg h5, if_neg (fun q : okS l => h5 q.2.2.2.2.2.1)]; rfl
 ·rw [show ((s.size : Int) != 29) = true from bne_iff_ne.2 (by omega)]
  unfold dyC
  rw [if_neg (fun q : okS s.data.toList => h (by have := q.1; omega))]; rfl
end Go.Proofs.YthbhbfnnagaclaaGreatDoor.Mir
namespace Go.Proofs.YthbhbfnnagaclaaGreatDoor.Mir
open Go Go.RowKit
set_option maxRecDepth 100000
theorem bl_app : ∀ (a b x y : List UInt8), a.length = b.length → Op.bytesLess (a ++ x) (b ++ y) = (Op.bytesLess a b || ((a == b) && Op.bytesLess x y))
 | [], [], _, _, _ => by simp [Op.bytesLess]
 | [], _ :: _, _, _, h => by simp at h
 | _ :: _, [], _, _, h => by simp at h
 | c :: a, d :: b, x, y, h => by
  have ih := bl_app a b x y (by simpa using h)
  show (decide (c < d) || ((c == d) && Op.bytesLess (a ++ x) (b ++ y))) = ((decide (c < d) || ((c == d) && Op.bytesLess a b)) || (((c == d) && (a == b)) && Op.bytesLess x y))
  rw [ih]
  cases decide (c < d) <;> cases (c == d) <;> cases (a == b) <;> cases Op.bytesLess a b <;> cases Op.bytesLess x y <;> rfl
theorem two_eq {k a b : Nat} (ha : a < 10 ^ k) (hb : b < 10 ^ k) : (twoL k a == twoL k b) = decide (a = b) := by
 by_cases h : a = b
 ·subst h; rw [decide_eq_true rfl]; exact beq_self_eq_true _
 ·rw [decide_eq_false h]
  refine beq_eq_false_iff_ne.2 (fun e => h ?_)
  have := congrArg (valL 0) e
  rw [valL_two k a 0 ha, valL_two k b 0 hb] at this
  omega
theorem dig_lt {a b : Nat} (ha : a < 10) (hb : b < 10) : Op.bytesLess [UInt8.ofNat (48 + a)] [UInt8.ofNat (48 + b)] = decide (a < b) := by
 show (decide (UInt8.ofNat (48 + a) < UInt8.ofNat (48 + b)) || ((UInt8.ofNat (48 + a) == UInt8.ofNat (48 + b)) && false)) = _
 rw [Bool.and_false, Bool.or_false]
 have h1 := dig_nat ha
 have h2 := dig_nat hb
 have e : (UInt8.ofNat (48 + a) < UInt8.ofNat (48 + b)) ↔ a < b := by
  rw [UInt8.lt_iff_toNat_lt, h1, h2]; omega
 by_cases h : a < b
 ·rw [decide_eq_true h, decide_eq_true (e.2 h)]
 ·rw [decide_eq_false h, decide_eq_false (fun q => h (e.1 q))]
theorem two_lt : ∀ (k a b : Nat), a < 10 ^ k → b < 10 ^ k → Op.bytesLess (twoL k a) (twoL k b) = decide (a < b)
 | 0, a, b, ha, hb => by
  rw [Nat.pow_zero] at ha hb
  rw [decide_eq_false (show ¬ a < b by omega)]; rfl
 | k + 1, a, b, ha, hb => by
  rw [Nat.pow_succ] at ha hb
  show Op.bytesLess (twoL k (a / 10) ++ [UInt8.ofNat (48 + a % 10)]) (twoL k (b / 10) ++ [UInt8.ofNat (48 + b % 10)]) = _
  rw [bl_app _ _ _ _ (by rw [twoL_len, twoL_len]), two_lt k (a / 10) (b / 10) (by omega) (by omega), two_eq (show a / 10 < 10 ^ k by omega) (show b / 10 < 10 ^ k by omega), dig_lt (Nat.mod_lt _ (by decide)) (Nat.mod_lt _ (by decide))]
  rw [Bool.eq_iff_iff]
  simp only [Bool.or_eq_true, Bool.and_eq_true, decide_eq_true_eq]
  omega
def lexI (a b : Int) (r : Bool) : Bool := decide (a < b) || (decide (a = b) && r)
theorem bl_two {k : Nat} {a b : Int} (x y : List UInt8) (a0 : 0 ≤ a) (b0 : 0 ≤ b) (ha : a.toNat < 10 ^ k) (hb : b.toNat < 10 ^ k) : Op.bytesLess (twoL k a.toNat ++ x) (twoL k b.toNat ++ y) = lexI a b (Op.bytesLess x y) := by
 rw [bl_app _ _ _ _ (by rw [twoL_len, twoL_len]), two_lt k _ _ ha hb, two_eq ha hb]
 unfold lexI
 rw [Bool.eq_iff_iff]
 simp only [Bool.or_eq_true, Bool.and_eq_true, decide_eq_true_eq]
 constructor
 ·rintro (h | ⟨h, r⟩)
  ·exact .inl (by omega)
  ·exact .inr ⟨by omega, r⟩
 ·rintro (h | ⟨h, r⟩)
  ·exact .inl (by omega)
  ·exact .inr ⟨by omega, r⟩
theorem bl_cons (c : UInt8) (x y : List UInt8) : Op.bytesLess (c :: x) (c :: y) = Op.bytesLess x y := by
 show (decide (c < c) || ((c == c) && Op.bytesLess x y)) = _
 rw [decide_eq_false (by rw [UInt8.lt_iff_toNat_lt]; omega), beq_self_eq_true, Bool.true_and, Bool.false_or]
theorem bl_st {y m d h i s n y' m' d' h' i' s' n' : Int} (hd : MayD y m d) (ht : MayT h i s) (h0 : 0 ≤ n) (h1 : n < 1000000000) (hd' : MayD y' m' d') (ht' : MayT h' i' s') (h0' : 0 ≤ n') (h1' : n' < 1000000000) :
  Op.bytesLess (stL (y, m, d) (h, i, s) n) (stL (y', m', d') (h', i', s') n') = lexI y y' (lexI m m' (lexI d d' (lexI h h' (lexI i i' (lexI s s' (decide (n < n'))))))) := by
 obtain ⟨r1, r2, r3, r4, r5, r6⟩ := hd.rng
 obtain ⟨r1', r2', r3', r4', r5', r6'⟩ := hd'.rng
 obtain ⟨a1, a2, a3, a4, a5, a6, _⟩ := ht.rng
 obtain ⟨a1', a2', a3', a4', a5', a6', _⟩ := ht'.rng
 unfold stL dateL
 simp only [List.append_assoc, List.cons_append]
 rw [bl_two _ _ (by omega) (by omega) (show y.toNat < 10000 by omega) (show y'.toNat < 10000 by omega), bl_cons, bl_two _ _ (by omega) (by omega) (show m.toNat < 100 by omega) (show m'.toNat < 100 by omega), bl_cons, bl_two _ _ (by omega) (by omega) (show d.toNat < 100 by omega) (show d'.toNat < 100 by omega), bl_cons,
  bl_two _ _ a1 a1' (show h.toNat < 100 by omega) (show h'.toNat < 100 by omega), bl_cons, bl_two _ _ a3 a3' (show i.toNat < 100 by omega) (show i'.toNat < 100 by omega), bl_cons, bl_two _ _ a5 a5' (show s.toNat < 100 by omega) (show s'.toNat < 100 by omega), bl_cons,
  two_lt 9 _ _ (show n.toNat < 1000000000 by omega) (show n'.toNat < 1000000000 by omega)]
 rw [show decide (n.toNat < n'.toNat) = decide (n < n') by rw [Bool.eq_iff_iff, decide_eq_true_eq, decide_eq_true_eq]; omega]
theorem lex_lt {a b : Int} {r : Bool} (h : a < b) : lexI a b r = true := by unfold lexI; rw [decide_eq_true h]; rfl
theorem lex_gt {a b : Int} {r : Bool} (h : b < a) : lexI a b r = false := by unfold lexI; rw [decide_eq_false (by omega), decide_eq_false (by omega)]; rfl
theorem lex_eq {a : Int} {r : Bool} : lexI a a r = r := by unfold lexI; rw [decide_eq_false (by omega), decide_eq_true rfl]; rfl
theorem lex_day {y m d y' m' d' : Int} {r : Bool} (h : MayD y m d) (h' : MayD y' m' d') : lexI y y' (lexI m m' (lexI d d' r)) = lexI (daysD y m d) (daysD y' m' d') r := by
 have k := daysD_in h.2.2
 have k' := daysD_in h'.2.2
 have m1 := h.m
 have m1' := h'.m
 rcases Int.lt_trichotomy y y' with e | rfl | e
 ·have := yearN_mono (show y + 1 ≤ y' by omega)
  rw [lex_lt e, lex_lt (by omega)]
 ·rw [lex_eq]
  rcases Int.lt_trichotomy m m' with e | rfl | e
  ·have := monN_mono (y := y) (show 1 ≤ m + 1 by omega) (show m + 1 ≤ m' by omega)
   rw [lex_lt e, lex_lt (by omega)]
  ·rw [lex_eq]
   unfold daysD
   rcases Int.lt_trichotomy d d' with e | rfl | e
   ·rw [lex_lt e, lex_lt (by omega)]
   ·rw [lex_eq, lex_eq]
   ·rw [lex_gt e, lex_gt (by omega)]
  ·have := monN_mono (y := y) (show 1 ≤ m' + 1 by omega) (show m' + 1 ≤ m by omega)
   rw [lex_gt e, lex_gt (by omega)]
 ·have := yearN_mono (show y' + 1 ≤ y by omega)
  rw [lex_gt e, lex_gt (by omega)]
theorem lex_tim {h i s h' i' s' : Int} {r : Bool} (q : MayT h i s) (q' : MayT h' i' s') : lexI h h' (lexI i i' (lexI s s' r)) = lexI (secT h i s) (secT h' i' s') r := by
 unfold secT
 unfold MayT at q q'
 rcases Int.lt_trichotomy h h' with e | rfl | e
 ·rw [lex_lt e, lex_lt (by omega)]
 ·rw [lex_eq]
  rcases Int.lt_trichotomy i i' with e | rfl | e
  ·rw [lex_lt e, lex_lt (by omega)]
  ·rw [lex_eq]
   rcases Int.lt_trichotomy s s' with e | rfl | e
   ·rw [lex_lt e, lex_lt (by omega)]
   ·rw [lex_eq, lex_eq]
   ·rw [lex_gt e, lex_gt (by omega)]
  ·rw [lex_gt e, lex_gt (by omega)]
 ·rw [lex_gt e, lex_gt (by omega)]
def stX (x s n : Int) : List UInt8 := stL (ofY x, ofM x, ofD x) (timD s) n
theorem stX_ok {x s n : Int} (hx : inR x) (hs : StOk s n) : okS (stX x s n) ∧ dayP (stX x s n) = x ∧ secT (hP (stX x s n)) (mP (stX x s n)) (sP (stX x s n)) = s ∧ nP (stX x s n) = n := by
 obtain ⟨t1, t2⟩ := sec_tim hs.1 hs.2.1
 obtain ⟨o1, o2, o3, o4, o5, o6⟩ := st_ok (of_may.2 hx) t1 hs.2.2.1 hs.2.2.2
 unfold stX
 rw [show timD s = ((timD s).1, (timD s).2.1, (timD s).2.2) from rfl]
 refine ⟨o1, ?_, ?_, o6⟩
 ·unfold dayP; rw [o2]; exact (of_ok x).2.2.1
 ·rw [o3, o4, o5]; exact t2
theorem stX_lt {x s n x' s' n' : Int} (hx : inR x) (hs : StOk s n) (hx' : inR x') (hs' : StOk s' n') : Op.bytesLess (stX x s n) (stX x' s' n') = lexI x x' (lexI s s' (decide (n < n'))) := by
 obtain ⟨t1, t2⟩ := sec_tim hs.1 hs.2.1
 obtain ⟨t1', t2'⟩ := sec_tim hs'.1 hs'.2.1
 have q := bl_st (of_may.2 hx) t1 hs.2.2.1 hs.2.2.2 (of_may.2 hx') t1' hs'.2.2.1 hs'.2.2.2
 rw [lex_day (of_may.2 hx) (of_may.2 hx'), lex_tim t1 t1', t2, t2', (of_ok x).2.2.1, (of_ok x').2.2.1] at q
 exact q
theorem bt_bytes (l : List UInt8) : (bt l).toList = l := by rw [Lib.toList_data]; rfl
end Go.Proofs.YthbhbfnnagaclaaGreatDoor.Mir
namespace Go.Proofs.YthbhbfnnagaclaaGreatDoor.Mir
open Go Go.RowKit
set_option maxRecDepth 100000
def addL (off : Int) : List UInt8 := (if off < 0 then 45 else 43) :: (twoL 2 (off.natAbs / 3600) ++ 58 :: (twoL 2 (off.natAbs / 60 % 60) ++ (if off.natAbs % 60 = 0 then [] else 58 :: twoL 2 (off.natAbs % 60))))
def oH (r : List UInt8) : Int := digV ((r.drop 1).take 2)
def oM (r : List UInt8) : Int := digV ((r.drop 4).take 2)
def oS (r : List UInt8) : Int := if r.length = 9 then digV ((r.drop 7).take 2) else 0
def oV (r : List UInt8) : Int := 3600 * oH r + 60 * oM r + oS r
def offV (r : List UInt8) : Int := if r.getD 0 0 = 45 then -oV r else oV r
def okO (r : List UInt8) : Prop := (r.length = 6 ∨ (r.length = 9 ∧ r.getD 6 0 = 58 ∧ 1 ≤ oS r)) ∧ (r.getD 0 0 = 43 ∨ (r.getD 0 0 = 45 ∧ 1 ≤ oV r)) ∧ r.getD 3 0 = 58 ∧ (0 ≤ oH r ∧ oH r ≤ 23) ∧ (0 ≤ oM r ∧ oM r ≤ 59) ∧ (0 ≤ oS r ∧ oS r ≤ 59)
instance (r : List UInt8) : Decidable (okO r) := inferInstanceAs (Decidable (_ ∧ _))
theorem of6 : ∀ {l : List UInt8}, l.length = 6 → l = l.getD 0 0 :: ((l.drop 1).take 2 ++ l.getD 3 0 :: ((l.drop 4).take 2 ++ []))
 | [_, _, _, _, _, _], _ => rfl
theorem of9 : ∀ {l : List UInt8}, l.length = 9 → l = l.getD 0 0 :: ((l.drop 1).take 2 ++ l.getD 3 0 :: ((l.drop 4).take 2 ++ l.getD 6 0 :: (l.drop 7).take 2))
 | [_, _, _, _, _, _, _, _, _], _ => rfl
theorem to6 {A B : List UInt8} (c : UInt8) (hA : A.length = 2) (hB : B.length = 2) : (c :: (A ++ 58 :: (B ++ []))).length = 6 ∧ (c :: (A ++ 58 :: (B ++ []))).getD 0 0 = c ∧ ((c :: (A ++ 58 :: (B ++ []))).drop 1).take 2 = A ∧ (c :: (A ++ 58 :: (B ++ []))).getD 3 0 = 58 ∧ ((c :: (A ++ 58 :: (B ++ []))).drop 4).take 2 = B := by
 match A, hA, B, hB with
 | [_, _], _, [_, _], _ => exact ⟨rfl, rfl, rfl, rfl, rfl⟩
theorem to9 {A B D : List UInt8} (c : UInt8) (hA : A.length = 2) (hB : B.length = 2) (hD : D.length = 2) : (c :: (A ++ 58 :: (B ++ 58 :: D))).length = 9 ∧ (c :: (A ++ 58 :: (B ++ 58 :: D))).getD 0 0 = c ∧ ((c :: (A ++ 58 :: (B ++ 58 :: D))).drop 1).take 2 = A ∧ (c :: (A ++ 58 :: (B ++ 58 :: D))).getD 3 0 = 58 ∧ ((c :: (A ++ 58 :: (B ++ 58 :: D))).drop 4).take 2 = B ∧
  (c :: (A ++ 58 :: (B ++ 58 :: D))).getD 6 0 = 58 ∧ ((c :: (A ++ 58 :: (B ++ 58 :: D))).drop 7).take 2 = D := by
 match A, hA, B, hB, D, hD with
 | [_, _], _, [_, _], _, [_, _], _ => exact ⟨rfl, rfl, rfl, rfl, rfl, rfl, rfl⟩
theorem okO_text {r : List UInt8} (h : okO r) : r = addL (offV r) ∧ (offV r).natAbs ≤ 86399 := by
 obtain ⟨h1, h2, h3, ⟨h4, h5⟩, ⟨h6, h7⟩, h8, h9⟩ := h
 have hv : oV r = 3600 * oH r + 60 * oM r + oS r := rfl
 have ha : (offV r).natAbs = (oV r).toNat := by unfold offV; split <;> omega
 have q1 : (offV r).natAbs / 3600 = (oH r).toNat := by rw [ha]; omega
 have q2 : (offV r).natAbs / 60 % 60 = (oM r).toNat := by rw [ha]; omega
 have q3 : (offV r).natAbs % 60 = (oS r).toNat := by rw [ha]; omega
 have hs : (if offV r < 0 then (45 : UInt8) else 43) = r.getD 0 0 := by
  rcases h2 with e | ⟨e, g⟩
  ·have : offV r = oV r := by unfold offV; rw [if_neg (by rw [e]; decide)]
   rw [if_neg (by omega), e]
  ·have : offV r = -oV r := by unfold offV; rw [if_pos e]
   rw [if_pos (by omega), e]
 have l2 : ((r.drop 1).take 2).length = 2 ∧ ((r.drop 4).take 2).length = 2 := by
  rw [List.length_take, List.length_drop, List.length_take, List.length_drop]; omega
 have w1 : twoL 2 (oH r).toNat = (r.drop 1).take 2 := two_digV l2.1 h4
 have w2 : twoL 2 (oM r).toNat = (r.drop 4).take 2 := two_digV l2.2 h6
 refine ⟨?_, by rw [ha]; omega⟩
 unfold addL
 rw [q1, q2, q3, hs, w1, w2]
 rcases h1 with e | ⟨e, g, g2⟩
 ·have e0 : oS r = 0 := by unfold oS; rw [if_neg (by omega)]
  have e6 := of6 e
  rw [h3] at e6
  rw [e0, if_pos (show Int.toNat 0 = 0 from rfl)]
  exact e6
 ·have e1 : oS r = digV ((r.drop 7).take 2) := by unfold oS; rw [if_pos e]
  have w3 : twoL 2 (oS r).toNat = (r.drop 7).take 2 := by
   rw [e1]
   exact two_digV (by rw [List.length_take, List.length_drop]; omega) (by rw [← e1]; omega)
  have e9 := of9 e
  rw [h3, g] at e9
  rw [if_neg (by omega), w3]
  exact e9
theorem add_ok {off : Int} (h : off.natAbs ≤ 86399) : okO (addL off) ∧ offV (addL off) = off := by
 have c1 : digV (twoL 2 (off.natAbs / 3600)) = ((off.natAbs / 3600 : Nat) : Int) := digV_two (show _ < 100 by omega)
 have c2 : digV (twoL 2 (off.natAbs / 60 % 60)) = ((off.natAbs / 60 % 60 : Nat) : Int) := digV_two (show _ < 100 by omega)
 have c3 : digV (twoL 2 (off.natAbs % 60)) = ((off.natAbs % 60 : Nat) : Int) := digV_two (show _ < 100 by omega)
 by_cases hz : off.natAbs % 60 = 0
 ·have e : addL off = (if off < 0 then 45 else 43) :: (twoL 2 (off.natAbs / 3600) ++ 58 :: (twoL 2 (off.natAbs / 60 % 60) ++ [])) := by unfold addL; rw [if_pos hz]
  obtain ⟨a1, a2, a3, a4, a5⟩ := to6 (if off < 0 then 45 else 43) (twoL_len 2 (off.natAbs / 3600)) (twoL_len 2 (off.natAbs / 60 % 60))
  rw [← e] at a1 a2 a3 a4 a5
  have v1 : oH (addL off) = ((off.natAbs / 3600 : Nat) : Int) := by unfold oH; rw [a3, c1]
  have v2 : oM (addL off) = ((off.natAbs / 60 % 60 : Nat) : Int) := by unfold oM; rw [a5, c2]
  have v3 : oS (addL off) = 0 := by unfold oS; rw [if_neg (by omega)]
  have v4 : oV (addL off) = (off.natAbs : Int) := by unfold oV; rw [v1, v2, v3]; omega
  by_cases hn : off < 0
  ·rw [if_pos hn] at a2
   refine ⟨⟨.inl a1, .inr ⟨a2, by omega⟩, a4, by omega, by omega, by omega⟩, ?_⟩
   unfold offV; rw [if_pos a2]; omega
  ·rw [if_neg hn] at a2
   refine ⟨⟨.inl a1, .inl a2, a4, by omega, by omega, by omega⟩, ?_⟩
   unfold offV; rw [if_neg (by rw [a2]; decide)]; omega
 ·have e : addL off = (if off < 0 then 45 else 43) :: (twoL 2 (off.natAbs / 3600) ++ 58 :: (twoL 2 (off.natAbs / 60 % 60) ++ 58 :: twoL 2 (off.natAbs % 60))) := by unfold addL; rw [if_neg hz]
  obtain ⟨a1, a2, a3, a4, a5, a6, a7⟩ := to9 (if off < 0 then 45 else 43) (twoL_len 2 (off.natAbs / 3600)) (twoL_len 2 (off.natAbs / 60 % 60)) (twoL_len 2 (off.natAbs % 60))
  rw [← e] at a1 a2 a3 a4 a5 a6 a7
  have v1 : oH (addL off) = ((off.natAbs / 3600 : Nat) : Int) := by unfold oH; rw [a3, c1]
  have v2 : oM (addL off) = ((off.natAbs / 60 % 60 : Nat) : Int) := by unfold oM; rw [a5, c2]
  have v3 : oS (addL off) = ((off.natAbs % 60 : Nat) : Int) := by unfold oS; rw [if_pos a1, a7, c3]
  have v4 : oV (addL off) = (off.natAbs : Int) := by unfold oV; rw [v1, v2, v3]; omega
  by_cases hn : off < 0
  ·rw [if_pos hn] at a2
   refine ⟨⟨.inr ⟨a1, a6, by omega⟩, .inr ⟨a2, by omega⟩, a4, by omega, by omega, by omega⟩, ?_⟩
   unfold offV; rw [if_pos a2]; omega
  ·rw [if_neg hn] at a2
   refine ⟨⟨.inr ⟨a1, a6, by omega⟩, .inl a2, a4, by omega, by omega, by omega⟩, ?_⟩
   unfold offV; rw [if_neg (by rw [a2]; decide)]; omega
def MayM (n off : Int) : Prop := -4611686018427387904 < n ∧ n < 4611686018427387904 ∧ -86399 ≤ off ∧ off ≤ 86399
instance (n off : Int) : Decidable (MayM n off) := inferInstanceAs (Decidable (_ ∧ _))
def mDay (n off : Int) : Int := (n / 1000000000 + off) / 86400
def mSec (n off : Int) : Int := (n / 1000000000 + off) % 86400
def txtL (n off : Int) : List UInt8 := stX (mDay n off) (mSec n off) (n % 1000000000) ++ addL off
theorem mom_ok {n off : Int} (h : MayM n off) : inR (mDay n off) ∧ StOk (mSec n off) (n % 1000000000) ∧ mSec n off < 86400 ∧ -60000 ≤ mDay n off ∧ mDay n off ≤ 60000 := by
 obtain ⟨h1, h2, h3, h4⟩ := h
 unfold inR StOk mDay mSec
 omega
theorem stX_len {x s n : Int} (hx : inR x) (hs : StOk s n) : (stX x s n).length = 29 := (stX_ok hx hs).1.1
theorem txt_parts {n off : Int} (h : MayM n off) : (txtL n off).take 29 = stX (mDay n off) (mSec n off) (n % 1000000000) ∧ (txtL n off).drop 29 = addL off := by
 obtain ⟨h1, h2, _⟩ := mom_ok h
 have hl := stX_len h1 h2
 unfold txtL
 exact ⟨List.take_left' hl, List.drop_left' hl⟩
def nanV (l : List UInt8) : Int := (86400 * dayP (l.take 29) + secT (hP (l.take 29)) (mP (l.take 29)) (sP (l.take 29)) - offV (l.drop 29)) * 1000000000 + nP (l.take 29)
def okM (l : List UInt8) : Prop := okS (l.take 29) ∧ okO (l.drop 29) ∧ secT (hP (l.take 29)) (mP (l.take 29)) (sP (l.take 29)) ≠ 86400 ∧ MayM (nanV l) (offV (l.drop 29))
instance (l : List UInt8) : Decidable (okM l) := inferInstanceAs (Decidable (_ ∧ _))
theorem okS_stX {l : List UInt8} (h : okS l) : l = stX (dayP l) (secT (hP l) (mP l) (sP l)) (nP l) ∧ inR (dayP l) ∧ StOk (secT (hP l) (mP l) (sP l)) (nP l) := by
 obtain ⟨_, _, _, _, _, h6, h7, h8⟩ := id h
 obtain ⟨_, _, _, _, _, _, a7, a8⟩ := h7.rng
 have hM : MayD (yP l).1 (yP l).2.1 (yP l).2.2 := h6.2.2.2
 obtain ⟨e1, e2, e3⟩ := of_days ⟨hM.2.2.1, hM.2.2.2⟩
 have hr : inR (dayP l) := by
  have := of_may (n := dayP l)
  unfold dayP at this ⊢
  rw [e1, e2, e3] at this
  exact this.1 hM
 refine ⟨?_, hr, a7, a8, h8, nP_lt h⟩
 unfold stX
 rw [tim_sec h7]
 unfold dayP
 rw [e1, e2, e3]
 exact okS_text h
theorem okM_text {l : List UInt8} (h : okM l) : l = txtL (nanV l) (offV (l.drop 29)) := by
 obtain ⟨h1, h2, h3, h4⟩ := h
 obtain ⟨e1, e2, e3⟩ := okS_stX h1
 obtain ⟨f1, f2⟩ := okO_text h2
 have hs := e3.2.1
 have hs0 := e3.1
 have n0 := e3.2.2.1
 have n1 := e3.2.2.2
 have q0 : nanV l = (86400 * dayP (l.take 29) + secT (hP (l.take 29)) (mP (l.take 29)) (sP (l.take 29)) - offV (l.drop 29)) * 1000000000 + nP (l.take 29) := rfl
 generalize dayP (l.take 29) = d at *
 generalize secT (hP (l.take 29)) (mP (l.take 29)) (sP (l.take 29)) = s at *
 generalize nP (l.take 29) = k at *
 generalize nanV l = n at *
 have r1 : n / 1000000000 = 86400 * d + s - offV (l.drop 29) := by omega
 have r2 : n % 1000000000 = k := by omega
 have r3 : mDay n (offV (l.drop 29)) = d := by unfold mDay; rw [r1]; omega
 have r4 : mSec n (offV (l.drop 29)) = s := by unfold mSec; rw [r1]; omega
 unfold txtL
 rw [r2, r3, r4, ← e1, ← f1, List.take_append_drop]
theorem txt_ok {n off : Int} (h : MayM n off) : okM (txtL n off) ∧ nanV (txtL n off) = n ∧ offV ((txtL n off).drop 29) = off := by
 obtain ⟨h1, h2, h3, _⟩ := mom_ok h
 obtain ⟨p1, p2⟩ := txt_parts h
 obtain ⟨o1, o2, o3, o4⟩ := stX_ok h1 h2
 obtain ⟨a1, a2⟩ := add_ok (off := off) (by have := h.2.2; omega)
 have hn : nanV (txtL n off) = n := by
  unfold nanV
  rw [p1, p2, o2, o3, o4, a2]
  unfold mDay mSec
  omega
 refine ⟨⟨by rw [p1]; exact o1, by rw [p2]; exact a1, by rw [p1, o3]; omega, by rw [hn, p2, a2]; exact h⟩, hn, by rw [p2, a2]⟩
theorem txt_lt {n u off : Int} (h : MayM n off) (h' : MayM u off) : Op.bytesLess (txtL n off) (txtL u off) = decide (n < u) := by
 obtain ⟨h1, h2, _⟩ := mom_ok h
 obtain ⟨h1', h2', _⟩ := mom_ok h'
 unfold txtL
 rw [bl_app _ _ _ _ (by rw [stX_len h1 h2, stX_len h1' h2']), stX_lt h1 h2 h1' h2']
 have hb : Op.bytesLess (addL off) (addL off) = false := by
  have q : ∀ l : List UInt8, Op.bytesLess l l = false := fun l => by
   induction l with
   | nil => rfl
   | cons c l ih => rw [bl_cons]; exact ih
  exact q _
 rw [hb, Bool.and_false, Bool.or_false]
 unfold lexI mDay mSec
 rw [Bool.eq_iff_iff]
 simp only [Bool.or_eq_true, Bool.and_eq_true, decide_eq_true_eq]
 omega
theorem txt_inj {n u off off' : Int} (h : MayM n off) (h' : MayM u off') (e : txtL n off = txtL u off') : n = u ∧ off = off' := by
 obtain ⟨_, a, b⟩ := txt_ok h
 obtain ⟨_, a', b'⟩ := txt_ok h'
 rw [e] at a b
 exact ⟨a.symm.trans a', b.symm.trans b'⟩
end Go.Proofs.YthbhbfnnagaclaaGreatDoor.Mir
namespace Go.Proofs.YthbhbfnnagaclaaGreatDoor.Mir
open Go
set_option maxRecDepth 100000
theorem list_last : ∀ {l : List UInt8}, l ≠ [] → ∃ (a : List UInt8) (c : UInt8), l = a ++ [c]
 | [], h => absurd rfl h
 | [c], _ => ⟨[], c, rfl⟩
 | c :: d :: l, _ => by
  obtain ⟨a, e, h⟩ := list_last (l := d :: l) (by simp)
  exact ⟨c :: a, e, by rw [h]; rfl⟩
theorem valL_snoc (a : List UInt8) (c : UInt8) (n : Nat) : valL n (a ++ [c]) = valL n a * 10 + (c.toNat - 48) := by rw [valL_app]; rfl
def leadB (l : List UInt8) : Prop := l.length = 1 ∨ l.getD 0 0 ≠ 48
theorem dgF_dig : ∀ (f u : Nat), ∀ c ∈ dgF f u, digB c = true
 | 0, _, c, h => by cases h
 | f + 1, u, c, h => by
  have q : ∀ d, d < 10 → digB (UInt8.ofNat (48 + d)) = true := fun d hd => by
   unfold digB
   rw [dig_nat hd, decide_eq_true (by omega), decide_eq_true (by omega)]; rfl
  unfold dgF at h
  split at h
  ·obtain rfl := List.mem_singleton.1 h
   exact q _ (by omega)
  ·rcases List.mem_append.1 h with h | h
   ·exact dgF_dig f _ c h
   ·obtain rfl := List.mem_singleton.1 h
    exact q _ (Nat.mod_lt _ (by decide))
theorem dgF_val : ∀ (k f u : Nat), u < 10 ^ (k + 1) → k < f → valL 0 (dgF f u) = u ∧ 1 ≤ (dgF f u).length ∧ leadB (dgF f u) ∧ (1 ≤ u → (dgF f u).getD 0 0 ≠ 48)
 | k, 0, _, _, h => absurd h (Nat.not_lt_zero _)
 | k, f + 1, u, hu, hf => by
  unfold dgF
  by_cases h : u < 10
  ·rw [if_pos h]
   refine ⟨?_, Nat.le_refl _, .inl rfl, fun h1 => ?_⟩
   ·show 0 * 10 + ((UInt8.ofNat (48 + u)).toNat - 48) = u
    rw [dig_nat h]; omega
   ·show UInt8.ofNat (48 + u) ≠ 48
    intro e
    have := congrArg UInt8.toNat e
    rw [dig_nat h] at this
    have h48 : (48 : UInt8).toNat = 48 := rfl
    omega
  ·rw [if_neg h]
   match k with
   | 0 => rw [Nat.zero_add, Nat.pow_one] at hu; omega
   | k + 1 =>
    rw [Nat.pow_succ] at hu
    obtain ⟨e1, e2, e3, e4⟩ := dgF_val k f (u / 10) (by omega) (by omega)
    have e4 := e4 (by omega)
    have hd := dig_nat (Nat.mod_lt u (show 0 < 10 by decide))
    have hne : dgF f (u / 10) ≠ [] := by intro e; rw [e] at e2; simp at e2
    obtain ⟨d, b, e⟩ := List.exists_cons_of_ne_nil hne
    rw [e] at e4 ⊢
    refine ⟨?_, by simp, .inr e4, fun _ => e4⟩
    rw [← e, valL_snoc, e1, hd]; omega
def trim0 (l : List UInt8) : List UInt8 := (l.reverse.dropWhile (· == 48)).reverse
theorem trim0_zeros (l : List UInt8) : ∀ k, trim0 (l ++ List.replicate k 48) = trim0 l
 | 0 => by rw [List.replicate_zero, List.append_nil]
 | k + 1 => by
  rw [List.replicate_succ', ← List.append_assoc]
  have := trim0_zeros l k
  unfold trim0 at this ⊢
  rw [List.reverse_append]
  show (((48 : UInt8) :: (l ++ List.replicate k 48).reverse).dropWhile (· == 48)).reverse = _
  rw [List.dropWhile_cons_of_pos (by rfl)]
  exact this
theorem trim0_last (a : List UInt8) {c : UInt8} (h : c ≠ 48) : trim0 (a ++ [c]) = a ++ [c] := by
 unfold trim0
 rw [List.reverse_append]
 show ((c :: a.reverse).dropWhile (· == 48)).reverse = _
 rw [List.dropWhile_cons_of_neg (by simpa using h)]
 simp
theorem trim0_form : ∀ (k : Nat) (l : List UInt8), l.length = k → ∃ j, l = trim0 l ++ List.replicate j 48 ∧ (trim0 l = [] ∨ ∃ a c, trim0 l = a ++ [c] ∧ c ≠ 48)
 | 0, l, h => by
  obtain rfl := List.length_eq_zero_iff.1 h
  exact ⟨0, rfl, .inl rfl⟩
 | k + 1, l, h => by
  obtain ⟨a, c, rfl⟩ := list_last (l := l) (by intro e; rw [e] at h; simp at h)
  rw [List.length_append, List.length_singleton] at h
  by_cases hc : c = 48
  ·subst hc
   obtain ⟨j, e, q⟩ := trim0_form k a (by omega)
   have e1 : trim0 (a ++ [48]) = trim0 a := trim0_zeros a 1
   refine ⟨j + 1, ?_, by rw [e1]; exact q⟩
   rw [e1, List.replicate_succ', ← List.append_assoc, ← e]
  ·exact ⟨0, by rw [trim0_last a hc]; simp, .inr ⟨a, c, trim0_last a hc, hc⟩⟩
def fracL (m : Nat) : List UInt8 := trim0 (twoL 9 m)
def lenT (n : Nat) : List UInt8 := dgF 20 (n / 1000000000) ++ ((if fracL (n % 1000000000) = [] then [] else 46 :: fracL (n % 1000000000)) ++ [115])
def lenV (w r : List UInt8) : Nat := valL 0 w * 1000000000 + valL 0 r * 10 ^ (9 - r.length)
theorem len_parts {n : Nat} (hn : n < 9223372036854775808) : ∃ w r : List UInt8, lenT n = w ++ ((if r = [] then [] else 46 :: r) ++ [115]) ∧ lenV w r = n ∧ (∀ c ∈ w, digB c = true) ∧ 1 ≤ w.length ∧ w.length ≤ 10 ∧ leadB w ∧ (∀ c ∈ r, digB c = true) ∧ r.length ≤ 9 ∧ (r = [] ∨ ∃ a c, r = a ++ [c] ∧ c ≠ 48) ∧
  valL 0 w = n / 1000000000 ∧ r ++ List.replicate (9 - r.length) 48 = twoL 9 (n % 1000000000) := by
 have hw := dgF_val 9 20 (n / 1000000000) (show n / 1000000000 < 10000000000 by omega) (by decide)
 have hl := dgF_len 9 20 (n / 1000000000) (show n / 1000000000 < 10000000000 by omega) (by decide)
 have h9 := twoL_len 9 (n % 1000000000)
 obtain ⟨j, e, q⟩ := trim0_form 9 (twoL 9 (n % 1000000000)) h9
 have hj : (trim0 (twoL 9 (n % 1000000000))).length + j = 9 := by
  have := congrArg List.length e
  rw [List.length_append, List.length_replicate, h9] at this
  omega
 have hd : ∀ c ∈ trim0 (twoL 9 (n % 1000000000)), digB c = true := fun c hc => twoL_dig 9 (n % 1000000000) c (by rw [e]; exact List.mem_append_left _ hc)
 have ej : trim0 (twoL 9 (n % 1000000000)) ++ List.replicate (9 - (trim0 (twoL 9 (n % 1000000000))).length) 48 = twoL 9 (n % 1000000000) := by
  rw [show 9 - (trim0 (twoL 9 (n % 1000000000))).length = j by omega]; exact e.symm
 refine ⟨dgF 20 (n / 1000000000), trim0 (twoL 9 (n % 1000000000)), rfl, ?_, dgF_dig _ _, hw.2.1, hl, hw.2.2.1, hd, by omega, q, hw.1, ej⟩
 unfold lenV
 rw [hw.1]
 have hv : valL 0 (trim0 (twoL 9 (n % 1000000000))) * 10 ^ (9 - (trim0 (twoL 9 (n % 1000000000))).length) = n % 1000000000 := by
  have v := valL_two 9 (n % 1000000000) 0 (show n % 1000000000 < 1000000000 by omega)
  rw [Nat.zero_mul, Nat.zero_add] at v
  have q2 : ∀ (k : Nat) (l : List UInt8), valL 0 (l ++ List.replicate k 48) = valL 0 l * 10 ^ k := fun k l => by
   induction k with
   | zero => rw [List.replicate_zero, List.append_nil, Nat.pow_zero, Nat.mul_one]
   | succ k ih =>
    rw [List.replicate_succ', ← List.append_assoc, valL_snoc, ih, Nat.pow_succ, ← Nat.mul_assoc]
    rfl
  rw [← q2, ej, v]
 omega
def lonW (l : List UInt8) : List UInt8 := l.dropLast.takeWhile (· != 46)
def lonR (l : List UInt8) : List UInt8 := (l.dropLast.dropWhile (· != 46)).drop 1
def lonV (l : List UInt8) : Nat := lenV (lonW l) (lonR l)
def okN (l : List UInt8) : Prop := lonV l < 9223372036854775808 ∧ l = lenT (lonV l)
instance (l : List UInt8) : Decidable (okN l) := inferInstanceAs (Decidable (_ ∧ _))
theorem take_dig : ∀ {w : List UInt8} (x : List UInt8), (∀ c ∈ w, digB c = true) → (w ++ 46 :: x).takeWhile (· != 46) = w ∧ (w ++ 46 :: x).dropWhile (· != 46) = 46 :: x ∧ w.takeWhile (· != 46) = w ∧ w.dropWhile (· != 46) = []
 | [], x, _ => ⟨rfl, rfl, rfl, rfl⟩
 | c :: w, x, h => by
  obtain ⟨h1, h2⟩ := digB_ok (h c (by simp))
  obtain ⟨a, b, d, e⟩ := take_dig (w := w) x (fun z hz => h z (by simp [hz]))
  have hc : (c != 46) = true := bne_iff_ne.2 (fun q => by rw [q] at h1; exact absurd h1 (by decide))
  have hc' : (fun z : UInt8 => z != 46) c = true := hc
  refine ⟨?_, ?_, ?_, ?_⟩
  ·rw [List.cons_append, List.takeWhile_cons, hc]; simp [a]
  ·rw [List.cons_append, List.dropWhile_cons, hc]; simp [b]
  ·rw [List.takeWhile_cons, hc]; simp [d]
  ·rw [List.dropWhile_cons, hc]; simp [e]
theorem lon_parts {w r : List UInt8} (hw : ∀ c ∈ w, digB c = true) (h : r = [] ∨ r ≠ []) : lonW (w ++ ((if r = [] then [] else 46 :: r) ++ [115])) = w ∧ lonR (w ++ ((if r = [] then [] else 46 :: r) ++ [115])) = r := by
 obtain ⟨a, b, d, e⟩ := take_dig (w := w) r hw
 unfold lonW lonR
 rw [← List.append_assoc, List.dropLast_concat]
 by_cases q : r = []
 ·rw [if_pos q, List.append_nil, d, e, q]; exact ⟨rfl, rfl⟩
 ·rw [if_neg q, a, b]; exact ⟨rfl, rfl⟩
theorem lon_ok {n : Nat} (hn : n < 9223372036854775808) : okN (lenT n) ∧ lonV (lenT n) = n := by
 obtain ⟨w, r, e1, e2, d1, _⟩ := len_parts hn
 obtain ⟨a, b⟩ := lon_parts (r := r) d1 (Classical.em _)
 have hv : lonV (lenT n) = n := by unfold lonV; rw [e1, a, b, e2]
 exact ⟨⟨by rw [hv]; exact hn, by rw [hv]⟩, hv⟩
end Go.Proofs.YthbhbfnnagaclaaGreatDoor.Mir
namespace Go.Proofs.YthbhbfnnagaclaaGreatDoor.Mir
open Go Go.RowKit
set_option maxRecDepth 100000
theorem bif_no {α : Type} {p : Prop} {i : Decidable p} (hp : ¬ p) (x y : α) : (bif decide p then x else y) = y := by rw [decide_eq_false hp]; rfl
theorem tdsize_at (N : Nat) {a : Int} (ha : R64 a) : f_40 N a = some (if a < 0 then satI (0 - a) else a) := by
 unfold f_40
 by_cases h : a < 0
 ·rw [decide_eq_true h, if_pos h, cond_true, nsubsat_at N ⟨by decide, by decide⟩ ha]; rfl
 ·rw [decide_eq_false h, if_neg h]; rfl
theorem fmt_nat {n : Nat} (h : n < 9223372036854775808) : fmtF (n : Int) 10 = some (bt (dgF 20 n)) := by
 unfold fmtF itoaL
 rw [r64B_iff.2 ⟨by omega, by omega⟩, if_neg (by omega), Int.toNat_natCast]; rfl
theorem fmt_dig {n : Nat} (h : n < 10) : fmtF (n : Int) 10 = some (bt [UInt8.ofNat (48 + n)]) := by
 rw [fmt_nat (by omega)]
 show some (bt (if n < 10 then _ else _)) = _
 rw [if_pos h]
theorem tdtwo_at (N : Nat) {n : Nat} (h : n < 100) : f_45 N (n : Int) = some (bt (twoL 2 n)) := by
 unfold f_45
 have e1 : IntKind.i64.wrap (Int.tdiv (n : Int) 10) = ((n / 10 : Nat) : Int) := by rw [tdivN (by omega), wi64 (by omega) (by omega)]; omega
 have e2 : Int.tmod (n : Int) 10 = ((n % 10 : Nat) : Int) := by rw [Int.tmod_eq_emod_of_nonneg (by omega)]; omega
 rw [e1, e2, fmt_dig (show n / 10 < 10 by omega), fmt_dig (Nat.mod_lt n (by decide))]
 simp only [Option.bind_some, bt_size, List.length_cons, List.length_nil, bt_app]
 rw [show twoL 2 n = [UInt8.ofNat (48 + n / 10 % 10)] ++ [UInt8.ofNat (48 + n % 10)] from rfl, show n / 10 % 10 = n / 10 by omega]; rfl
theorem plus : (⟨#[43]⟩ : ByteArray) = bt [43] := rfl
theorem tdadded_at (N : Nat) {off : Int} (h : off.natAbs ≤ 86399) : f_19 N off = some (bt (addL off)) := by
 have hs : f_40 N off = some ((off.natAbs : Nat) : Int) := by
  rw [tdsize_at N ⟨by omega, by omega⟩]
  by_cases q : off < 0
  ·rw [if_pos q, satI_in ⟨by omega, by omega⟩, show 0 - off = ((off.natAbs : Nat) : Int) by omega]
  ·rw [if_neg q, show off = ((off.natAbs : Nat) : Int) by omega, Int.natAbs_natCast]
 unfold f_19
 rw [hs]
 simp only [Option.bind_some]
 have c1 : IntKind.i64.wrap (Int.tdiv ((off.natAbs : Nat) : Int) 3600) = ((off.natAbs / 3600 : Nat) : Int) := by rw [tdivN (by omega), wi64 (by omega) (by omega)]; omega
 have c2 : Int.tmod (IntKind.i64.wrap (Int.tdiv ((off.natAbs : Nat) : Int) 60)) 60 = ((off.natAbs / 60 % 60 : Nat) : Int) := by rw [tdivN (by omega), wi64 (by omega) (by omega), Int.tmod_eq_emod_of_nonneg (by omega)]; omega
 have c3 : Int.tmod ((off.natAbs : Nat) : Int) 60 = ((off.natAbs % 60 : Nat) : Int) := by rw [Int.tmod_eq_emod_of_nonneg (by omega)]; omega
 rw [c1, c2, c3, tdtwo_at N (show off.natAbs / 3600 < 100 by omega), tdtwo_at N (show off.natAbs / 60 % 60 < 100 by omega), tdtwo_at N (show off.natAbs % 60 < 100 by omega)]
 simp only [Option.bind_some, dash, plus, colon, bt_app, bt_size, List.length_append, List.length_cons, List.length_nil, twoL_len]
 unfold addL
 by_cases q : off < 0
 ·rw [decide_eq_true q, if_pos q]
  by_cases z : off.natAbs % 60 = 0
  ·rw [decide_eq_false (show ¬ (((off.natAbs % 60 : Nat) : Int) > 0) by omega), if_pos z, List.append_nil]
   simp only [List.append_assoc, List.cons_append, List.nil_append]; rfl
  ·rw [decide_eq_true (show ((off.natAbs % 60 : Nat) : Int) > 0 by omega), if_neg z]
   simp only [List.append_assoc, List.cons_append, List.nil_append]; rfl
 ·rw [decide_eq_false q, if_neg q]
  by_cases z : off.natAbs % 60 = 0
  ·rw [decide_eq_false (show ¬ (((off.natAbs % 60 : Nat) : Int) > 0) by omega), if_pos z, List.append_nil]
   simp only [List.append_assoc, List.cons_append, List.nil_append]; rfl
  ·rw [decide_eq_true (show ((off.natAbs % 60 : Nat) : Int) > 0 by omega), if_neg z]
   simp only [List.append_assoc, List.cons_append, List.nil_append]; rfl
theorem tdchk_at (N : Nat) {n off : Int} (hn : R64 n) (ho : R64 off) : f_15 N n off = some (if MayM n off then none else some 1) := by
 obtain ⟨n0, n1⟩ := id hn
 obtain ⟨o0, o1⟩ := id ho
 have hsat : ∀ a : Int, R64 a → a < 0 → (0 ≤ satI (0 - a) ∧ (satI (0 - a) = 0 - a ∨ (a = -9223372036854775808 ∧ satI (0 - a) = 9223372036854775807))) := fun a ha h => by
  obtain ⟨a0, a1⟩ := ha
  by_cases q : a = -9223372036854775808
  ·subst q; exact ⟨by decide, .inr ⟨rfl, by decide⟩⟩
  ·rw [satI_in ⟨by omega, by omega⟩]; exact ⟨by omega, .inl rfl⟩
 unfold f_15
 rw [tdsize_at N hn, tdsize_at N ho]
 simp only [Option.bind_some]
 have e1 : ∀ a : Int, R64 a → (if a < 0 then satI (0 - a) else a) = (if a < 0 then satI (0 - a) else a) := fun _ _ => rfl
 by_cases h1 : (if n < 0 then satI (0 - n) else n) ≥ 4611686018427387904
 ·rw [decide_eq_true h1, if_neg (fun q : MayM n off => by
   obtain ⟨q1, q2, _, _⟩ := q
   split at h1
   ·rename_i hneg
    have := hsat n hn hneg; omega
   ·omega)]; rfl
 ·rw [decide_eq_false h1]
  by_cases h2 : (if off < 0 then satI (0 - off) else off) > 86399
  ·rw [decide_eq_true h2, if_neg (fun q : MayM n off => by
    obtain ⟨_, _, q1, q2⟩ := q
    split at h2
    ·rename_i hneg
     have := hsat off ho hneg; omega
    ·omega)]; rfl
  ·rw [decide_eq_false h2, if_pos (show MayM n off from by
    have a : -4611686018427387904 < n ∧ n < 4611686018427387904 := by
     split at h1
     ·rename_i hneg
      have := hsat n hn hneg; omega
     ·omega
    have b : -86399 ≤ off ∧ off ≤ 86399 := by
     split at h2
     ·rename_i hneg
      have := hsat off ho hneg; omega
     ·omega
    exact ⟨a.1, a.2, b.1, b.2⟩)]; rfl
theorem stE_in {x s n : Int} (hx : inR x) (hs : StOk s n) : stE x s n = (bt (stX x s n), none) := by
 unfold stE; rw [if_pos hs, if_pos hx]; rfl
theorem tdtext_at (N : Nat) {n off : Int} (hn : R64 n) (ho : R64 off) : f_6 N n off = some (if MayM n off then (bt (txtL n off), none) else (bt [], some 1)) := by
 unfold f_6
 refine (bindP _ _ _ (tdchk_at N hn ho)).trans ?_
 by_cases h : MayM n off
 ·obtain ⟨h1, h2, h3, h4⟩ := id h
  obtain ⟨m1, m2, _⟩ := mom_ok h
  rw [if_pos h, if_pos h]
  simp only [Option.isNone_none, Bool.not_true, cond_false]
  rw [ndiv_at N hn (by decide) (by decide)]
  simp only [Option.bind_some, Option.isNone_none, Bool.not_true, cond_false]
  rw [wi64 (n := n / 1000000000 + off) (by omega) (by omega), ndiv_at N (a := n / 1000000000 + off) ⟨by omega, by omega⟩ (by decide) (by decide)]
  simp only [Option.bind_some, Option.isNone_none, Bool.not_true, cond_false]
  rw [dystamp_at N (show R64 ((n / 1000000000 + off) / 86400) from ⟨by omega, by omega⟩), show stE ((n / 1000000000 + off) / 86400) ((n / 1000000000 + off) % 86400) (n % 1000000000) = _ from stE_in m1 m2]
  simp only [Option.bind_some, Option.isNone_none, Bool.not_true, cond_false]
  rw [tdadded_at N (by omega)]
  simp only [Option.bind_some, bt_app, bt_size]
  have hl := stX_len m1 m2
  have ha : (addL off).length ≤ 9 := by
   have := (add_ok (off := off) (by omega)).1.1
   rcases this with e | ⟨e, _⟩ <;> omega
  unfold mDay mSec at hl
  refine (bif_no ?_ _ _).trans ?_
  ·omega
  ·rfl
 ·rw [if_neg h, if_neg h]; rfl
theorem trimF_at (l : List UInt8) (h : l.length ≤ 100) : trimF (bt l) (⟨#[48]⟩) = some (bt (trim0 l)) := by
 unfold trimF
 rw [bt_size, decide_eq_true (by omega), show decide ((⟨#[48]⟩ : ByteArray).data.toList = [48]) = true from rfl]; rfl
theorem tdleng_at (N : Nat) {n : Nat} (h : n < 9223372036854775808) : f_29 N (n : Int) = some (bt (lenT n)) := by
 have e1 : IntKind.i64.wrap (Int.tdiv (n : Int) 1000000000) = ((n / 1000000000 : Nat) : Int) := by rw [tdivN (by omega), wi64 (by omega) (by omega)]; omega
 have e2 : Int.tmod (n : Int) 1000000000 = ((n % 1000000000 : Nat) : Int) := by rw [Int.tmod_eq_emod_of_nonneg (by omega)]; omega
 have hl := dgF_len 8 20 (n % 1000000000) (show _ < 1000000000 by omega) (by decide)
 have hw := dgF_len 9 20 (n / 1000000000) (show _ < 10000000000 by omega) (by decide)
 unfold f_29
 rw [e1, e2, fmt_nat (by omega), fmt_nat (by omega)]
 simp only [Option.bind_some]
 rw [bt_size, wi64 (by omega) (by omega)]
 have er : repF ⟨#[48]⟩ (9 - ((dgF 20 (n % 1000000000)).length : Int)) = some (bt (List.replicate (9 - (dgF 20 (n % 1000000000)).length) 48)) := by
  unfold repF
  have e3 : (9 - ((dgF 20 (n % 1000000000)).length : Int)).toNat = 9 - (dgF 20 (n % 1000000000)).length := by omega
  rw [e3, decide_eq_true (by omega), decide_eq_true (show (⟨#[48]⟩ : ByteArray).size * (9 - (dgF 20 (n % 1000000000)).length) ≤ 140737488355328 from by
   show 1 * _ ≤ _
   omega), decide_eq_true (by omega)]
  show some (bt (Lib.repeatL [48] _)) = _
  rw [repL]
 rw [er]
 simp only [Option.bind_some]
 rw [bt_size, List.length_replicate, decide_eq_false (by omega), bt_app, show (9 : Nat) = 8 + 1 from rfl, pad_eq 8 20 _ (show n % 1000000000 < 1000000000 by omega) (by decide)]
 simp only [cond_false]
 rw [trimF_at _ (by rw [twoL_len]; decide)]
 simp only [Option.bind_some]
 have hf : (trim0 (twoL 9 (n % 1000000000))).length ≤ 9 := by
  have := twoL_len 9 (n % 1000000000)
  obtain ⟨j, e, _⟩ := trim0_form 9 _ this
  have := congrArg List.length e
  rw [List.length_append, twoL_len] at this
  omega
 rw [none_, bt_beq, show (⟨#[115]⟩ : ByteArray) = bt [115] from rfl, point]
 unfold lenT fracL
 by_cases q : trim0 (twoL 9 (n % 1000000000)) = []
 ·rw [show (8 + 1) = 9 from rfl, decide_eq_true q, if_pos q]
  simp only [cond_true, bt_size, bt_app, List.length_cons, List.length_nil]
  refine (bif_no ?_ _ _).trans ?_
  ·omega
  ·rfl
 ·rw [show (8 + 1) = 9 from rfl, decide_eq_false q, if_neg q]
  simp only [cond_false, bt_size, bt_app, List.length_append, List.length_cons, List.length_nil]
  refine (bif_no (by omega) _ _).trans ?_
  refine (bif_no (by omega) _ _).trans ?_
  refine (bif_no (by omega) _ _).trans ?_
  simp only [List.append_assoc, List.cons_append, List.nil_append]
theorem tdlength_at (N : Nat) {n : Int} (hn : R64 n) : f_10 N n = some (if n < 0 then (bt [], some 1) else (bt (lenT n.toNat), none)) := by
 obtain ⟨n0, n1⟩ := hn
 unfold f_10
 by_cases h : n < 0
 ·rw [decide_eq_true h, if_pos h]; rfl
 ·rw [decide_eq_false h, if_neg h]
  obtain ⟨a, rfl⟩ := Int.eq_ofNat_of_zero_le (show 0 ≤ n by omega)
  simp only [cond_false]
  rw [tdleng_at N (by omega), Int.toNat_natCast]; rfl
end Go.Proofs.YthbhbfnnagaclaaGreatDoor.Mir
namespace Go.Proofs.YthbhbfnnagaclaaGreatDoor.Mir
open Go Go.RowKit
set_option maxRecDepth 100000
theorem nosep {k c : UInt8} (hk : digB k = false) (h : digB c = true) : (k == c) = false :=
 beq_eq_false_iff_ne.2 (fun e => by rw [e, h] at hk; cases hk)
theorem index_sep {k : UInt8} (hk : digB k = false) : ∀ (a b : List UInt8), (∀ c ∈ a, digB c = true) → Lib.index (a ++ k :: b) [k] = (a.length : Int)
 | [], b, _ => by simp [Lib.index, List.isPrefixOf]
 | c :: a, b, h => by
  have ih := index_sep hk a b (fun x hx => h x (List.mem_cons_of_mem _ hx))
  have hc := nosep hk (h c (List.mem_cons_self ..))
  show (if ([k] : List UInt8).isPrefixOf (c :: (a ++ k :: b)) then (0 : Int) else if Lib.index (a ++ k :: b) [k] == -1 then -1 else Lib.index (a ++ k :: b) [k] + 1) = _
  rw [ih, show ([k] : List UInt8).isPrefixOf (c :: (a ++ k :: b)) = false from by show ((k : UInt8) == c && _) = false; rw [hc]; rfl, if_neg (by decide), if_neg (by rw [beq_iff_eq]; omega)]
  rw [List.length_cons]; omega
theorem index_nosep {k : UInt8} (hk : digB k = false) : ∀ (a : List UInt8), (∀ c ∈ a, digB c = true) → Lib.index a [k] = -1
 | [], _ => rfl
 | c :: a, h => by
  have ih := index_nosep hk a (fun x hx => h x (List.mem_cons_of_mem _ hx))
  have hc := nosep hk (h c (List.mem_cons_self ..))
  show (if ([k] : List UInt8).isPrefixOf (c :: a) then (0 : Int) else if Lib.index a [k] == -1 then -1 else Lib.index a [k] + 1) = _
  rw [ih, show ([k] : List UInt8).isPrefixOf (c :: a) = false from by show ((k : UInt8) == c && _) = false; rw [hc]; rfl]; rfl
theorem drop_sep (k : UInt8) (a b : List UInt8) : (a ++ k :: b).drop (a.length + 1) = b := by
 rw [← List.drop_drop, List.drop_left]; rfl
theorem count_sep {k : UInt8} (hk : digB k = false) {a b : List UInt8} (h : ∀ c ∈ a, digB c = true) : Lib.count (a ++ k :: b) [k] = 1 + Lib.count b [k] := by
 rw [Lib.count_hit (i := a.length) (by simp) (index_sep hk a b h), show a.length + ([k] : List UInt8).length = a.length + 1 from rfl, drop_sep]
theorem count_nosep {k : UInt8} (hk : digB k = false) {a : List UInt8} (h : ∀ c ∈ a, digB c = true) : Lib.count a [k] = 0 := Lib.count_miss (index_nosep hk a h)
theorem splitK_sep {k : UInt8} (hk : digB k = false) {a b : List UInt8} (j : Nat) (h : ∀ c ∈ a, digB c = true) : Lib.splitK [k] 0 (j + 1) (a ++ k :: b) = a :: Lib.splitK [k] 0 j b := by
 show (if Lib.index (a ++ k :: b) [k] == -1 then _ else _) = _
 rw [index_sep hk a b h, if_neg (by rw [beq_iff_eq]; omega), Int.toNat_natCast, Nat.add_zero, List.take_left, show a.length + ([k] : List UInt8).length = a.length + 1 from rfl, drop_sep]
theorem splitG_len (k : UInt8) : ∀ (j : Nat) (l : List UInt8), ∀ p ∈ Lib.splitK [k] 0 j l, p.length ≤ l.length
 | 0, l, p, h => by obtain rfl := List.mem_singleton.1 h; exact Nat.le_refl _
 | j + 1, l, p, h => by
  unfold Lib.splitK at h
  split at h
  ·obtain rfl := List.mem_singleton.1 h; exact Nat.le_refl _
  ·rcases List.mem_cons.1 h with rfl | h
   ·rw [List.length_take]; omega
   ·have := splitG_len k j _ p h
    rw [List.length_drop] at this; omega
def v8 (p : ByteArray) : Int × Bool := endD (Lib.parseIntB 8 p.data.toList) (Lib.intSat 8 p.data.toList)
def v64 (p : ByteArray) : Int × Bool := endD (Lib.parseIntB 64 p.data.toList) (Lib.intSat 64 p.data.toList)
theorem pint8 {p : ByteArray} (h : p.size ≤ 281474976710656) : pintG p 10 8 = some (v8 p) := by
 unfold pintG; rw [decide_eq_true h]; rfl
theorem pint64 {p : ByteArray} (h : p.size ≤ 281474976710656) : pintG p 10 64 = some (v64 p) := by
 unfold pintG; rw [decide_eq_true h]; rfl
theorem v8_rng {p : ByteArray} (h : (v8 p).2 = true) : -128 ≤ (v8 p).1 ∧ (v8 p).1 ≤ 127 := by
 unfold v8 at h ⊢
 cases hr : Lib.parseIntB 8 p.data.toList with
 | ok v =>
  have := Lib.parseIntB_bounds hr
  have e : ((2 ^ (8 - 1) : Nat) : Int) = 128 := by decide
  rw [e] at this
  show -128 ≤ v ∧ v ≤ 127
  omega
 | range => rw [hr] at h; cases h
 | _ => rw [hr] at h; cases h
theorem v64_rng {p : ByteArray} (h : (v64 p).2 = true) : R64 (v64 p).1 := by
 unfold v64 at h ⊢
 cases hr : Lib.parseIntB 64 p.data.toList with
 | ok v =>
  have := Lib.parseIntB_bounds hr
  have e : ((2 ^ (64 - 1) : Nat) : Int) = 9223372036854775808 := by decide
  rw [e] at this
  exact ⟨by show _ ≤ v; omega, by show v < _; omega⟩
 | range => rw [hr] at h; cases h
 | _ => rw [hr] at h; cases h
theorem v64_dig {l : List UInt8} (hd : ∀ c ∈ l, digB c = true) (h1 : 1 ≤ l.length) (h2 : l.length ≤ 17) : v64 (bt l) = ((valL 0 l : Int), true) := by
 have hv := valL_lt l 0 0 hd (by decide)
 rw [Nat.zero_add] at hv
 have e := two_val l 0 0 hd
 rw [Nat.zero_add] at e
 have e : twoL l.length (valL 0 l) = l := e
 have q := pint_two h1 h2 hv
 rw [e] at q
 unfold v64
 rw [bt_list, q]; rfl
theorem parseM8_dig : ∀ (l : List UInt8) (a M : Nat), (∀ c ∈ l, digB c = true) → M < 100000 → (a + 1) * 10 ^ l.length ≤ M + 1 → Lib.parseUintM M a l = .ok (valL a l)
 | [], a, _, _, _, _ => rfl
 | c :: l, a, M, hd, hM, h => by
  obtain ⟨c1, c2⟩ := digB_ok (hd c (List.mem_cons_self ..))
  rw [List.length_cons, Nat.pow_succ] at h
  have hp : 1 ≤ 10 ^ l.length := Nat.one_le_pow _ _ (by decide)
  have h1 : (a + 1) * 10 ≤ M + 1 := by
   have : (a + 1) * (1 * 10) ≤ (a + 1) * (10 ^ l.length * 10) := Nat.mul_le_mul_left _ (Nat.mul_le_mul_right _ hp)
   omega
  unfold Lib.parseUintM valL
  rw [if_pos ⟨c1, c2⟩, if_neg (by omega), if_neg (by omega)]
  refine parseM8_dig l _ M (fun x hx => hd x (List.mem_cons_of_mem _ hx)) hM ?_
  refine Nat.le_trans (Nat.mul_le_mul_right _ (show a * 10 + (c.toNat - 48) + 1 ≤ (a + 1) * 10 by omega)) ?_
  rw [Nat.mul_assoc, Nat.mul_comm 10]
  exact h
theorem v8_two {n : Nat} (h : n < 100) : v8 (bt (twoL 2 n)) = ((n : Int), true) := by
 have hd := twoL_dig 2 n
 have hv := valL_two 2 n 0 (show n < 100 from h)
 rw [Nat.zero_mul, Nat.zero_add] at hv
 have hl := twoL_len 2 n
 have hp : Lib.parseUintM (2 ^ 8 - 1) 0 (twoL 2 n) = .ok n := by
  rw [parseM8_dig _ 0 _ hd (by decide) (by rw [hl]; decide), hv]
 have q : Lib.parseIntB 8 (twoL 2 n) = .ok (n : Int) := by
  generalize twoL 2 n = l at hp hl hd
  cases l with
  | nil => simp at hl
  | cons c r =>
   obtain ⟨c1, c2⟩ := digB_ok (hd c (List.mem_cons_self ..))
   have e7 : (2 : Nat) ^ (8 - 1) = 128 := by decide
   unfold Lib.parseIntB
   simp only
   rw [if_neg (show ¬ (c.toNat = 43 ∨ c.toNat = 45) by omega)]
   unfold Lib.parseUintB
   rw [if_neg (by simp), hp]
   simp only
   rw [e7, if_neg (by omega), if_neg (by omega), if_neg (by omega)]
 unfold v8
 rw [bt_list, q]; rfl
theorem off_two (N : Nat) (hN : 4 ≤ N) (s a b : ByteArray) (ha : a.size ≤ 281474976710656) (hb : b.size ≤ 281474976710656) :
  l_24_0 N (s, 0, 3600, [a, b], 2, 0) = some (bif (v8 a).2 && (v8 b).2 then .inr (s, 3600 * (v8 a).1 + 60 * (v8 b).1) else .inl (0, false)) := by
 obtain ⟨M, rfl⟩ : ∃ m, N = m + 4 := ⟨N - 4, by omega⟩
 have ra := @v8_rng a
 have rb := @v8_rng b
 unfold l_24_0
 rw [show iter (b_24_0 (M + 4)) (M + 4) = b_24_0 (M + 4) (b_24_0 (M + 4) (b_24_0 (M + 4) (b_24_0 (M + 4) (iter (b_24_0 (M + 4)) M)))) from rfl]
 generalize iter (b_24_0 (M + 4)) M = T
 unfold b_24_0
 simp only [List.length_cons, List.length_nil]
 rw [show ([a, b] : List ByteArray).getD (Int.toNat 0) ByteArray.empty = a from rfl, pint8 ha, show IntKind.i64.wrap (0 + 1) = 1 from by rw [wi64 (by decide) (by decide)]; rfl, show ([a, b] : List ByteArray).getD (Int.toNat 1) ByteArray.empty = b from rfl, pint8 hb, show IntKind.i64.wrap (1 + 1) = 2 from by rw [wi64 (by decide) (by decide)]; rfl,
  show IntKind.i64.wrap (Int.tdiv 3600 60) = 60 from by rw [wi64 (by decide) (by decide)]; rfl]
 generalize v8 a = x at *
 generalize v8 b = y at *
 obtain ⟨x1, x2⟩ := x
 obtain ⟨y1, y2⟩ := y
 cases x2
 ·rfl
 cases y2
 ·rfl
 have ra := ra rfl
 have rb := rb rfl
 simp only at ra rb
 show some (Sum.inr (s, IntKind.i64.wrap (IntKind.i64.wrap (0 + IntKind.i64.wrap (x1 * 3600)) + IntKind.i64.wrap (y1 * 60)))) = _
 rw [wi64 (n := x1 * 3600) (by omega) (by omega), wi64 (n := y1 * 60) (by omega) (by omega), wi64 (n := 0 + x1 * 3600) (by omega) (by omega), wi64 (by omega) (by omega), show 0 + x1 * 3600 + y1 * 60 = 3600 * x1 + 60 * y1 by omega]; rfl
theorem off_three (N : Nat) (hN : 4 ≤ N) (s a b c : ByteArray) (ha : a.size ≤ 281474976710656) (hb : b.size ≤ 281474976710656) (hc : c.size ≤ 281474976710656) :
  l_24_0 N (s, 0, 3600, [a, b, c], 3, 0) = some (bif (v8 a).2 && ((v8 b).2 && (v8 c).2) then .inr (s, 3600 * (v8 a).1 + 60 * (v8 b).1 + (v8 c).1) else .inl (0, false)) := by
 obtain ⟨M, rfl⟩ : ∃ m, N = m + 4 := ⟨N - 4, by omega⟩
 have ra := @v8_rng a
 have rb := @v8_rng b
 have rc := @v8_rng c
 unfold l_24_0
 rw [show iter (b_24_0 (M + 4)) (M + 4) = b_24_0 (M + 4) (b_24_0 (M + 4) (b_24_0 (M + 4) (b_24_0 (M + 4) (iter (b_24_0 (M + 4)) M)))) from rfl]
 generalize iter (b_24_0 (M + 4)) M = T
 unfold b_24_0
 simp only [List.length_cons, List.length_nil]
 rw [show ([a, b, c] : List ByteArray).getD (Int.toNat 0) ByteArray.empty = a from rfl, pint8 ha, show IntKind.i64.wrap (0 + 1) = 1 from by rw [wi64 (by decide) (by decide)]; rfl, show ([a, b, c] : List ByteArray).getD (Int.toNat 1) ByteArray.empty = b from rfl, pint8 hb, show IntKind.i64.wrap (1 + 1) = 2 from by rw [wi64 (by decide) (by decide)]; rfl,
  show ([a, b, c] : List ByteArray).getD (Int.toNat 2) ByteArray.empty = c from rfl, pint8 hc, show IntKind.i64.wrap (2 + 1) = 3 from by rw [wi64 (by decide) (by decide)]; rfl,
  show IntKind.i64.wrap (Int.tdiv 3600 60) = 60 from by rw [wi64 (by decide) (by decide)]; rfl, show IntKind.i64.wrap (Int.tdiv 60 60) = 1 from by rw [wi64 (by decide) (by decide)]; rfl]
 generalize v8 a = x at *
 generalize v8 b = y at *
 generalize v8 c = z at *
 obtain ⟨x1, x2⟩ := x
 obtain ⟨y1, y2⟩ := y
 obtain ⟨z1, z2⟩ := z
 cases x2
 ·rfl
 cases y2
 ·rfl
 cases z2
 ·rfl
 have ra := ra rfl
 have rb := rb rfl
 have rc := rc rfl
 simp only at ra rb rc
 show some (Sum.inr (s, IntKind.i64.wrap (IntKind.i64.wrap (IntKind.i64.wrap (0 + IntKind.i64.wrap (x1 * 3600)) + IntKind.i64.wrap (y1 * 60)) + IntKind.i64.wrap (z1 * 1)))) = _
 rw [wi64 (n := x1 * 3600) (by omega) (by omega), wi64 (n := y1 * 60) (by omega) (by omega), wi64 (n := z1 * 1) (by omega) (by omega), wi64 (n := 0 + x1 * 3600) (by omega) (by omega), wi64 (n := 0 + x1 * 3600 + y1 * 60) (by omega) (by omega), wi64 (by omega) (by omega), show 0 + x1 * 3600 + y1 * 60 + z1 * 1 = 3600 * x1 + 60 * y1 + z1 by omega]; rfl
theorem add_split {off : Int} (h : off.natAbs ≤ 86399) : ∃ t : List UInt8, addL off = (if off < 0 then 45 else 43) :: t ∧ Lib.splitK [58] 0 (Lib.count t [58]) t = twoL 2 (off.natAbs / 3600) :: twoL 2 (off.natAbs / 60 % 60) :: (if off.natAbs % 60 = 0 then [] else [twoL 2 (off.natAbs % 60)]) := by
 have hk : digB 58 = false := rfl
 refine ⟨_, rfl, ?_⟩
 by_cases z : off.natAbs % 60 = 0
 ·rw [if_pos z, if_pos z, List.append_nil, count_sep hk (twoL_dig _ _), count_nosep hk (twoL_dig _ _), show 1 + 0 = 0 + 1 from rfl, splitK_sep hk 0 (twoL_dig _ _)]; rfl
 ·rw [if_neg z, if_neg z, count_sep hk (twoL_dig _ _), count_sep hk (twoL_dig _ _), count_nosep hk (twoL_dig _ _), show 1 + (1 + 0) = 1 + 1 from rfl, splitK_sep hk 1 (twoL_dig _ _), show (1 : Nat) = 0 + 1 from rfl, splitK_sep hk 0 (twoL_dig _ _)]; rfl
theorem two_parts (P : List ByteArray) (h : P.length = 2) : ∃ a b, P = [a, b] := by
 match P, h with
 | [a, b], _ => exact ⟨a, b, rfl⟩
theorem off_end (c : UInt8) (t : List UInt8) (v : Int) (hv : -9223372036854775807 ≤ v ∧ v < 9223372036854775808) :
  (bif (decide (0 ≤ (1 : Int) ∧ (1 : Int) ≤ (ByteArray.size (bt (c :: t)) : Int))) then (bif (decide (0 ≤ (0 : Int) ∧ (0 : Int) ≤ (1 : Int))) then (bif ((ByteArray.toList (ByteArray.extract (bt (c :: t)) (Int.toNat (0 : Int)) (Int.toNat (1 : Int)))) == (ByteArray.toList (⟨#[45]⟩ : ByteArray))) then (some ((IntKind.i64.wrap (0 - v)), true)) else (some (v, true))) else none) else none : Option (Int × Bool)) = some (if c = 45 then -v else v, true) := by
 have x1 : ByteArray.extract (bt (c :: t)) (Int.toNat (0 : Int)) (Int.toNat (1 : Int)) = bt [c] := by
  rw [bt_of (ByteArray.extract _ _ _), Lib.extract_data]; rfl
 rw [bt_size, List.length_cons, decide_eq_true (by omega), show decide (0 ≤ (0 : Int) ∧ (0 : Int) ≤ (1 : Int)) = true from rfl, x1, dash, bt_beq, wi64 (n := 0 - v) (by omega) (by omega)]
 simp only [cond_true]
 by_cases q : c = 45
 ·rw [decide_eq_true (by rw [q]), if_pos q, Int.zero_sub]; rfl
 ·rw [decide_eq_false (fun e => q (by simpa using e)), if_neg q]; rfl
theorem tdoff_at (N : Nat) (hN : 4 ≤ N) {r : List UInt8} (hr : r.length ≤ 100) : ∃ (v : Int) (b : Bool), f_24 N (bt r) = some (v, b) ∧ -600000 ≤ v ∧ v ≤ 600000 ∧ ∀ off : Int, off.natAbs ≤ 86399 → r = addL off → v = off ∧ b = true := by
 unfold f_24
 rw [none_, bt_beq]
 cases r with
 | nil => exact ⟨0, false, rfl, by decide, by decide, fun off _ e => by cases e⟩
 | cons c t =>
  rw [decide_eq_false (by simp)]
  simp only [cond_false]
  have x0 : ByteArray.extract (bt (c :: t)) (Int.toNat (1 : Int)) (Int.toNat (ByteArray.size (bt (c :: t)) : Int)) = bt t := by
   rw [bt_of (ByteArray.extract _ _ _), Int.toNat_natCast, Lib.extract_to_end]; rfl
  rw [x0, show decide (0 ≤ (ByteArray.size (bt (c :: t)) : Int) ∧ (ByteArray.size (bt (c :: t)) : Int) ≤ (ByteArray.size (bt (c :: t)) : Int)) = true from decide_eq_true (by omega), show decide (0 ≤ (1 : Int) ∧ (1 : Int) ≤ (ByteArray.size (bt (c :: t)) : Int)) = true from decide_eq_true (by rw [bt_size, List.length_cons]; omega)]
  simp only [cond_true]
  have hsp : splF (bt t) ⟨#[58]⟩ = some (Lib.splitB ⟨#[58]⟩ 0 (Lib.countB (bt t) ⟨#[58]⟩) (bt t)) := by
   unfold splF
   rw [bt_size, decide_eq_true (by rw [List.length_cons] at hr; omega), show decide (1 ≤ ByteArray.size (⟨#[58]⟩ : ByteArray)) = true from rfl]; rfl
  have hd : (Lib.splitB ⟨#[58]⟩ 0 (Lib.countB (bt t) ⟨#[58]⟩) (bt t)).map (·.data.toList) = Lib.splitK [58] 0 (Lib.count t [58]) t := Lib.splitB_data _ _ _ _
  have hlen := splitG_len 58 (Lib.count t [58]) t
  rw [← hd] at hlen
  have hadd : ∀ off : Int, off.natAbs ≤ 86399 → c :: t = addL off → c = (if off < 0 then 45 else 43) ∧ (Lib.splitB ⟨#[58]⟩ 0 (Lib.countB (bt t) ⟨#[58]⟩) (bt t)).map (·.data.toList) = twoL 2 (off.natAbs / 3600) :: twoL 2 (off.natAbs / 60 % 60) :: (if off.natAbs % 60 = 0 then [] else [twoL 2 (off.natAbs % 60)]) := fun off ho e => by
   obtain ⟨t', e1, e2⟩ := add_split ho
   rw [e1] at e
   obtain ⟨e3, e4⟩ := List.cons.inj e
   rw [hd, e4, e2]
   exact ⟨e3, rfl⟩
  rw [hsp]
  generalize Lib.splitB ⟨#[58]⟩ 0 (Lib.countB (bt t) ⟨#[58]⟩) (bt t) = P at hlen hadd ⊢
  simp only [Option.bind_some]
  have bsz : ∀ p ∈ P, p.size ≤ 281474976710656 := fun p hp => by
   have := hlen _ (List.mem_map.2 ⟨p, hp, rfl⟩)
   have := size_list8 p
   rw [List.length_cons] at hr
   omega
  by_cases h2 : P.length < 2
  ·rw [decide_eq_true (show (P.length : Int) < 2 by omega)]
   refine ⟨0, false, rfl, by decide, by decide, fun off ho e => ?_⟩
   have := congrArg List.length (hadd off ho e).2
   rw [List.length_map, List.length_cons, List.length_cons] at this
   omega
  ·rw [decide_eq_false (show ¬ (P.length : Int) < 2 by omega)]
   simp only [cond_false]
   by_cases h3 : P.length > 3
   ·rw [decide_eq_true (show (P.length : Int) > 3 by omega)]
    refine ⟨0, false, rfl, by decide, by decide, fun off ho e => ?_⟩
    have := congrArg List.length (hadd off ho e).2
    rw [List.length_map, List.length_cons, List.length_cons] at this
    split at this <;> simp at this <;> omega
   ·rw [decide_eq_false (show ¬ (P.length : Int) > 3 by omega)]
    simp only [cond_false]
    rcases (show P.length = 2 ∨ P.length = 3 by omega) with hP | hP
    ·obtain ⟨a, b, rfl⟩ := two_parts P hP
     rw [show ((([a, b] : List ByteArray).length : Nat) : Int) = 2 from rfl, off_two N hN (bt (c :: t)) a b (bsz a (by simp)) (bsz b (by simp))]
     simp only [Option.bind_some]
     have ra := @v8_rng a
     have rb := @v8_rng b
     cases hok : ((v8 a).2 && (v8 b).2) with
     | false =>
      refine ⟨0, false, rfl, by decide, by decide, fun off ho e => ?_⟩
      obtain ⟨_, e2⟩ := hadd off ho e
      simp only [List.map_cons, List.map_nil, List.cons.injEq] at e2
      obtain ⟨q1, q2, _⟩ := e2
      rw [bt_of a, bt_of b, q1, q2, v8_two (show off.natAbs / 3600 < 100 by omega), v8_two (show off.natAbs / 60 % 60 < 100 by omega)] at hok
      cases hok
     | true =>
      rw [Bool.and_eq_true] at hok
      have ra := ra hok.1
      have rb := rb hok.2
      refine ⟨_, _, off_end c t (3600 * (v8 a).1 + 60 * (v8 b).1) (by omega), by split <;> omega, by split <;> omega, fun off ho e => ?_⟩
      obtain ⟨e1, e2⟩ := hadd off ho e
      by_cases z : off.natAbs % 60 = 0
      ·rw [if_pos z] at e2
       simp only [List.map_cons, List.map_nil, List.cons.injEq, and_true] at e2
       obtain ⟨q1, q2⟩ := e2
       rw [bt_of a, bt_of b, q1, q2, v8_two (show off.natAbs / 3600 < 100 by omega), v8_two (show off.natAbs / 60 % 60 < 100 by omega), e1]
       refine ⟨?_, rfl⟩
       by_cases hn : off < 0
       ·rw [if_pos hn, if_pos rfl]; simp only; omega
       ·rw [if_neg hn, if_neg (by decide)]; simp only; omega
      ·rw [if_neg z] at e2
       simp at e2
    ·obtain ⟨a, b, d, rfl⟩ := three_parts P hP
     rw [show ((([a, b, d] : List ByteArray).length : Nat) : Int) = 3 from rfl, off_three N hN (bt (c :: t)) a b d (bsz a (by simp)) (bsz b (by simp)) (bsz d (by simp))]
     simp only [Option.bind_some]
     have ra := @v8_rng a
     have rb := @v8_rng b
     have rd := @v8_rng d
     cases hok : ((v8 a).2 && ((v8 b).2 && (v8 d).2)) with
     | false =>
      refine ⟨0, false, rfl, by decide, by decide, fun off ho e => ?_⟩
      obtain ⟨_, e2⟩ := hadd off ho e
      by_cases z : off.natAbs % 60 = 0
      ·rw [if_pos z] at e2; simp at e2
      ·rw [if_neg z] at e2
       simp only [List.map_cons, List.map_nil, List.cons.injEq, and_true] at e2
       obtain ⟨q1, q2, q3⟩ := e2
       rw [bt_of a, bt_of b, bt_of d, q1, q2, q3, v8_two (show off.natAbs / 3600 < 100 by omega), v8_two (show off.natAbs / 60 % 60 < 100 by omega), v8_two (show off.natAbs % 60 < 100 by omega)] at hok
       cases hok
     | true =>
      rw [Bool.and_eq_true, Bool.and_eq_true] at hok
      have ra := ra hok.1
      have rb := rb hok.2.1
      have rd := rd hok.2.2
      refine ⟨_, _, off_end c t (3600 * (v8 a).1 + 60 * (v8 b).1 + (v8 d).1) (by omega), by split <;> omega, by split <;> omega, fun off ho e => ?_⟩
      obtain ⟨e1, e2⟩ := hadd off ho e
      by_cases z : off.natAbs % 60 = 0
      ·rw [if_pos z] at e2; simp at e2
      ·rw [if_neg z] at e2
       simp only [List.map_cons, List.map_nil, List.cons.injEq, and_true] at e2
       obtain ⟨q1, q2, q3⟩ := e2
       rw [bt_of a, bt_of b, bt_of d, q1, q2, q3, v8_two (show off.natAbs / 3600 < 100 by omega), v8_two (show off.natAbs / 60 % 60 < 100 by omega), v8_two (show off.natAbs % 60 < 100 by omega), e1]
       refine ⟨?_, rfl⟩
       by_cases hn : off < 0
       ·rw [if_pos hn, if_pos rfl]; simp only; omega
       ·rw [if_neg hn, if_neg (by decide)]; simp only; omega
end Go.Proofs.YthbhbfnnagaclaaGreatDoor.Mir
namespace Go.Proofs.YthbhbfnnagaclaaGreatDoor.Mir
open Go Go.RowKit
set_option maxRecDepth 100000
def momE (l : List UInt8) : (Int × Int) × Option Int := if okM l then ((nanV l, offV (l.drop 29)), none) else ((0, 0), some 3)
theorem tdparse_at (N : Nat) (hN : 4 ≤ N) {l : List UInt8} (hl : l.length ≤ 100) : f_8 N (bt l) = some (momE l) := by
 unfold f_8 momE
 by_cases hs : l.length < 29
 ·rw [bt_size, decide_eq_true (show (l.length : Int) < 29 by omega), if_neg (fun q : okM l => by have := q.1.1; rw [List.length_take] at this; omega)]; rfl
 ·have x1 : ByteArray.extract (bt l) (Int.toNat (0 : Int)) (Int.toNat (29 : Int)) = bt (l.take 29) := by
   rw [bt_of (ByteArray.extract _ _ _), Lib.extract_data]; rfl
  have x2 : ByteArray.extract (bt l) (Int.toNat (29 : Int)) (Int.toNat (ByteArray.size (bt l) : Int)) = bt (l.drop 29) := by
   rw [bt_of (ByteArray.extract _ _ _), Int.toNat_natCast, Lib.extract_to_end]; rfl
  rw [x1, x2, bt_size, decide_eq_false (show ¬ (l.length : Int) < 29 by omega), decide_eq_true (show 0 ≤ (29 : Int) ∧ (29 : Int) ≤ (l.length : Int) by omega), show decide (0 ≤ (0 : Int) ∧ (0 : Int) ≤ (29 : Int)) = true from rfl, decide_eq_true (show 0 ≤ (l.length : Int) ∧ (l.length : Int) ≤ (l.length : Int) by omega)]
  simp only [cond_true, cond_false]
  rw [dyparse_at N hN, bt_list]
  simp only [Option.bind_some]
  obtain ⟨v, b, e, v0, v1, hv⟩ := tdoff_at N hN (r := l.drop 29) (by rw [List.length_drop]; omega)
  rw [e]
  simp only [Option.bind_some]
  unfold dyC
  by_cases h1 : okS (l.take 29)
  ·rw [if_pos h1]
   simp only [Option.isNone_none, Bool.not_true, cond_false]
   obtain ⟨t1, t2, t4, t5, t6, t7⟩ := okS_stX h1
   obtain ⟨t8, t9⟩ := t2
   have hq : okM l → v = offV (l.drop 29) ∧ b = true := fun q => hv _ (okO_text q.2.1).2 (okO_text q.2.1).1
   have hd : nanV l = (86400 * dayP (l.take 29) + secT (hP (l.take 29)) (mP (l.take 29)) (sP (l.take 29)) - offV (l.drop 29)) * 1000000000 + nP (l.take 29) := rfl
   generalize dayP (l.take 29) = D at *
   generalize hS : secT (hP (l.take 29)) (mP (l.take 29)) (sP (l.take 29)) = S at *
   generalize nP (l.take 29) = k at *
   cases b with
   | false => rw [if_neg (fun q : okM l => by have := (hq q).2; cases this)]; rfl
   | true =>
    simp only [Bool.not_true, cond_false]
    have hf0 : okM l → R64 ((D * 86400 + S - v) * 1000000000) ∧ satI ((D * 86400 + S - v) * 1000000000 + k) = nanV l ∧ MayM (nanV l) v := fun q => by
     have e1 := (hq q).1
     obtain ⟨_, _, _, m1, m2, m3, m4⟩ := q
     rw [← e1] at hd m3 m4
     have e2 : (D * 86400 + S - v) * 1000000000 + k = nanV l := by rw [hd, Int.mul_comm D 86400]
     refine ⟨⟨by omega, by omega⟩, ?_, m1, m2, m3, m4⟩
     rw [e2, satI_in ⟨by omega, by omega⟩]
    rw [wi64 (n := D * 86400) (by omega) (by omega), wi64 (n := D * 86400 + S) (by omega) (by omega), wi64 (n := D * 86400 + S - v) (by omega) (by omega), nmul_at N (a := D * 86400 + S - v) ⟨by omega, by omega⟩ ⟨by decide, by decide⟩ (by decide)]
    generalize hX : (D * 86400 + S - v) * 1000000000 = X at *
    unfold fit64
    by_cases hf : R64 X
    ·rw [rB_t hf]
     simp only [cond_true, Option.isNone_none, Bool.not_true, cond_false, Option.bind_some]
     rw [naddsat_at N hf (show R64 k from ⟨by omega, by omega⟩)]
     simp only [Option.bind_some]
     rw [tdtext_at N (satI_rng _) (show R64 v from ⟨by omega, by omega⟩)]
     simp only [Option.bind_some]
     by_cases hm : MayM (satI (X + k)) v
     ·rw [if_pos hm]
      simp only [Option.isNone_none, Bool.not_true, cond_false]
      rw [bt_beq]
      by_cases ht : txtL (satI (X + k)) v = l
      ·obtain ⟨o1, o2, o3⟩ := txt_ok hm
       rw [ht] at o1 o2 o3
       rw [decide_eq_true ht, if_pos o1, o2, o3]; rfl
      ·rw [decide_eq_false ht, if_neg (fun q : okM l => ht (by rw [(hf0 q).2.1, (hq q).1]; exact (okM_text q).symm))]; rfl
     ·rw [if_neg hm, if_neg (fun q : okM l => hm (by rw [(hf0 q).2.1]; exact (hf0 q).2.2))]; rfl
    ·rw [rB_f hf, if_neg (fun q : okM l => hf (hf0 q).1)]; rfl
  ·rw [if_neg h1, if_neg (fun q : okM l => h1 q.1)]; rfl
theorem ess : (⟨#[115]⟩ : ByteArray) = bt [115] := rfl
theorem tdsuf_at (N : Nat) {l : List UInt8} (hl : l.length ≤ 100) : f_32 N (bt l) (⟨#[115]⟩) = some (if l.getLast? = some 115 then (bt l.dropLast, true) else (bt l, false)) := by
 unfold f_32 f_60 f_89
 by_cases hn : l = []
 ·subst hn; rfl
 ·obtain ⟨a, c, rfl⟩ := list_last hn
  rw [List.length_append, List.length_singleton] at hl
  have es : ((ByteArray.size (bt (a ++ [c])) : Nat) : Int) = (a.length : Int) + 1 := by rw [bt_size, List.length_append, List.length_singleton]; omega
  have e1 : ((ByteArray.size (⟨#[115]⟩ : ByteArray) : Nat) : Int) = 1 := rfl
  have x1 : ByteArray.extract (bt (a ++ [c])) (Int.toNat (a.length : Int)) (Int.toNat (ByteArray.size (bt (a ++ [c])) : Int)) = bt [c] := by
   rw [bt_of (ByteArray.extract _ _ _), Int.toNat_natCast, Int.toNat_natCast, Lib.extract_to_end, bt_list, List.drop_left]
  have x2 : ByteArray.extract (bt (a ++ [c])) (Int.toNat (0 : Int)) (Int.toNat (a.length : Int)) = bt a := by
   rw [bt_of (ByteArray.extract _ _ _), Int.toNat_natCast, Lib.extract_data]
   show bt (((a ++ [c]).drop 0).take (a.length - 0)) = _
   rw [List.drop_zero, Nat.sub_zero, List.take_left]
  rw [e1, show IntKind.i64.wrap (((ByteArray.size (bt (a ++ [c])) : Nat) : Int) - 1) = (a.length : Int) from by rw [es, wi64 (by omega) (by omega)]; omega, x1, x2, es]
  rw [decide_eq_true (show (a.length : Int) + 1 ≥ 1 by omega), decide_eq_true (show 0 ≤ (a.length : Int) + 1 ∧ (a.length : Int) + 1 ≤ (a.length : Int) + 1 by omega), decide_eq_true (show 0 ≤ (a.length : Int) ∧ (a.length : Int) ≤ (a.length : Int) + 1 by omega), decide_eq_true (show 0 ≤ (0 : Int) ∧ (0 : Int) ≤ (a.length : Int) by omega), ess, bt_beq, List.getLast?_concat, List.dropLast_concat]
  simp only [cond_true, Option.bind_some]
  by_cases q : c = 115
  ·rw [decide_eq_true (by rw [q]), if_pos (by rw [q])]; rfl
  ·rw [decide_eq_false (fun e => q (by simpa using e)), if_neg (fun e => q (Option.some.inj e))]; rfl
theorem lenT_last (n : Nat) : (lenT n).getLast? = some 115 := by unfold lenT; rw [← List.append_assoc, List.getLast?_concat]
theorem lenT_len {n : Nat} (hn : n < 9223372036854775808) : (lenT n).length ≤ 30 := by
 obtain ⟨w, r, e, _, _, _, l2, _, _, l3, _⟩ := len_parts hn
 rw [e]
 by_cases q : r = []
 ·rw [if_pos q]; simp; omega
 ·rw [if_neg q]; simp; omega
theorem cut_at {w r : List UInt8} (hw : ∀ c ∈ w, digB c = true) : Lib.cut (w ++ (if r = [] then [] else 46 :: r)) [46] = (w, r, if r = [] then false else true) := by
 have hk : digB 46 = false := rfl
 by_cases q : r = []
 ·rw [if_pos q, if_pos q, List.append_nil, q]
  unfold Lib.cut
  rw [index_nosep hk w hw, if_neg (by decide)]
 ·rw [if_neg q, if_neg q]
  unfold Lib.cut
  rw [index_sep hk w r hw, if_pos (by omega), Int.toNat_natCast, List.take_left, show w.length + ([46] : List UInt8).length = w.length + 1 from rfl, drop_sep]
theorem cut_len (b : List UInt8) : (Lib.cut b [46]).1.length ≤ b.length ∧ (Lib.cut b [46]).2.1.length ≤ b.length := by
 unfold Lib.cut
 split
 ·simp only [List.length_take, List.length_drop]; omega
 ·simp
theorem repZ {k : Nat} (h : k ≤ 9) : repF ⟨#[48]⟩ (9 - (k : Int)) = some (bt (List.replicate (9 - k) 48)) := by
 unfold repF
 have e3 : (9 - (k : Int)).toNat = 9 - k := by omega
 rw [e3, decide_eq_true (by omega), decide_eq_true (show (⟨#[48]⟩ : ByteArray).size * (9 - k) ≤ 140737488355328 from by
  show 1 * _ ≤ _
  omega), decide_eq_true (by omega)]
 show some (bt (Lib.repeatL [48] _)) = _
 rw [repL]
theorem zero_ : (⟨#[48]⟩ : ByteArray) = bt [48] := rfl
def lonE (l : List UInt8) : Int × Option Int := if okN l then ((lonV l : Int), none) else (0, some 3)
theorem tdlong_at (N : Nat) {l : List UInt8} (hl : l.length ≤ 100) : f_12 N (bt l) = some (lonE l) := by
 unfold f_12 lonE
 refine (bindP _ _ _ (tdsuf_at N hl)).trans ?_
 by_cases hx : l.getLast? = some 115
 ·rw [if_pos hx]
  have hb : l.dropLast.length ≤ 100 := by rw [List.length_dropLast]; omega
  have hcut : cutF (bt l.dropLast) ⟨#[46]⟩ = some (bt (Lib.cut l.dropLast [46]).1, bt (Lib.cut l.dropLast [46]).2.1, (Lib.cut l.dropLast [46]).2.2) := by
   unfold cutF
   rw [bt_size, decide_eq_true (by omega)]; rfl
  obtain ⟨c1, c2⟩ := cut_len l.dropLast
  refine (bindP _ _ _ hcut).trans ?_
  simp only [Bool.not_true, cond_false]
  have hk : okN l → (∀ c ∈ (Lib.cut l.dropLast [46]).1, digB c = true) ∧ 1 ≤ (Lib.cut l.dropLast [46]).1.length ∧ (Lib.cut l.dropLast [46]).1.length ≤ 10 ∧ (Lib.cut l.dropLast [46]).2.1.length ≤ 9 ∧ valL 0 (Lib.cut l.dropLast [46]).1 = lonV l / 1000000000 ∧ (Lib.cut l.dropLast [46]).2.1 ++ List.replicate (9 - (Lib.cut l.dropLast [46]).2.1.length) 48 = twoL 9 (lonV l % 1000000000) := fun q => by
   obtain ⟨q1, q2⟩ := q
   obtain ⟨w, r, e1, _, d1, l1, l2, _, _, l3, _, f1, f2⟩ := len_parts q1
   have e3 : l.dropLast = w ++ (if r = [] then [] else 46 :: r) := by
    have := q2.trans e1
    rw [this, ← List.append_assoc, List.dropLast_concat]
   rw [e3, cut_at d1]
   exact ⟨d1, l1, l2, l3, f1, f2⟩
  have hv : okN l → lonV l < 9223372036854775808 := fun q => q.1
  generalize (Lib.cut l.dropLast [46]).1 = W at *
  generalize (Lib.cut l.dropLast [46]).2.1 = R at *
  by_cases h9 : R.length > 9
  ·rw [bt_size, decide_eq_true (show (R.length : Int) > 9 by omega), if_neg (fun q : okN l => by have := (hk q).2.2.2.1; omega)]; rfl
  ·rw [bt_size, decide_eq_false (show ¬ (R.length : Int) > 9 by omega)]
   simp only [cond_false]
   rw [pint64 (p := bt W) (by rw [bt_size]; omega)]
   simp only [Option.bind_some]
   have r1 := @v64_rng (bt W)
   have k1 : okN l → v64 (bt W) = (((lonV l / 1000000000 : Nat) : Int), true) := fun q => by
    obtain ⟨d1, l1, l2, _, f1, _⟩ := hk q
    rw [v64_dig d1 l1 (by omega), f1]
   generalize v64 (bt W) = x at *
   obtain ⟨n1, ok1⟩ := x
   cases ok1 with
   | false => rw [if_neg (fun q : okN l => by have := congrArg Prod.snd (k1 q); cases this)]; rfl
   | true =>
    have r1 := r1 rfl
    simp only [Bool.not_true, cond_false]
    rw [wi64 (by omega) (by omega), repZ (show R.length ≤ 9 by omega), zero_]
    refine (bif_no (by rw [bt_size]; simp only [List.length_cons, List.length_nil]; omega) _ _).trans ?_
    simp only [Option.bind_some, bt_app]
    refine (bif_no (by rw [bt_size, bt_size]; simp only [List.length_append, List.length_cons, List.length_nil, List.length_replicate]; omega) _ _).trans ?_
    rw [pint64 (p := bt ([48] ++ R ++ List.replicate (9 - R.length) 48)) (by rw [bt_size]; simp only [List.length_append, List.length_cons, List.length_nil, List.length_replicate]; omega)]
    simp only [Option.bind_some]
    have r2 := @v64_rng (bt ([48] ++ R ++ List.replicate (9 - R.length) 48))
    have k2 : okN l → v64 (bt ([48] ++ R ++ List.replicate (9 - R.length) 48)) = (((lonV l % 1000000000 : Nat) : Int), true) := fun q => by
     obtain ⟨_, _, _, _, _, f2⟩ := hk q
     rw [List.append_assoc, f2]
     have hd : ∀ c ∈ ([48] ++ twoL 9 (lonV l % 1000000000) : List UInt8), digB c = true := fun c hc => by
      rcases List.mem_append.1 hc with h | h
      ·obtain rfl := List.mem_singleton.1 h; rfl
      ·exact twoL_dig _ _ c h
     rw [v64_dig hd (by simp) (by rw [List.length_append, twoL_len]; decide)]
     have := valL_two 9 (lonV l % 1000000000) 0 (show lonV l % 1000000000 < 1000000000 by omega)
     rw [valL_app, show valL 0 [48] = 0 from rfl, this, Nat.zero_mul, Nat.zero_add]
    generalize v64 (bt ([48] ++ R ++ List.replicate (9 - R.length) 48)) = y at *
    obtain ⟨n2, ok2⟩ := y
    cases ok2 with
    | false => rw [if_neg (fun q : okN l => by have := congrArg Prod.snd (k2 q); cases this)]; rfl
    | true =>
     have r2 := r2 rfl
     simp only [Bool.not_true, cond_false]
     have k1 : okN l → n1 = ((lonV l / 1000000000 : Nat) : Int) := fun q => congrArg Prod.fst (k1 q)
     have k2 : okN l → n2 = ((lonV l % 1000000000 : Nat) : Int) := fun q => congrArg Prod.fst (k2 q)
     have k3 : okN l → n1 * 1000000000 + n2 = (lonV l : Int) := fun q => by rw [k1 q, k2 q]; omega
     rw [nmul_at N r1 ⟨by decide, by decide⟩ (by decide)]
     simp only at r1 r2
     unfold fit64
     by_cases g1 : R64 (n1 * 1000000000)
     ·rw [rB_t g1]
      simp only [cond_true, Option.isNone_none, Bool.not_true, cond_false, Option.bind_some]
      rw [nadd_at N g1 r2]
      unfold fit64
      by_cases g2 : R64 (n1 * 1000000000 + n2)
      ·rw [rB_t g2]
       simp only [cond_true, Option.isNone_none, Bool.not_true, cond_false, Option.bind_some]
       generalize n1 * 1000000000 + n2 = n at *
       by_cases g3 : n < 0
       ·rw [decide_eq_true g3, if_neg (fun q : okN l => by have := k3 q; omega)]; rfl
       ·rw [decide_eq_false g3]
        obtain ⟨m, rfl⟩ := Int.eq_ofNat_of_zero_le (show 0 ≤ n by omega)
        have hm : m < 9223372036854775808 := by have := g2.2; omega
        simp only [cond_false]
        rw [tdleng_at N hm]
        simp only [Option.bind_some]
        rw [bt_beq]
        by_cases ht : lenT m = l
        ·obtain ⟨o1, o2⟩ := lon_ok hm
         rw [ht] at o1 o2
         rw [decide_eq_true ht, if_pos o1, o2]; rfl
        ·rw [decide_eq_false ht, if_neg (fun q : okN l => ht (by
          have e : m = lonV l := by have := k3 q; omega
          rw [e]; exact q.2.symm))]; rfl
      ·rw [rB_f g2, if_neg (fun q : okN l => g2 (by rw [k3 q]; have := hv q; exact ⟨by omega, by omega⟩))]; rfl
     ·rw [rB_f g1, if_neg (fun q : okN l => g1 (by have := hv q; rw [k1 q]; exact ⟨by omega, by omega⟩))]; rfl
 ·rw [if_neg hx]
  have hcut : cutF (bt l) ⟨#[46]⟩ = some (bt (Lib.cut l [46]).1, bt (Lib.cut l [46]).2.1, (Lib.cut l [46]).2.2) := by
   unfold cutF
   rw [bt_size, decide_eq_true (by omega)]; rfl
  refine (bindP _ _ _ hcut).trans ?_
  rw [if_neg (fun q : okN l => hx (by rw [q.2]; exact lenT_last _))]; rfl
theorem tdlnum_at (N : Nat) (e : Option Int) : f_14 N e = some (errN e) := by cases e <;> rfl
theorem tdlsure_at (N : Nat) (hN : 4 ≤ N) : f_5 N = some true := by
 have e1 : f_6 N 0 3600 = some (bt [49, 57, 55, 48, 45, 48, 49, 45, 48, 49, 84, 48, 49, 58, 48, 48, 58, 48, 48, 46, 48, 48, 48, 48, 48, 48, 48, 48, 48, 43, 48, 49, 58, 48, 48], none) := (tdtext_at N ⟨by decide, by decide⟩ ⟨by decide, by decide⟩).trans (by rw [if_pos (by decide)]; rfl)
 have e2 : f_10 N 1500000000 = some (bt [49, 46, 53, 115], none) := (tdlength_at N ⟨by decide, by decide⟩).trans (by rw [if_neg (by decide)]; rfl)
 have e3 : f_8 N (⟨#[49, 57, 55, 48, 45, 48, 49, 45, 48, 49, 84, 48, 48, 58, 48, 48, 58, 48, 48, 46, 48, 48, 48, 48, 48, 48, 48, 48, 49, 45, 48, 48, 58, 48, 48, 58, 48, 49]⟩) = some ((1000000001, -1), none) := (tdparse_at N hN (l := [49, 57, 55, 48, 45, 48, 49, 45, 48, 49, 84, 48, 48, 58, 48, 48, 58, 48, 48, 46, 48, 48, 48, 48, 48, 48, 48, 48, 49, 45, 48, 48, 58, 48, 48, 58, 48, 49]) (by decide)).trans (by unfold momE; rw [if_pos (by decide)]; rfl)
 have e4 : f_12 N (⟨#[48, 46, 48, 48, 48, 48, 48, 48, 48, 48, 49, 115]⟩) = some (1, none) := (tdlong_at N (l := [48, 46, 48, 48, 48, 48, 48, 48, 48, 48, 49, 115]) (by decide)).trans (by unfold lonE; rw [if_pos (by decide)]; rfl)
 have e5 : f_8 N (⟨#[120]⟩) = some ((0, 0), some 3) := (tdparse_at N hN (l := [120]) (by decide)).trans (by unfold momE; rw [if_neg (by decide)])
 unfold f_5
 refine (bindP _ _ _ e1).trans ?_
 refine (bindP _ _ _ e2).trans ?_
 refine (bindP _ _ _ e3).trans ?_
 refine (bindP _ _ _ e4).trans ?_
 refine (bindP _ _ _ e5).trans ?_
 simp only [Option.isNone_none, cond_true]
 rw [show (⟨#[49, 57, 55, 48, 45, 48, 49, 45, 48, 49, 84, 48, 49, 58, 48, 48, 58, 48, 48, 46, 48, 48, 48, 48, 48, 48, 48, 48, 48, 43, 48, 49, 58, 48, 48]⟩ : ByteArray) = bt [49, 57, 55, 48, 45, 48, 49, 45, 48, 49, 84, 48, 49, 58, 48, 48, 58, 48, 48, 46, 48, 48, 48, 48, 48, 48, 48, 48, 48, 43, 48, 49, 58, 48, 48] from rfl, bt_beq, decide_eq_true rfl, show (⟨#[49, 46, 53, 115]⟩ : ByteArray) = bt [49, 46, 53, 115] from rfl, bt_beq, decide_eq_true rfl, tdlnum_at]; rfl
theorem tdlback_at (N : Nat) (hN : 4 ≤ N) {n off u k : Int} (hn : R64 n) (ho : R64 off) (hu : R64 u) (hk : R64 k) : f_4 N n off u k = some true := by
 have hS := tdlsure_at N hN
 obtain ⟨k0, k1⟩ := id hk
 have hl : Option.bind (f_10 N k) (fun r8 => Option.bind (f_12 N r8.1) fun r9 => (bif decide (k < 0) then Option.bind (f_14 N r8.2) (fun r10 => (bif r10 == 1 then Option.bind (f_14 N r9.2) (fun r11 => (bif r11 == 3 then Option.bind (f_5 N) (fun r12 => some r12) else some false)) else some false)) else (bif Option.isNone r8.2 then (bif Option.isNone r9.2 then (bif r9.1 == k then Option.bind (f_5 N) (fun r13 => some r13) else some false) else some false) else some false))) = some true := by
  refine (bindP _ _ _ (tdlength_at N hk)).trans ?_
  by_cases h : k < 0
  ·rw [if_pos h, decide_eq_true h]
   refine (bindP _ _ _ (tdlong_at N (l := []) (by decide))).trans ?_
   rw [show lonE [] = (0, some 3) from if_neg (by decide), tdlnum_at, tdlnum_at, hS]; rfl
  ·rw [if_neg h, decide_eq_false h]
   have hm : k.toNat < 9223372036854775808 := by omega
   refine (bindP _ _ _ (tdlong_at N (l := lenT k.toNat) (by have := lenT_len hm; omega))).trans ?_
   obtain ⟨o1, o2⟩ := lon_ok hm
   rw [show lonE (lenT k.toNat) = ((lonV (lenT k.toNat) : Int), none) from if_pos o1, o2, Int.toNat_of_nonneg (show 0 ≤ k by omega), hS]
   simp only [Option.isNone_none, cond_true, cond_false, beq_self_eq_true, Option.bind_some]
 unfold f_4
 simp only [hl]
 refine (bindP _ _ _ (tdtext_at N hn ho)).trans ?_
 by_cases hM : MayM n off
 ·rw [if_pos hM]
  simp only [Option.isNone_none, cond_true]
  obtain ⟨m1, m2, _⟩ := mom_ok hM
  have hlen : (txtL n off).length ≤ 100 := by
   unfold txtL
   rw [List.length_append, stX_len m1 m2]
   have := (add_ok (off := off) (by have := hM.2.2; omega)).1.1
   rcases this with e | ⟨e, _⟩ <;> omega
  obtain ⟨o1, o2, o3⟩ := txt_ok hM
  refine (bindP _ _ _ (tdparse_at N hN hlen)).trans ?_
  rw [show momE (txtL n off) = ((n, off), none) from by unfold momE; rw [if_pos o1, o2, o3]]
  simp only [Option.isNone_none, Bool.not_true, cond_false, beq_self_eq_true, Bool.and_self]
  refine (bindP _ _ _ (tdtext_at N hu ho)).trans ?_
  by_cases hU : MayM u off
  ·rw [if_pos hU]
   simp only [Option.isNone_none, cond_true, bt_bytes, txt_lt hM hU, beq_self_eq_true, Bool.not_true, cond_false]
   by_cases e : n = u
   ·subst e
    rw [beq_self_eq_true, beq_self_eq_true]; rfl
   ·rw [show (n == u) = false from beq_eq_false_iff_ne.2 e, show (txtL n off == txtL u off) = false from beq_eq_false_iff_ne.2 (fun q => e (txt_inj hM hU q).1)]; rfl
  ·rw [if_neg hU]; rfl
 ·rw [if_neg hM]; rfl
end Go.Proofs.YthbhbfnnagaclaaGreatDoor.Mir
namespace Go.Proofs.YthbhbfnnagaclaaGreatDoor
open Go Go.RowKit Mir
abbrev moSh : List Sh := [.int .i64, .int .i64]
theorem i64M {n : Int} (hw : (Lit.int .i64 n).wf = true) : R64 n := by
 have := wf_range hw
 have c0 : IntKind.i64.min = -9223372036854775808 := by decide
 have c1 : IntKind.i64.max = 9223372036854775807 := by decide
 unfold R64
 omega
set_option maxRecDepth 100000 in
theorem law_ToldBack_row (w : World) {q : LQ} (hc : CellsQ q w) (hwh : Whole (laidQ q) w) {v0 v1 v2 : Value} {y0 : TL moSh} (k0 : OkL _ y0) (e0 : RepA (gW w) (.agg (encL _ y0)) v0)
  {y1 : (Sh.int .i64).T} (k1 : OkS (.int .i64) y1) (e1 : RepA (gW w) (.one (encS (.int .i64) y1)) v1) {y2 : (Sh.int .i64).T} (k2 : OkS (.int .i64) y2) (e2 : RepA (gW w) (.one (encS (.int .i64) y2)) v2) :
  Calls Tryz.prog 4 #[v0, v1, v2] w fun e w' => e = .returned (.bool true) ∧ Below w.heap.size w w' := by
 obtain ⟨n, off⟩ := y0
 simp only [OkL, OkS] at k0
 obtain ⟨j0, j1⟩ := k0
 have hr : (S_4 12000).run [.agg (encL moSh (n, off)), .one (encS (.int .i64) y1), .one (encS (.int .i64) y2)] [] = f_4 12000 n off y1 y2 := by kernel_rfl
 have ho : ((S_4 12000).out [.agg (encL moSh (n, off)), .one (encS (.int .i64) y1), .one (encS (.int .i64) y2)] [] true).1 = .a (.one (Mir.boolC true)) := by kernel_rfl
 exact calls_open (vs := [v0, v1, v2]) (s_4 (q := q) 12000) (by kernel_rfl) Tryz.func4 (by kernel_rfl) (by kernel_rfl) (hr.trans (tdlback_at 12000 (by decide) (i64M j0) (i64M j1) (i64M (show (Lit.int .i64 y1).wf = true by simpa only [OkS] using k1)) (i64M (show (Lit.int .i64 y2).wf = true by simpa only [OkS] using k2))))
  ⟨v0, _, rfl, e0, v1, _, rfl, e1, v2, _, rfl, e2, rfl⟩ hc hwh (fun g x h => by rw [ho] at h; exact h)
end Go.Proofs.YthbhbfnnagaclaaGreatDoor
namespace Go.Proofs.YthbhbfnnagaclaaGreatDoor
open Go Go.ChangeShapes Go.WideShapes Go.ChangeAt Go.RowKit Go.Proofs.YthbhbfnnagaclaaGreatDoor.Mir
section
variable {H : Type} {enc : TypeId × Value → H}
theorem handed_and_shaped {a : Assume} {C : Checked} {os : Os} {f : FuncId} {fn : Func} {s : ChangeSpec} {conds : List PathCond} {apart fresh handsOn again : Bool} {X : World → Array Value → Prop}
  (hX : ∀ (w w' : World) (args : Array Value), w.heap = w'.heap → X w args → X w' args)
  (own : ownKnob C.prog.godebug = none) (started : os.Started) (noInit : C.prog.inits.idxOf? f = none) (hfn : C.prog.funcs[f]? = some fn)
  (witness : ∃ (w : World) (tape : Tape) (i : Input), w.os = os ∧ (w.forCall tape i).Shaped C.prog ∧ i.vars = [] ∧ Input.okWide C.prog (w.forCall tape i) .any w.heap.size f i ∧
   ((s.pre enc C.prog fn conds apart (w.forCall tape i).memory i.args ∧ X (w.forCall tape i).memory i.args) ∧ sizedMet enc C.prog fn (OpenSpec.ofChange s) apart (w.forCall tape i).memory i.args) ∧ a.holds C.prog (lone (Frame.enter C.prog f i.args .normal) [] (w.forCall tape i)))
  (contract : ∀ (W : World) (base : Nat) (args : Array Value) (ds gs : List (DataW H)) (before : List MemPlace),
   (∀ (j : Nat) t v, fn.params[j]? = some t → args[j]? = some v → Value.okWide C.prog W .any base t v) →
   DataW.Whole enc C.prog fn.params.toList s.vars apart W args.toList ds gs before →
   conds.all (PathCond.test C.prog ⟨fn.params.toList, ds, s.plain.varTypes C.prog, gs⟩) = true →
   (DataW.weightsEach C.prog (fn.params.toList ++ s.plain.varTypes C.prog) (ds ++ gs)).all (· ≤ reachBytes) = true → X W args → W.ShapedOpen C.prog →
   a.holds C.prog (lone (Frame.enter C.prog f args .normal) [] W) →
   Calls C.prog f args W fun e W' => ∃ v, e = .returned v ∧ s.post enc C.prog fn apart fresh handsOn again W args v W') :
  ReturnsInHanded a C os f .any (fun w args => (s.pre enc C.prog fn conds apart w args ∧ X w args) ∧ sizedMet enc C.prog fn (OpenSpec.ofChange s) apart w args) (s.post enc C.prog fn apart fresh handsOn again) := by
 refine returnsInHanded_of_calls own started noInit witness ?_
 intro w tape i _ hsh _ hok hpre hholds
 obtain ⟨_, _, _, fn', hfn', _, _, _, _, hval⟩ := hok
 have e : fn' = fn := Option.some.inj (hfn'.symm.trans hfn)
 subst e
 obtain ⟨⟨⟨ds, gs, before, hw, hc⟩, hx⟩, hz⟩ := hpre
 have hw' := DataW.Whole.of_heap (w' := w.forCall tape i) (by rfl) hw
 refine (contract (w.forCall tape i) w.heap.size i.args ds gs before hval hw' hc (hz.weights hw) (hX _ _ _ (by rfl) hx) hsh hholds).mono fun e W' ⟨v, he, hp⟩ => ?_
 subst he
 exact ChangeSpec.post_blind hp
end
def laidC : List (String × DataW Unit) := [("math/bits.deBruijn32tab", Rows.laid_math_bits_deBruijn32tab), ("math/bits.deBruijn64tab", Rows.laid_math_bits_deBruijn64tab), ("internal/strconv.uint64pow10", Rows.laid_internal_strconv_uint64pow10), ("unicode/utf8.acceptRanges", Rows.laid_unicode_utf8_acceptRanges), ("errors.errorType", Rows.laid_errors_errorType), ("strconv.ErrRange", Rows.laid_strconv_ErrRange), ("strconv.ErrSyntax", Rows.laid_strconv_ErrSyntax), ("unicode/utf8.first", Rows.laid_unicode_utf8_first)]
def laidCD : List (String × DataW Unit) := [("math/bits.deBruijn32tab", Rows.laid_math_bits_deBruijn32tab), ("math/bits.deBruijn64tab", Rows.laid_math_bits_deBruijn64tab), ("internal/strconv.uint64pow10", Rows.laid_internal_strconv_uint64pow10), ("unicode/utf8.acceptRanges", Rows.laid_unicode_utf8_acceptRanges), ("strconv.ErrRange", Rows.laid_strconv_ErrRange), ("strconv.ErrSyntax", Rows.laid_strconv_ErrSyntax), ("unicode/utf8.first", Rows.laid_unicode_utf8_first)]
theorem laidC_of {W : World} (h : laidMetH Tryz.prog laidC W) : laidMetH Tryz.prog Go.Proofs.YthbhbfnnagaclaaGreatDoor.laidL W := h.filter fun x => x.1 == "errors.errorType"
theorem whole_var {P : Program} {W : World} {n : String} {g : Nat} {cs : Array Value} (hg : P.globalNamed n = some g) (h : W.var? P n = some cs) : ∃ ty x, W.heap[g]? = some (.cells cs ty x) := by
 unfold World.var? at h
 rw [hg] at h
 simp only [Option.bind_some] at h
 split at h
 ·rename_i c t x e
  obtain rfl := Option.some.inj h
  exact ⟨t, x, e⟩
 ·cases h
theorem starErr : "*" ++ "errors.errorString" = "*errors.errorString" := by decide
theorem Tryz.rowErr (u : TypeId) (h : Tryz.prog.typeName? 3 u = some "*errors.errorString") : u = 198 :=
 typeName_ptr_named (nm := "errors.errorString") (by rw [starErr]; kernel_rfl) (by kernel_rfl) (by decide) u (by rw [starErr]; exact h)
theorem gSyn : Tryz.prog.globalNamed "strconv.ErrSyntax" = some 2 := by kernel_rfl
theorem gRan : Tryz.prog.globalNamed "strconv.ErrRange" = some 3 := by kernel_rfl
theorem gPow : Tryz.prog.globalNamed "internal/strconv.uint64pow10" = some 4 := by kernel_rfl
theorem rowC {W : World} (hsh : W.ShapedOpen Tryz.prog) (h : laidMetH Tryz.prog laidC W) : ∃ q : LQ, CellsQ q W ∧ Whole (laidQ q) W := by
 have hE := laid_of (laidC_of h)
 have hEm : laidMetH Tryz.prog Go.Proofs.YthbhbfnnagaclaaGreatDoor.laidL W := laidC_of h
 have h1 : laidMet Tryz.prog [("strconv.ErrSyntax", Rows.laid_strconv_ErrSyntax)] W := h.filter fun x => x.1 == "strconv.ErrSyntax"
 have h2 : laidMet Tryz.prog [("strconv.ErrRange", Rows.laid_strconv_ErrRange)] W := h.filter fun x => x.1 == "strconv.ErrRange"
 have h3 : laidMet Tryz.prog [("internal/strconv.uint64pow10", Rows.laid_internal_strconv_uint64pow10)] W := h.filter fun x => x.1 == "internal/strconv.uint64pow10"
 obtain ⟨a1, _, v1, _⟩ := laid_sentinel h1 gSyn (by kernel_rfl) Tryz.underlying26 Tryz.rowErr Tryz.underlying198 Tryz.underlying200 rfl rfl Tryz.underlying9 (by kernel_rfl) (by kernel_rfl)
 obtain ⟨a2, _, v2, _⟩ := laid_sentinel h2 gRan (by kernel_rfl) Tryz.underlying26 Tryz.rowErr Tryz.underlying198 Tryz.underlying200 rfl rfl Tryz.underlying9 (by kernel_rfl) (by kernel_rfl)
 have v3 : Lib.TabIs Tryz.prog W "internal/strconv.uint64pow10" .u64 Lib.pow10Tab := Lib.tabIs_of_head (rest := []) gPow (show _ = some 193 by kernel_rfl) Tryz.underlying193 Tryz.underlying145 (by kernel_rfl) (by kernel_rfl) h3
 obtain ⟨cm, hcm, hcs, hck⟩ := hsh.1 1 #[.int .i64 0] 3 (of_decide_eq_true (by kernel_rfl)) (by kernel_rfl)
 obtain ⟨m, hm⟩ := Go.Proofs.cell_of_shapedOpen_int (zero := #[.int .i64 0]) (t := 3) (g := 1) hsh (of_decide_eq_true (by kernel_rfl)) (by kernel_rfl) rfl (by kernel_rfl) (by kernel_rfl) Tryz.underlying3
 have cE : ∃ row ty x, W.heap[(0 : Nat)]? = some (.cells row ty x) ∧ row.size = 1 := by
  have h' : laidMet Tryz.prog [] W ∧ handlesMet Tryz.prog Go.Proofs.YthbhbfnnagaclaaGreatDoor.laidL W := hEm
  obtain ⟨name, u, ty, _, _, _, _, e5⟩ := h'.2 _ (List.mem_singleton.2 rfl)
  obtain ⟨t, x, e⟩ := whole_var Tryz.et e5
  exact ⟨_, t, x, e, rfl⟩
 obtain ⟨t1, x1, w1⟩ := whole_var gSyn v1
 obtain ⟨t2, x2, w2⟩ := whole_var gRan v2
 obtain ⟨t3, x3, w3⟩ := whole_var gPow v3
 refine ⟨⟨m, .iface 198 (.pointer (some a1)), .iface 198 (.pointer (some a2)), ⟨_, _, rfl⟩, ⟨_, _, rfl⟩⟩, ?_, ?_⟩
 ·intro p hp
  unfold laidQ at hp
  rcases List.mem_append.1 hp with hp | hp
  ·obtain rfl := List.mem_singleton.1 hp
   exact hE
  ·rcases List.mem_cons.1 hp with rfl | hp
   ·exact hm
   ·rcases List.mem_cons.1 hp with rfl | hp
    ·exact World.var?_cell gSyn v1 0
    ·rcases List.mem_cons.1 hp with rfl | hp
     ·exact World.var?_cell gRan v2 0
     ·obtain ⟨i, hi, rfl⟩ := List.mem_map.1 hp
      have hi := List.mem_range.1 hi
      simp only
      rw [World.var?_cell gPow v3 i, List.getElem?_toArray, List.getElem?_map, List.getElem?_eq_getElem hi, List.getD_eq_getElem?_getD, List.getElem?_eq_getElem hi]; rfl
 ·intro p hp
  unfold laidQ at hp
  rcases List.mem_append.1 hp with hp | hp
  ·obtain rfl := List.mem_singleton.1 hp
   obtain ⟨row, ty, x, e, s⟩ := cE
   exact ⟨row, ty, x, e, s.trans rfl⟩
  ·rcases List.mem_cons.1 hp with rfl | hp
   ·exact ⟨_, _, _, hcm, hcs.trans rfl⟩
   ·rcases List.mem_cons.1 hp with rfl | hp
    ·exact ⟨_, _, _, w1, rfl⟩
    ·rcases List.mem_cons.1 hp with rfl | hp
     ·exact ⟨_, _, _, w2, rfl⟩
     ·obtain ⟨i, hi, rfl⟩ := List.mem_map.1 hp
      exact ⟨_, _, _, w3, by simp only [List.size_toArray, List.length_map, Lib.pow10Tab_length]; rfl⟩
noncomputable def laidWorldC (os : Os) : World := (laidWorld os).layVars Tryz.prog laidCD
theorem laidWorldC_met (os : Os) (args : Array Value) : laidMetH Tryz.prog laidC ((laidWorldC os).forCall (fun _ _ => 0) ⟨#[], args, []⟩).memory :=
 laidMetH_of_parts (laidMet_layVars (w0 := laidWorld os) ["math/bits.deBruijn32tab", "math/bits.deBruijn64tab", "internal/strconv.uint64pow10", "unicode/utf8.acceptRanges", "strconv.ErrRange", "strconv.ErrSyntax", "unicode/utf8.first"] [] (by show _ = ((laidWorld os).layVars Tryz.prog laidCD).heap; simp [World.memory, World.forCall, Input.heap]; rfl) (by kernel_rfl) (by kernel_rfl) LaidIn.none) (by kernel_rfl)
end Go.Proofs.YthbhbfnnagaclaaGreatDoor
