/- Texts joined. -/
import Derived.Test.YthpljlpokmoeeaaGreatDoorKx7ec6e0
import Derived.Test.YthpljlpokmoeeaaGreatDoorRows
import Derived.WalkKit
import Derived.ProofKit
import Derived.OpenShut
import Derived.ShutString
import Derived.ChangeOld
import Derived.ChangeSame
import Derived.ChangeVars
import Derived.JoinedOf
import Derived.Handed
import Derived.SizedLaws
import Derived.LaidLaws
import Derived.LaidHandle
import Derived.RowKitTokens
import Derived.Stop.Joined
import Derived.Lay
import Derived.LaidSub
namespace Go.Proofs.YthpljlpokmoeeaaGreatDoor
open Go.RowKit
def mdX (a b c : Int) : Int × Option Int := if c < 1 then (0, some 1) else if in64 (a * b / c) then (a * b / c, none) else (0, some 2)
def msX (a m s : Int) : Int × Option Int := if s < 0 ∨ 31 < s then (0, some 1) else mdX a m (2 ^ s.toNat)
def refP (r : Int × Option Int) : Value := .tuple #[.int .i64 r.1, .int .i64 (numV r.2)]
set_option maxHeartbeats 1000000 in
set_option maxRecDepth 100000 in
theorem ref_Power (N : Nat) (hN : N ≤ 127) (w : World) :
  Calls Tryz.prog 61 #[.int .i64 N] w fun e w' => e = .returned (.agg (bigV (2 ^ N))) ∧ Below w.heap.size w w' := by
 have hO := fun w => ref_one w
 unfold dgs rowF at hO
 have hOH := Lib.hid hO
 clear hO
 have hsz := bigA_size
 have hsd := dgs_size
 go_enter Tryz.func61, Tryz.ntmps61
 go_wp2_with fail
 refine (hOH.out _).mono ?_
 rintro e1 w1 ⟨rfl, hb1⟩
 obtain ⟨hc1, hf1⟩ := bcell hb1
 have hz1 := hb1.size
 try simp at hz1
 have hz1_0 : w.heap.size < w1.heap.size := by omega
 go_upto_block 0 with (fail)
 refine wp_gen (fun wd => wd.heap[w.heap.size]? = some (.cells (bigA false fun _ => 0) 141) ∧ wd.heap[w1.heap.size]? = some (.cells (bigA false (dgI (2 ^ 0))) 141) ∧ w1.heap.size < wd.heap.size ∧ Below w.heap.size w wd) ⟨row_past (blk hb1 (row_new rfl) (by simp)), row_new rfl, by simp, by repeat (first | exact Below.refl _ _ | assumption | (refine Below.alloc ?_ (by first | omega | (simp; done) | (simp; omega) | (simp at *; omega)) _) | (refine Below.setCell ?_ (by first | omega | (simp; done) | (simp; omega) | (simp at *; omega)) _) | (refine Below.trans ?_ (below_drewN _ _ _)) | (refine Below.drew ?_) | (refine Below.trans ?_ (Below.mono (by assumption) (by first | omega | (simp; done) | (simp; omega) | (simp at *; omega)))))⟩ ?_
 rintro wd ⟨g0, g1, hz, hb⟩
 clear hb1 hc1 hf1
 go_wp2_with fail
 go_loopw [4] (fun u wr => ∃ k : Nat, k ≤ N ∧ u = .int .i64 k ∧ wr.heap[w.heap.size]? = some (.cells (bigA false fun _ => 0) 141) ∧ wr.heap[w1.heap.size]? = some (.cells (bigA false (dgI (2 ^ k))) 141) ∧ w1.heap.size < wr.heap.size ∧ Below w.heap.size w wr) (fun u _ => N - (intOf u).toNat)
 case atStart => exact ⟨0, by omega, rfl, g0, g1, hz, hb⟩
 case round =>
  clear g0 g1 hz hb
  obtain ⟨k, hk, rfl, g0, g1, hz, hb⟩ := hrel
  by_cases h : k < N
  ·have hT := fun w => ref_twice (2 ^ k) 0 (by omega) (by omega) w
   rw [Int.add_zero, Int.mul_comm, ← Int.pow_succ] at hT
   have l1 := ld_dig g1
   have hTH := Lib.hid hT
   have g0H := Lib.hid g0
   have g1H := Lib.hid g1
   clear g0 g1 hT
   have hlt : (k : Int) < (N : Int) := by omega
   go_wp2_with (first | (refine wpList_load_at _ _ rfl rfl _ rfl _ (by with_reducible assumption) ?_; go_simp) | (refine wpList_store_at _ _ _ rfl rfl _ rfl _ (by with_reducible assumption) (by rfl) ?_; go_simp))
   refine (hTH.out _).mono ?_
   rintro e w2 ⟨rfl, hb2⟩
   have k0 := blk hb2 g0H.out (by omega)
   have k1 := blk hb2 g1H.out hz
   have hs2 := hb2.size
   have st := st_dig (2 ^ (k + 1)) k1
   have k0H := Lib.hid (setRow_other (b' := w1.heap.size) (c' := bigA false (dgI (2 ^ (k + 1)))) k0 (by omega))
   have k1H := Lib.hid (setRow_at (c' := bigA false (dgI (2 ^ (k + 1)))) k1)
   have hbH := Lib.hid (below_setRow (b := w1.heap.size) (c := bigA false (dgI (2 ^ (k + 1)))) (hb.trans (hb2.mono (by omega))) (by omega))
   clear k0 k1
   go_wp2_with (first | (refine wpList_load_at _ _ rfl rfl _ rfl _ (by with_reducible assumption) ?_; go_simp) | (refine wpList_store_at _ _ _ rfl rfl _ rfl _ (by with_reducible assumption) (by rfl) ?_; go_simp))
   refine ⟨⟨k + 1, by omega, by go_num, k0H.out, k1H.out, ?_, hbH.out⟩, ?_⟩
   ·rw [setRow_size]; omega
   ·simp [intOf]; omega
  ·have hkN : k = N := by omega
   subst hkN
   have l1 := ld_big g1
   have s1 := st_big false (dgI (2 ^ k)) g0
   have kH := Lib.hid (setRow_at (c' := bigA false (dgI (2 ^ k))) g0)
   have hbH := Lib.hid (below_setRow (b := w.heap.size) (c := bigA false (dgI (2 ^ k))) hb (Nat.le_refl _))
   clear g0 g1
   go_wp2_with (first | (refine wpList_load_at _ _ rfl rfl _ rfl _ (by with_reducible assumption) ?_; go_simp) | (refine wpList_store_at _ _ _ rfl rfl _ rfl _ (by with_reducible assumption) (by rfl) ?_; go_simp))
   refine bp_ret ?_ rfl
   refine ⟨.agg (bigA false (dgI (2 ^ k))), ret_cell (a := ⟨w.heap.size, 0, none⟩) Tryz.results61 ?_ (load67 kH.out rfl), ?_, hbH.out⟩
   ·simp
   ·rw [bigV_nn (Int.le_of_lt (two_pos k))]
theorem mul_in128' {a b : Int} (ha : in64 a) (hb : in64 b) : -(2 ^ 254) < a * b ∧ a * b < 2 ^ 254 := by
 have h := mul_in128 ha hb
 unfold in128 at h
 omega
theorem in64_lim {a : Int} (h : in64 a) : -(4294967296 ^ 4) < a ∧ a < 4294967296 ^ 4 := by unfold in64 at h; omega
theorem ediv_lim {x d : Int} (h0 : -(2 ^ 254) < x) (h1 : x < 2 ^ 254) (hd : 0 < d) : -(2 ^ 255) < x / d ∧ x / d < 2 ^ 255 := by
 have e := Int.mul_ediv_add_emod x d
 have r0 := Int.emod_nonneg x (Int.ne_of_gt hd)
 have r1 := Int.emod_lt_of_pos x hd
 rcases Int.lt_or_le x 0 with h | h
 ·have a : x / d < 0 := Int.ediv_neg_of_neg_of_pos h hd
  have b := Int.mul_le_mul_of_nonpos_right (show 1 ≤ d from hd) (show x / d + 1 ≤ 0 by omega)
  rw [Int.mul_add, Int.mul_one] at b
  omega
 ·have a : 0 ≤ x / d := Int.ediv_nonneg h (by omega)
  have b : x / d ≤ x := Int.ediv_le_self _ h
  omega
set_option maxHeartbeats 1000000 in
set_option maxRecDepth 100000 in
theorem ref_MulDiv (a b c : Int) (ha : in64 a) (hb : in64 b) (hc : in64 c) (w : World) :
  Calls Tryz.prog 176 #[.int .i64 a, .int .i64 b, .int .i64 c] w fun e w' => e = .returned (refP (mdX a b c)) ∧ Below w.heap.size w w' := by
 unfold refP mdX
 by_cases h : c < 1
 ·rw [if_pos h]
  go_enter Tryz.func176, Tryz.ntmps176
  go_wp2_with fail
  refine bp_ret ⟨?_, ?_, ?_, ?_⟩ rfl; rotate_left
  ·(simp [results, Tryz.results176, go_sem, *]; rfl)
  rotate_left
  ·repeat (first | exact Below.refl _ _ | assumption | (refine Below.alloc ?_ (by first | omega | (simp; done) | (simp; omega) | (simp at *; omega)) _) | (refine Below.setCell ?_ (by first | omega | (simp; done) | (simp; omega) | (simp at *; omega)) _) | (refine Below.trans ?_ (below_drewN _ _ _)) | (refine Below.drew ?_) | (refine Below.trans ?_ (Below.mono (by assumption) (by first | omega | (simp; done) | (simp; omega) | (simp at *; omega)))))
  ·rfl
 ·rw [if_neg h]
  obtain ⟨p0, p1⟩ := mul_in128' ha hb
  have c0 : 0 < c := by omega
  have q := ediv_lim p0 p1 c0
  have h1 := Lib.hid (fun w => ref_Int a ha w)
  have h2 := Lib.hid (fun w => ref_Int b hb w)
  have h3 := Lib.hid (fun w => ref_Mul a b (in64_lim ha).1 (in64_lim ha).2 (in64_lim hb).1 (in64_lim hb).2 w)
  have h4 := Lib.hid (fun w => ref_Int c hc w)
  have c5 := fun w => ref_Div (a * b) c p0 p1 c0 (by have := (in64_lim hc).2; unfold in64 at hc; omega) w
  rw [bigV_open (a * b / c), bigV_open (a * b % c)] at c5
  unfold bigA at c5
  have h5 := Lib.hid c5
  have c6 := fun w => ref_Number (a * b / c) (by omega) (by omega) w
  rw [bigV_open (a * b / c)] at c6
  unfold bigA at c6
  by_cases hq : in64 (a * b / c)
  ·rw [numR_yes hq] at c6
   rw [if_pos hq]
   have h6 := Lib.hid c6
   clear c5 c6 p0 p1 q
   go_enter Tryz.func176, Tryz.ntmps176
   go_wp2_with fail
   refine (h1.out _).mono ?_
   rintro e1 w1 ⟨rfl, hb1⟩
   obtain ⟨hc1, hf1⟩ := bcell hb1
   have hz1 := hb1.size
   try simp at hz1
   go_wp2_with fail
   refine (h2.out _).mono ?_
   rintro e2 w2 ⟨rfl, hb2⟩
   obtain ⟨hc2, hf2⟩ := bcell hb2
   have hz2 := hb2.size
   try simp at hz2
   go_wp2_with fail
   refine (h3.out _).mono ?_
   rintro e3 w3 ⟨rfl, hb3⟩
   obtain ⟨hc3, hf3⟩ := bcell hb3
   have hz3 := hb3.size
   try simp at hz3
   go_wp2_with fail
   refine (h4.out _).mono ?_
   rintro e4 w4 ⟨rfl, hb4⟩
   obtain ⟨hc4, hf4⟩ := bcell hb4
   have hz4 := hb4.size
   try simp at hz4
   go_wp2_with fail
   refine (h5.out _).mono ?_
   rintro e5 w5 ⟨rfl, hb5⟩
   obtain ⟨hc5, hf5⟩ := bcell hb5
   have hz5 := hb5.size
   try simp at hz5
   go_wp2_with fail
   refine (h6.out _).mono ?_
   rintro e6 w6 ⟨rfl, hb6⟩
   obtain ⟨hc6, hf6⟩ := bcell hb6
   have hz6 := hb6.size
   try simp at hz6
   go_wp2_with fail
   refine bp_ret ⟨?_, ?_, ?_, ?_⟩ rfl; rotate_left
   ·(simp [results, Tryz.results176, go_sem, *]; rfl)
   rotate_left
   ·repeat (first | exact Below.refl _ _ | assumption | (refine Below.alloc ?_ (by first | omega | (simp; done) | (simp; omega) | (simp at *; omega)) _) | (refine Below.setCell ?_ (by first | omega | (simp; done) | (simp; omega) | (simp at *; omega)) _) | (refine Below.trans ?_ (below_drewN _ _ _)) | (refine Below.drew ?_) | (refine Below.trans ?_ (Below.mono (by assumption) (by first | omega | (simp; done) | (simp; omega) | (simp at *; omega)))))
   ·rfl
  ·rw [numR_no hq] at c6
   rw [if_neg hq]
   have h6 := Lib.hid c6
   clear c5 c6 p0 p1 q
   go_enter Tryz.func176, Tryz.ntmps176
   go_wp2_with fail
   refine (h1.out _).mono ?_
   rintro e1 w1 ⟨rfl, hb1⟩
   obtain ⟨hc1, hf1⟩ := bcell hb1
   have hz1 := hb1.size
   try simp at hz1
   go_wp2_with fail
   refine (h2.out _).mono ?_
   rintro e2 w2 ⟨rfl, hb2⟩
   obtain ⟨hc2, hf2⟩ := bcell hb2
   have hz2 := hb2.size
   try simp at hz2
   go_wp2_with fail
   refine (h3.out _).mono ?_
   rintro e3 w3 ⟨rfl, hb3⟩
   obtain ⟨hc3, hf3⟩ := bcell hb3
   have hz3 := hb3.size
   try simp at hz3
   go_wp2_with fail
   refine (h4.out _).mono ?_
   rintro e4 w4 ⟨rfl, hb4⟩
   obtain ⟨hc4, hf4⟩ := bcell hb4
   have hz4 := hb4.size
   try simp at hz4
   go_wp2_with fail
   refine (h5.out _).mono ?_
   rintro e5 w5 ⟨rfl, hb5⟩
   obtain ⟨hc5, hf5⟩ := bcell hb5
   have hz5 := hb5.size
   try simp at hz5
   go_wp2_with fail
   refine (h6.out _).mono ?_
   rintro e6 w6 ⟨rfl, hb6⟩
   obtain ⟨hc6, hf6⟩ := bcell hb6
   have hz6 := hb6.size
   try simp at hz6
   go_wp2_with fail
   refine bp_ret ⟨?_, ?_, ?_, ?_⟩ rfl; rotate_left
   ·(simp [results, Tryz.results176, go_sem, *]; rfl)
   rotate_left
   ·repeat (first | exact Below.refl _ _ | assumption | (refine Below.alloc ?_ (by first | omega | (simp; done) | (simp; omega) | (simp at *; omega)) _) | (refine Below.setCell ?_ (by first | omega | (simp; done) | (simp; omega) | (simp at *; omega)) _) | (refine Below.trans ?_ (below_drewN _ _ _)) | (refine Below.drew ?_) | (refine Below.trans ?_ (Below.mono (by assumption) (by first | omega | (simp; done) | (simp; omega) | (simp at *; omega)))))
   ·rfl
theorem ref_MulShift (a m s : Int) (ha : in64 a) (m0 : 0 ≤ m) (m1 : m < 4294967296) (hs : in64 s) (w : World) :
  Calls Tryz.prog 124 #[.int .i64 a, .int .u32 m, .int .i64 s] w fun e w' => e = .returned (refP (msX a m s)) ∧ Below w.heap.size w w' := by
 unfold msX
 by_cases h : s < 0
 ·rw [if_pos (.inl h)]
  go_enter Tryz.func124, Tryz.ntmps124
  go_wp2_with fail
  refine bp_ret ⟨?_, ?_, ?_, ?_⟩ rfl; rotate_left
  ·(simp [results, Tryz.results124, go_sem, *]; rfl)
  rotate_left
  ·repeat (first | exact Below.refl _ _ | assumption | (refine Below.alloc ?_ (by first | omega | (simp; done) | (simp; omega) | (simp at *; omega)) _) | (refine Below.setCell ?_ (by first | omega | (simp; done) | (simp; omega) | (simp at *; omega)) _) | (refine Below.trans ?_ (below_drewN _ _ _)) | (refine Below.drew ?_) | (refine Below.trans ?_ (Below.mono (by assumption) (by first | omega | (simp; done) | (simp; omega) | (simp at *; omega)))))
  ·rfl
 ·by_cases h' : 31 < s
  ·rw [if_pos (.inr h')]
   have h0 : 0 ≤ s := by omega
   clear h
   go_enter Tryz.func124, Tryz.ntmps124
   go_wp2_with fail
   refine bp_ret ⟨?_, ?_, ?_, ?_⟩ rfl; rotate_left
   ·(simp [results, Tryz.results124, go_sem, *]; rfl)
   rotate_left
   ·repeat (first | exact Below.refl _ _ | assumption | (refine Below.alloc ?_ (by first | omega | (simp; done) | (simp; omega) | (simp at *; omega)) _) | (refine Below.setCell ?_ (by first | omega | (simp; done) | (simp; omega) | (simp at *; omega)) _) | (refine Below.trans ?_ (below_drewN _ _ _)) | (refine Below.drew ?_) | (refine Below.trans ?_ (Below.mono (by assumption) (by first | omega | (simp; done) | (simp; omega) | (simp at *; omega)))))
   ·rfl
  ·rw [if_neg (by omega)]
   obtain ⟨n, rfl⟩ : ∃ n : Nat, s = n := ⟨s.toNat, by omega⟩
   have hn : n ≤ 31 := by omega
   have p1 : (2 : Int) ^ n ≤ 2147483648 := by
    rw [natPow]
    have := Nat.pow_le_pow_right (show 0 < 2 by omega) hn
    omega
   have p0 := two_pos n
   have hp : in64 (2 ^ n) := by unfold in64; omega
   have wp : wrap64 (2 ^ n) = 2 ^ n := by unfold wrap64; omega
   have wpH := Lib.hid wp
   have c1 := fun w => ref_MulDiv a m (2 ^ n) ha (by unfold in64; omega) hp w
   rw [Int.toNat_natCast]
   have h1 := Lib.hid c1
   clear c1 h h' wp p0 p1
   generalize mdX a m (2 ^ n) = r at *
   unfold refP at *
   have hn' : (n : Int) ≤ 31 := by omega
   go_enter Tryz.func124, Tryz.ntmps124
   go_wp2_with fail
   rw [wpH.out]
   refine (h1.out _).mono ?_
   rintro e1 w1 ⟨rfl, hb1⟩
   obtain ⟨hc1, hf1⟩ := bcell hb1
   have hz1 := hb1.size
   try simp at hz1
   go_wp2_with fail
   refine bp_ret ⟨?_, ?_, ?_, ?_⟩ rfl; rotate_left
   ·(simp [results, Tryz.results124, go_sem, *]; rfl)
   rotate_left
   ·repeat (first | exact Below.refl _ _ | assumption | (refine Below.alloc ?_ (by first | omega | (simp; done) | (simp; omega) | (simp at *; omega)) _) | (refine Below.setCell ?_ (by first | omega | (simp; done) | (simp; omega) | (simp at *; omega)) _) | (refine Below.trans ?_ (below_drewN _ _ _)) | (refine Below.drew ?_) | (refine Below.trans ?_ (Below.mono (by assumption) (by first | omega | (simp; done) | (simp; omega) | (simp at *; omega)))))
   ·rfl
end Go.Proofs.YthpljlpokmoeeaaGreatDoor
namespace Go.Proofs.YthpljlpokmoeeaaGreatDoor.Mir
open Go Go.RowKit
set_option maxRecDepth 100000
abbrev shE : ShA := .one (.d (.err 129))
def i64B (x : Int) : Bool := decide (-9223372036854775808 ≤ x ∧ x < 9223372036854775808)
theorem i64B_iff {x : Int} : i64B x = true ↔ in64 x := by simp [i64B, in64]
def fitP (s : Int) : Int × Option Int := bif i64B s then (s, none) else (0, some 2)
theorem fitP_rep {g : Gh} (s : Int) : RepV g (retV 2 (encAs 0 [.one (.d (.int .i64)), shE] (fitP s))) (fitI s) := by
 unfold fitP fitI
 by_cases h : in64 s
 ·rw [if_pos h, i64B_iff.2 h]; exact ⟨_, rfl, _, _, rfl, rfl, _, _, rfl, rfl, rfl⟩
 ·rw [if_neg h, Bool.eq_false_iff.2 (fun e => h (i64B_iff.1 e))]; exact ⟨_, rfl, _, _, rfl, rfl, _, _, rfl, rfl, rfl⟩
def mdF (a b c : Int) : Option (TAs [.one (.d (.int .i64)), shE]) := bif i64B a && (i64B b && i64B c) then some (bif decide (c < 1) then (0, some 1) else fitP (a * b / c)) else none
def mdS : Sum := fnSum 3 0 2 [.one (.d (.int .i64)), .one (.d (.int .i64)), .one (.d (.int .i64))] [.one (.d (.int .i64)), shE] (fun p => mdF p.1 p.2.1 p.2.2)
theorem mdS_ok : SumOk Tryz.prog laidL 51 mdS := by
 refine bridge rfl (fun _ => rfl) ?_
 rintro ⟨a, b, c⟩ r h g w vs _ ⟨_, _, rfl, ha, _, _, rfl, hb, _, _, rfl, hc, rfl⟩
 simp only [mdF] at h
 cases hk : (i64B a && (i64B b && i64B c)) with
 | false => rw [hk] at h; cases h
 | true =>
  rw [hk] at h
  obtain rfl := Option.some.inj h
  simp only [Bool.and_eq_true, i64B_iff] at hk
  cases ha; cases hb; cases hc
  refine invokes_of_calls Tryz.func51 (by kernel_rfl) (by kernel_rfl) ((wide_MulDiv a b c hk.1 hk.2.1 hk.2.2 w).mono ?_)
  rintro e w' ⟨rfl, hw⟩
  refine ⟨_, rfl, ?_, hw⟩
  unfold mulDivR
  by_cases h : c < 1
  ·rw [if_pos h, decide_eq_true h]; exact ⟨_, rfl, _, _, rfl, rfl, _, _, rfl, rfl, rfl⟩
  ·rw [if_neg h, decide_eq_false h]; exact fitP_rep _
end Go.Proofs.YthpljlpokmoeeaaGreatDoor.Mir
namespace Go.Proofs.YthpljlpokmoeeaaGreatDoor
open Go.ChangeShapes Go.WideShapes Go.ChangeAt Go.RowKit
def Leaves (R : TypeId → Value → Prop) : List TypeId → List Value → Prop
 | [], [] => True
 | u :: us, c :: cs => R u c ∧ Leaves R us cs
 | _, _ => False
theorem Leaves.length {R : TypeId → Value → Prop} : ∀ {us cs}, Leaves R us cs → us.length = cs.length
 | [], [], _ => rfl
 | _ :: _, _ :: _, h => by simp [Leaves.length h.2]
 | [], _ :: _, h => h.elim
 | _ :: _, [], h => h.elim
theorem Leaves.append {R : TypeId → Value → Prop} : ∀ {a b x y}, Leaves R a x → Leaves R b y → Leaves R (a ++ b) (x ++ y)
 | [], _, [], _, _, h => h
 | _ :: _, _, _ :: _, _, h, k => ⟨h.1, Leaves.append h.2 k⟩
 | [], _, _ :: _, _, h, _ => h.elim
 | _ :: _, _, [], _, h, _ => h.elim
section
variable {H : Type} {enc : TypeId × Value → H} {P : Program} {w : World} {base : Nat} {spare : Nat → Bool} {held : Bool}
def Reads1 (enc : TypeId × Value → H) (P : Program) (w : World) (base : Nat) (spare : Nat → Bool) (held : Bool) (u : TypeId) (c : Value) : Prop :=
 ∃ (m : Nat) (y : DataW H × List MemPlace), DataW.trod enc P w base spare held m u [c] = some y
theorem Reads1.int {u : TypeId} {k : IntKind} {c : Value} (ht : P.underlying u = some (.int k)) (h : Reads1 enc P w base spare held u c) : ∃ n, c = .int k n ∧ (Lit.int k n).wf = true := by
 obtain ⟨m, y, h⟩ := h
 obtain ⟨n, e, _, hw⟩ := DataW.trod_int ht h
 exact ⟨n, (List.cons.inj e).1, hw⟩
theorem Reads1.bool {u : TypeId} {c : Value} (ht : P.underlying u = some .bool) (h : Reads1 enc P w base spare held u c) : ∃ b, c = .bool b := by
 obtain ⟨m, y, h⟩ := h
 obtain ⟨n, e, _⟩ := DataW.trod_bool ht h
 exact ⟨n, (List.cons.inj e).1⟩
theorem Reads1.string {u : TypeId} {c : Value} (ht : P.underlying u = some .string) (h : Reads1 enc P w base spare held u c) : ∃ s : ByteArray, c = .string s ∧ s.size ≤ maxLen := by
 obtain ⟨m, y, h⟩ := h
 obtain ⟨n, e, _, hw⟩ := DataW.trod_string ht h
 exact ⟨n, (List.cons.inj e).1, hw⟩
theorem trodAll_stays (hl : laidOutB P = true) {W W' : World} (hb : Below W.heap.size W W') : ∀ {ts : List TypeId} {vs : List Value} {ds : List (DataW H)} {ps : List MemPlace}, (∀ t ∈ ts, P.readableRec t = true ∧ t < P.types.size) →
  DataW.TrodAll enc P W 0 (fun _ => true) true ts vs ds ps → DataW.TrodAll enc P W' 0 (fun b => decide (b < W.heap.size)) true ts vs ds ps
 | [], [], [], _, _, h => h
 | t :: ts, v :: vs, d :: ds, ps, hr, h => by
  obtain ⟨p, q, h1, h2, e⟩ := h
  have lt : ∀ x ∈ p, x.block < W.heap.size := by obtain ⟨m, hm⟩ := h1; exact DataW.trod_lt m _ _ _ hm
  exact ⟨p, q, Below.trod hl (hr t (List.mem_cons_self ..)).1 (hr t (List.mem_cons_self ..)).2 h1 hb lt, trodAll_stays hl hb (fun u hu => hr u (List.mem_cons_of_mem _ hu)) h2, e⟩
 | [], _ :: _, _, _, _, h => by simp [DataW.TrodAll] at h
 | [], [], _ :: _, _, _, h => by simp [DataW.TrodAll] at h
 | _ :: _, [], _, _, _, h => by simp [DataW.TrodAll] at h
 | _ :: _, _ :: _, [], _, _, h => by simp [DataW.TrodAll] at h
end
theorem Tryz.own : ownKnob Tryz.prog.godebug = none := by kernel_rfl
theorem Tryz.laidOut : laidOutB Tryz.prog = true := by kernel_rfl
theorem Tryz.et : Tryz.prog.globalNamed "errors.errorType" = some 0 := by kernel_rfl
theorem Tryz.rt : (Tryz.prog.cutTypes.find? (·.1 == "internal/reflectlite.rtype")).map (·.2) = some 272 := by kernel_rfl
theorem Tryz.oneRow : ((List.range 383).filter fun t => Tryz.prog.rowNamed t [101, 114, 114, 111, 114]) = [54] := by kernel_rfl
theorem Tryz.size : Tryz.prog.types.size = 383 := by kernel_rfl
def laidL : List (String × DataW Unit) := [("errors.errorType", Rows.laid_errors_errorType)]
theorem laid_of {W : World} (h : laidMetH Tryz.prog laidL W) : LaidW W := by
 have h' : laidMet Tryz.prog [] W ∧ handlesMet Tryz.prog laidL W := h
 obtain ⟨name, u, ty, e1, e2, e3, e4, e5⟩ := h'.2 _ (List.mem_singleton.2 rfl)
 have en : name = [101, 114, 114, 111, 114] := (Option.some.inj e1).symm
 subst en
 obtain rfl := Option.some.inj (Tryz.rt.symm.trans e2)
 have hm : ty ∈ (List.range 383).filter fun t => Tryz.prog.rowNamed t [101, 114, 114, 111, 114] := List.mem_filter.2 ⟨List.mem_range.2 (by rw [← Tryz.size]; exact e3), e4⟩
 rw [Tryz.oneRow] at hm
 obtain rfl := List.mem_singleton.1 hm
 have hh : typeHandle Tryz.prog 54 = .pointer (some ⟨6, 54, none⟩) := by kernel_rfl
 rw [hh] at e5
 have := World.var?_cell Tryz.et e5 0
 unfold LaidW
 simpa using this
noncomputable def laidWorld (os : Os) : World :=
 let w0 := World.holding Tryz.prog os ⟨#[], #[], []⟩
 { w0 with heap := w0.heap.modify 0 fun
   | .cells _ t frozen => .cells #[.iface 272 (.agg #[.pointer (some ⟨6, 54, none⟩)])] t frozen
   | o => o }
end Go.Proofs.YthpljlpokmoeeaaGreatDoor
namespace Go.Proofs.YthpljlpokmoeeaaGreatDoor
open Go.ChangeShapes Go.WideShapes Go.ChangeAt Go.RowKit
def laidU : List (String × DataW Unit) := [("unicode/utf8.acceptRanges", Rows.laid_unicode_utf8_acceptRanges), ("errors.errorType", Rows.laid_errors_errorType), ("unicode/utf8.first", Rows.laid_unicode_utf8_first)]
def laidD : List (String × DataW Unit) := [("unicode/utf8.acceptRanges", Rows.laid_unicode_utf8_acceptRanges), ("unicode/utf8.first", Rows.laid_unicode_utf8_first)]
theorem laidU_of {W : World} (h : laidMetH Tryz.prog laidU W) : laidMetH Tryz.prog laidL W := h.filter fun x => x.1 == "errors.errorType"
noncomputable def laidWorldU (os : Os) : World := (laidWorld os).layVars Tryz.prog laidD
theorem laidWorldU_met (os : Os) (args : Array Value) : laidMetH Tryz.prog laidU ((laidWorldU os).forCall (fun _ _ => 0) ⟨#[], args, []⟩).memory :=
 laidMetH_of_parts (laidMet_layVars (w0 := laidWorld os) ["unicode/utf8.acceptRanges", "unicode/utf8.first"] [] (by show _ = ((laidWorld os).layVars Tryz.prog laidD).heap; simp [World.memory, World.forCall, Input.heap]; rfl) (by kernel_rfl) (by kernel_rfl) LaidIn.none) (by kernel_rfl)
end Go.Proofs.YthpljlpokmoeeaaGreatDoor
