/- The statement MessageBack of the given program: for every input the law answers true, and its arguments read as before. Its one listed variable (errors.errorType) is tied to the program's text by the given tie. -/
import Derived.Test.YtihignmcjldiiaaGreatDoorKmbg
import Derived.Test.YtihignmcjldiiaaGreatDoorKx184637
import Derived.Test.YtihignmcjldiiaaGreatDoorKx74c5aa
import Derived.Test.YtihignmcjldiiaaGreatDoorTie
import Derived.Test.YtihignmcjldiiaaGreatDoorCards
import Derived.SevenTiedAt
namespace Go.Proofs.YtihignmcjldiiaaGreatDoor.Mir
open Go Go.RowKit
set_option maxRecDepth 100000
theorem pencD_ok {k b a q w c : Int} {j : Bool} {n : ByteArray} {f : Int} {L : List Rul} (h : mayP k b a q w c n f L = true) : (pencD k b a q w c j n f L).2 = none ∧ (pencD k b a q w c j n f L).1.length ≤ 1100 ∧ By (pencD k b a q w c j n f L).1 := by
  have hz : mayZ n f L = true := by simp only [mayP, Bool.and_eq_true] at h; exact h.2.2.2
  have ho := mayZ_ok hz
  obtain ⟨_, _, z3⟩ := zencD_ok hz
  have hl : (zencD n f L).1.length ≤ 959 := by
    have h0 := rulesB_len (L := L) (fun r hr => (ho.rule r hr).1)
    have h1 := ho.nm
    have h2 := ho.len
    have h3 : (zoneB n f L).length ≤ 950 := by simp only [zoneB, List.length_append, le_len, bytesL_len]; omega
    unfold zencD sealD
    rw [if_pos hz, if_pos (by decide), if_neg (by omega)]
    rw [sealedL_len]
    simp [headL, le_len]; omega
  unfold pencD
  rw [if_pos h]
  generalize (zencD n f L).1 = z at z3 hl
  unfold sealD
  rw [if_pos (by decide), if_neg (by rw [polB_len]; omega)]
  refine ⟨rfl, ?_, sealedL_by ((headL_by (by decide) (by decide) _).append (polB_by z3))⟩
  rw [sealedL_len, List.length_append, polB_len]
  simp [headL, le_len]; omega
structure TKey (t : TenT) : Prop where
  len : (t.2.1).length = 16
  by_ : By (t.2.1)
def packB (t : TenT) : List Int := le 1 ((t.1).size : Int) ++ bytesL (t.1) ++ (t.2.1) ++ le 8 (IntKind.u64.wrap (t.2.2.2.2.2.2.2.2.2.2.2.2.2.2.2.2.2)) ++ [flagI (t.2.2.2.2.2.2.2.2.2.2.2.2.1)] ++ le 8 (IntKind.u64.wrap (t.2.2.2.2.2.2.2.2.2.2.2.2.2.1)) ++ le 8 (IntKind.u64.wrap (t.2.2.2.2.2.2.2.2.2.2.2.2.2.2.1)) ++ [flagI (t.2.2.2.2.2.2.2.2.2.2.2.2.2.2.2.1)] ++ le 8 (IntKind.u64.wrap (t.2.2.2.2.2.2.2.2.2.2.2.2.2.2.2.2.1)) ++ (pencD t.2.2.1 t.2.2.2.1 t.2.2.2.2.1 t.2.2.2.2.2.1 t.2.2.2.2.2.2.1 t.2.2.2.2.2.2.2.1 t.2.2.2.2.2.2.2.2.1 t.2.2.2.2.2.2.2.2.2.1 t.2.2.2.2.2.2.2.2.2.2.1 t.2.2.2.2.2.2.2.2.2.2.2.1).1
def packD (t : TenT) : List Int × Option Int := if hereB t = true then (packB t, none) else ([], some 1)
theorem hereB_ok {t : TenT} (h : hereB t = true) : (t.1).size ≤ 12 ∧ (t.2.2.2.2.2.2.2.2.2.2.2.1).length ≤ 16 ∧ mayP t.2.2.1 t.2.2.2.1 t.2.2.2.2.1 t.2.2.2.2.2.1 t.2.2.2.2.2.2.1 t.2.2.2.2.2.2.2.1 t.2.2.2.2.2.2.2.2.2.1 t.2.2.2.2.2.2.2.2.2.2.1 t.2.2.2.2.2.2.2.2.2.2.2.1 = true := by
  simp only [hereB, mayTT, mayT, nameT, Bool.and_eq_true, decide_eq_true_eq] at h
  exact ⟨h.1.1.2.1, by omega, h.1.2.1⟩
theorem flag_by (j : Bool) : By [flagI j] := By.cons (by cases j <;> decide) By.nil
theorem packB_by {t : TenT} (hk : TKey t) (h : hereB t = true) : By (packB t) :=
  (((((((((le_by _ _).append (bytesL_by _)).append hk.by_).append (le_by _ _)).append (flag_by _)).append (le_by _ _)).append (le_by _ _)).append (flag_by _)).append (le_by _ _)).append (pencD_ok (hereB_ok h).2.2).2.2
theorem packB_len {t : TenT} (hk : TKey t) (h : hereB t = true) : (packB t).length ≤ 1200 := by
  obtain ⟨h1, _, h3⟩ := hereB_ok h
  have h4 := (pencD_ok (j := t.2.2.2.2.2.2.2.2.1) h3).2.1
  have h5 := hk.len
  simp only [packB, List.length_append, le_len, bytesL_len, List.length_cons, List.length_nil]
  omega
theorem mflag_at (N : Nat) (j : Bool) : f_48 N j = some (flagI j) := by cases j <;> rfl
theorem rmbit_at (N : Nat) (j : Bool) : f_51 N j = some (flagI j) := by cases j <;> rfl
theorem mpack_at {N : Nat} (hN : 3000 ≤ N) {t : TenT} (h : TFit t) (hk : TKey t) : f_15 N t.1 t.2.1 t.2.2.1 t.2.2.2.1 t.2.2.2.2.1 t.2.2.2.2.2.1 t.2.2.2.2.2.2.1 t.2.2.2.2.2.2.2.1 t.2.2.2.2.2.2.2.2.1 t.2.2.2.2.2.2.2.2.2.1 t.2.2.2.2.2.2.2.2.2.2.1 t.2.2.2.2.2.2.2.2.2.2.2.1 t.2.2.2.2.2.2.2.2.2.2.2.2.1 t.2.2.2.2.2.2.2.2.2.2.2.2.2.1 t.2.2.2.2.2.2.2.2.2.2.2.2.2.2.1 t.2.2.2.2.2.2.2.2.2.2.2.2.2.2.2.1 t.2.2.2.2.2.2.2.2.2.2.2.2.2.2.2.2.1 t.2.2.2.2.2.2.2.2.2.2.2.2.2.2.2.2.2 = some (packD t) := by
  unfold f_15 packD
  rw [mhere_at hN h]
  simp only [Option.bind_some]
  cases hh : hereB t with
  | false => rfl
  | true =>
    obtain ⟨h1, h2, h3⟩ := hereB_ok hh
    obtain ⟨p1, p2, p3⟩ := pencD_ok (j := t.2.2.2.2.2.2.2.2.1) h3
    have hkl := hk.len
    simp only [Bool.not_true, cond_false, if_true]
    rw [ftext_at (by omega) (by simp), if_neg (by omega)]
    simp only [Option.bind_some, Option.isNone_none, Bool.not_true, cond_false]
    rw [penc_at hN t.2.2.1 t.2.2.2.1 t.2.2.2.2.1 t.2.2.2.2.2.1 t.2.2.2.2.2.2.1 t.2.2.2.2.2.2.2.1 t.2.2.2.2.2.2.2.2.1 (by omega)]
    simp only [Option.bind_some]
    rw [p1]
    simp only [Option.isNone_none, Bool.not_true, cond_false, List.drop_zero]
    rw [List.take_of_length_le (show (t.2.1).length ≤ 16 by omega)]
    have hlB : ([] ++ le 1 ((t.1).size : Int) ++ bytesL (t.1)).length = (t.1).size + 1 := by simp [le_len, bytesL_len]; omega
    have ee : ([] ++ le 1 ((t.1).size : Int) ++ bytesL (t.1)) ++ (t.2.1) ++ le 8 (IntKind.u64.wrap (t.2.2.2.2.2.2.2.2.2.2.2.2.2.2.2.2.2)) ++ [flagI (t.2.2.2.2.2.2.2.2.2.2.2.2.1)] ++ le 8 (IntKind.u64.wrap (t.2.2.2.2.2.2.2.2.2.2.2.2.2.1)) ++ le 8 (IntKind.u64.wrap (t.2.2.2.2.2.2.2.2.2.2.2.2.2.2.1)) ++ [flagI (t.2.2.2.2.2.2.2.2.2.2.2.2.2.2.2.1)] ++ le 8 (IntKind.u64.wrap (t.2.2.2.2.2.2.2.2.2.2.2.2.2.2.2.2.1)) ++ (pencD t.2.2.1 t.2.2.2.1 t.2.2.2.2.1 t.2.2.2.2.2.1 t.2.2.2.2.2.2.1 t.2.2.2.2.2.2.2.1 t.2.2.2.2.2.2.2.2.1 t.2.2.2.2.2.2.2.2.2.1 t.2.2.2.2.2.2.2.2.2.2.1 t.2.2.2.2.2.2.2.2.2.2.2.1).1 = packB t := by simp [packB]
    rw [← ee]
    generalize (pencD t.2.2.1 t.2.2.2.1 t.2.2.2.2.1 t.2.2.2.2.2.1 t.2.2.2.2.2.2.1 t.2.2.2.2.2.2.2.1 t.2.2.2.2.2.2.2.2.1 t.2.2.2.2.2.2.2.2.2.1 t.2.2.2.2.2.2.2.2.2.2.1 t.2.2.2.2.2.2.2.2.2.2.2.1).1 = Q at p2
    generalize ([] : List Int) ++ le 1 ((t.1).size : Int) ++ bytesL (t.1) = B at hlB
    rw [decide_eq_true (show (B.length + (t.2.1).length) * 1 ≤ 140737488355328 by omega)]
    simp only [cond_true]
    rw [pi64_at (by omega) (by rw [List.length_append]; omega)]
    simp only [Option.bind_some]
    rw [mflag_at, mflag_at]
    simp only [Option.bind_some]
    have hl2 : (B ++ (t.2.1) ++ le 8 (IntKind.u64.wrap (t.2.2.2.2.2.2.2.2.2.2.2.2.2.2.2.2.2))).length ≤ 1000 := by simp only [List.length_append, le_len]; omega
    generalize B ++ (t.2.1) ++ le 8 (IntKind.u64.wrap (t.2.2.2.2.2.2.2.2.2.2.2.2.2.2.2.2.2)) = B2 at hl2
    rw [decide_eq_true (show (B2.length + ([flagI (t.2.2.2.2.2.2.2.2.2.2.2.2.1)] : List Int).length) * 1 ≤ 140737488355328 by simp; omega)]
    simp only [cond_true]
    rw [pi64_at (by omega) (by simp; omega)]
    simp only [Option.bind_some]
    rw [pi64_at (by omega) (by simp [le_len]; omega)]
    simp only [Option.bind_some]
    have hl3 : (B2 ++ [flagI (t.2.2.2.2.2.2.2.2.2.2.2.2.1)] ++ le 8 (IntKind.u64.wrap (t.2.2.2.2.2.2.2.2.2.2.2.2.2.1)) ++ le 8 (IntKind.u64.wrap (t.2.2.2.2.2.2.2.2.2.2.2.2.2.2.1))).length ≤ 1100 := by simp only [List.length_append, le_len, List.length_cons, List.length_nil]; omega
    generalize B2 ++ [flagI (t.2.2.2.2.2.2.2.2.2.2.2.2.1)] ++ le 8 (IntKind.u64.wrap (t.2.2.2.2.2.2.2.2.2.2.2.2.2.1)) ++ le 8 (IntKind.u64.wrap (t.2.2.2.2.2.2.2.2.2.2.2.2.2.2.1)) = B3 at hl3
    rw [decide_eq_true (show (B3.length + ([flagI (t.2.2.2.2.2.2.2.2.2.2.2.2.2.2.2.1)] : List Int).length) * 1 ≤ 140737488355328 by simp; omega)]
    simp only [cond_true]
    rw [pi64_at (by omega) (by simp; omega)]
    simp only [Option.bind_some]
    rw [decide_eq_true (show ((B3 ++ [flagI (t.2.2.2.2.2.2.2.2.2.2.2.2.2.2.2.1)] ++ le 8 (IntKind.u64.wrap (t.2.2.2.2.2.2.2.2.2.2.2.2.2.2.2.2.1))).length + Q.length) * 1 ≤ 140737488355328 by simp only [List.length_append, le_len, List.length_cons, List.length_nil]; omega)]
    rfl
theorem rmpack_loop {N : Nat} (t : TenT) (hk : (t.2.1).length = 16) : ∀ (k M i : Nat) (b : List Int), i + k = 16 → k < M → b.length + k ≤ 1000 →
    iter (b_17_0 N) M ((), b, (i : Int), t) = some ((), b ++ (t.2.1).drop i, t) := by
  obtain ⟨t1, key, t3, t4, t5, t6, t7, t8, t9, t10, t11, t12, t13, t14, t15, t16, t17, t18⟩ := t
  simp only at hk ⊢
  intro k
  induction k with
  | zero =>
    intro M i b hi hM hb
    obtain ⟨M, rfl⟩ : ∃ m, M = m + 1 := ⟨M - 1, by omega⟩
    show b_17_0 N (iter (b_17_0 N) M) _ = _
    generalize iter (b_17_0 N) M = T
    unfold b_17_0
    simp only
    rw [decide_eq_false (show ¬ (i : Int) < 16 by omega), List.drop_eq_nil_of_le (by omega)]
    simp
  | succ k ih =>
    intro M i b hi hM hb
    obtain ⟨M, rfl⟩ : ∃ m, M = m + 1 := ⟨M - 1, by omega⟩
    have h1 : i < key.length := by omega
    have kk := ih M (i + 1) (b ++ [key[i]]) (by omega) (by omega) (by simp; omega)
    show b_17_0 N (iter (b_17_0 N) M) _ = _
    generalize iter (b_17_0 N) M = T at kk ⊢
    have g1 : key.getD (Int.toNat (i : Int)) 0 = key[i] := by rw [Int.toNat_natCast, List.getD_eq_getElem?_getD, List.getElem?_eq_getElem h1]; rfl
    unfold b_17_0
    simp only
    rw [decide_eq_true (show (i : Int) < 16 by omega), decide_eq_true (show 0 ≤ (i : Int) ∧ (i : Int) < 16 by omega), g1, decide_eq_true (show (b.length + ([key[i]] : List Int).length) * 1 ≤ 140737488355328 by simp; omega)]
    simp only [cond_true]
    rw [wi64 (by omega) (by omega), show (i : Int) + 1 = ((i + 1 : Nat) : Int) by omega, kk, List.drop_eq_getElem_cons h1, List.append_assoc]
    rfl
theorem put_flag {N : Nat} {b : List Int} (j : Bool) (hN : 10 ≤ N) (hb : b.length ≤ 1000000) : f_35 N b (flagI j) 1 = some (b ++ [flagI j]) := by
  have h := put_at (N := N) (b := b) (v := flagI j) (n := 1) hN hb (by cases j <;> decide) (by cases j <;> decide) (by omega)
  have e : le 1 (flagI j) = [flagI j] := by cases j <;> rfl
  rw [e] at h
  exact h
theorem rmpack_at {N : Nat} (hN : 3000 ≤ N) {t : TenT} (h : TFit t) (hk : TKey t) : f_17 N t.1 t.2.1 t.2.2.1 t.2.2.2.1 t.2.2.2.2.1 t.2.2.2.2.2.1 t.2.2.2.2.2.2.1 t.2.2.2.2.2.2.2.1 t.2.2.2.2.2.2.2.2.1 t.2.2.2.2.2.2.2.2.2.1 t.2.2.2.2.2.2.2.2.2.2.1 t.2.2.2.2.2.2.2.2.2.2.2.1 t.2.2.2.2.2.2.2.2.2.2.2.2.1 t.2.2.2.2.2.2.2.2.2.2.2.2.2.1 t.2.2.2.2.2.2.2.2.2.2.2.2.2.2.1 t.2.2.2.2.2.2.2.2.2.2.2.2.2.2.2.1 t.2.2.2.2.2.2.2.2.2.2.2.2.2.2.2.2.1 t.2.2.2.2.2.2.2.2.2.2.2.2.2.2.2.2.2 = some ((packD t).1, errN (packD t).2) := by
  unfold f_17 packD
  rw [rmhere_at hN h]
  simp only [Option.bind_some]
  cases hh : hereB t with
  | false => rfl
  | true =>
    obtain ⟨h1, h2, h3⟩ := hereB_ok hh
    have hz : mayZ t.2.2.2.2.2.2.2.2.2.1 t.2.2.2.2.2.2.2.2.2.2.1 t.2.2.2.2.2.2.2.2.2.2.2.1 = true := by simp only [mayP, Bool.and_eq_true] at h3; exact h3.2.2.2
    have hzo := mayZ_ok hz
    obtain ⟨p1, p2, p3⟩ := pencD_ok (j := t.2.2.2.2.2.2.2.2.1) h3
    have hkl := hk.len
    simp only [Bool.not_true, cond_false, if_true]
    rw [rtext_at (by omega) (by simp), if_neg (by omega)]
    simp only [Option.bind_some]
    have hlB : ([] ++ le 1 ((t.1).size : Int) ++ bytesL (t.1)).length = (t.1).size + 1 := by simp [le_len, bytesL_len]; omega
    have hlp := rmpack_loop (N := N) t hkl 16 N 0 ([] ++ le 1 ((t.1).size : Int) ++ bytesL (t.1)) rfl (by omega) (by omega)
    rw [show ((0 : Nat) : Int) = 0 from rfl, List.drop_zero] at hlp
    unfold l_17_0
    rw [show iter (b_17_0 N) N ((), ([] ++ le 1 ((t.1).size : Int) ++ bytesL (t.1)), 0, (t.1, t.2.1, t.2.2.1, t.2.2.2.1, t.2.2.2.2.1, t.2.2.2.2.2.1, t.2.2.2.2.2.2.1, t.2.2.2.2.2.2.2.1, t.2.2.2.2.2.2.2.2.1, t.2.2.2.2.2.2.2.2.2.1, t.2.2.2.2.2.2.2.2.2.2.1, t.2.2.2.2.2.2.2.2.2.2.2.1, t.2.2.2.2.2.2.2.2.2.2.2.2.1, t.2.2.2.2.2.2.2.2.2.2.2.2.2.1, t.2.2.2.2.2.2.2.2.2.2.2.2.2.2.1, t.2.2.2.2.2.2.2.2.2.2.2.2.2.2.2.1, t.2.2.2.2.2.2.2.2.2.2.2.2.2.2.2.2.1, t.2.2.2.2.2.2.2.2.2.2.2.2.2.2.2.2.2)) = _ from hlp]
    simp only [Option.bind_some]
    have ee : ([] ++ le 1 ((t.1).size : Int) ++ bytesL (t.1)) ++ (t.2.1) ++ le 8 (IntKind.u64.wrap (t.2.2.2.2.2.2.2.2.2.2.2.2.2.2.2.2.2)) ++ [flagI (t.2.2.2.2.2.2.2.2.2.2.2.2.1)] ++ le 8 (IntKind.u64.wrap (t.2.2.2.2.2.2.2.2.2.2.2.2.2.1)) ++ le 8 (IntKind.u64.wrap (t.2.2.2.2.2.2.2.2.2.2.2.2.2.2.1)) ++ [flagI (t.2.2.2.2.2.2.2.2.2.2.2.2.2.2.2.1)] ++ le 8 (IntKind.u64.wrap (t.2.2.2.2.2.2.2.2.2.2.2.2.2.2.2.2.1)) ++ (pencD t.2.2.1 t.2.2.2.1 t.2.2.2.2.1 t.2.2.2.2.2.1 t.2.2.2.2.2.2.1 t.2.2.2.2.2.2.2.1 t.2.2.2.2.2.2.2.2.1 t.2.2.2.2.2.2.2.2.2.1 t.2.2.2.2.2.2.2.2.2.2.1 t.2.2.2.2.2.2.2.2.2.2.2.1).1 = packB t := by simp [packB]
    rw [← ee]
    generalize ([] : List Int) ++ le 1 ((t.1).size : Int) ++ bytesL (t.1) = B at hlB
    have hlB1 : (B ++ (t.2.1)).length ≤ 100 := by rw [List.length_append]; omega
    generalize B ++ (t.2.1) = B1 at hlB1
    rw [show f_35 N B1 (IntKind.u64.wrap (t.2.2.2.2.2.2.2.2.2.2.2.2.2.2.2.2.2)) 8 = _ from putn 8 (by omega) (by omega) (by omega)]
    simp only [Option.bind_some]
    rw [rmbit_at, rmbit_at]
    simp only [Option.bind_some]
    rw [put_flag (t.2.2.2.2.2.2.2.2.2.2.2.2.1) (by omega) (by simp [le_len]; omega)]
    simp only [Option.bind_some]
    rw [show f_35 N (B1 ++ le 8 (IntKind.u64.wrap (t.2.2.2.2.2.2.2.2.2.2.2.2.2.2.2.2.2)) ++ [flagI (t.2.2.2.2.2.2.2.2.2.2.2.2.1)]) (IntKind.u64.wrap (t.2.2.2.2.2.2.2.2.2.2.2.2.2.1)) 8 = _ from putn 8 (by omega) (by simp [le_len]; omega) (by omega)]
    simp only [Option.bind_some]
    have hl3 : (B1 ++ le 8 (IntKind.u64.wrap (t.2.2.2.2.2.2.2.2.2.2.2.2.2.2.2.2.2)) ++ [flagI (t.2.2.2.2.2.2.2.2.2.2.2.2.1)] ++ le 8 (IntKind.u64.wrap (t.2.2.2.2.2.2.2.2.2.2.2.2.2.1))).length ≤ 200 := by simp only [List.length_append, le_len, List.length_cons, List.length_nil]; omega
    generalize B1 ++ le 8 (IntKind.u64.wrap (t.2.2.2.2.2.2.2.2.2.2.2.2.2.2.2.2.2)) ++ [flagI (t.2.2.2.2.2.2.2.2.2.2.2.2.1)] ++ le 8 (IntKind.u64.wrap (t.2.2.2.2.2.2.2.2.2.2.2.2.2.1)) = B3 at hl3
    rw [show f_35 N B3 (IntKind.u64.wrap (t.2.2.2.2.2.2.2.2.2.2.2.2.2.2.1)) 8 = _ from putn 8 (by omega) (by omega) (by omega)]
    simp only [Option.bind_some]
    rw [put_flag (t.2.2.2.2.2.2.2.2.2.2.2.2.2.2.2.1) (by omega) (by simp [le_len]; omega)]
    simp only [Option.bind_some]
    rw [show f_35 N (B3 ++ le 8 (IntKind.u64.wrap (t.2.2.2.2.2.2.2.2.2.2.2.2.2.2.1)) ++ [flagI (t.2.2.2.2.2.2.2.2.2.2.2.2.2.2.2.1)]) (IntKind.u64.wrap (t.2.2.2.2.2.2.2.2.2.2.2.2.2.2.2.2.1)) 8 = _ from putn 8 (by omega) (by simp [le_len]; omega) (by omega)]
    simp only [Option.bind_some]
    rw [rpenc_at hN t.2.2.1 t.2.2.2.1 t.2.2.2.2.1 t.2.2.2.2.2.1 t.2.2.2.2.2.2.1 t.2.2.2.2.2.2.2.1 t.2.2.2.2.2.2.2.2.1 (by omega) (by have := (nameB_size (by simp only [mayZ, Bool.and_eq_true] at hz; exact hz.1)).2; omega) (fun i hi => by have := (hzo.rule _ (gR_mem hi)).1; omega)]
    simp only [Option.bind_some]
    generalize (pencD t.2.2.1 t.2.2.2.1 t.2.2.2.2.1 t.2.2.2.2.2.1 t.2.2.2.2.2.2.1 t.2.2.2.2.2.2.2.1 t.2.2.2.2.2.2.2.2.1 t.2.2.2.2.2.2.2.2.2.1 t.2.2.2.2.2.2.2.2.2.2.1 t.2.2.2.2.2.2.2.2.2.2.2.1).1 = Q at p2
    rw [decide_eq_true (show ((B3 ++ le 8 (IntKind.u64.wrap (t.2.2.2.2.2.2.2.2.2.2.2.2.2.2.1)) ++ [flagI (t.2.2.2.2.2.2.2.2.2.2.2.2.2.2.2.1)] ++ le 8 (IntKind.u64.wrap (t.2.2.2.2.2.2.2.2.2.2.2.2.2.2.2.2.1))).length + Q.length) * 1 ≤ 140737488355328 by simp only [List.length_append, le_len, List.length_cons, List.length_nil]; omega)]
    rfl
end Go.Proofs.YtihignmcjldiiaaGreatDoor.Mir
namespace Go.Proofs.YtihignmcjldiiaaGreatDoor.Mir
open Go Go.RowKit
set_option maxRecDepth 100000
def msgB (kd ep : Int) (nm : ByteArray) (t : TenT) : List Int := ([kd] ++ le 8 (IntKind.u64.wrap ep)) ++ le 1 (nm.size : Int) ++ bytesL nm ++ (bif kd == 1 then packB t else [])
def mencD (kd ep : Int) (nm : ByteArray) (t : TenT) : List Int × Option Int := if mayM kd ep nm t = true then sealD 2 (msgB kd ep nm t) else ([], some 1)
structure MOk (kd ep : Int) (nm : ByteArray) (t : TenT) : Prop where
  hkd : 1 ≤ kd ∧ kd ≤ 4
  hep : 0 ≤ ep ∧ ep ≤ 1099511627776
  hnm : 1 ≤ nm.size ∧ nm.size ≤ 12
  hhe : kd = 1 → hereB t = true ∧ (t.1).toList = nm.toList ∧ (t.2.2.2.2.2.2.2.2.2.2.2.2.2.2.2.2.2) = ep
  hno : kd ≠ 1 → alikeB t ten0 = true
theorem mayM_ok {kd ep : Int} {nm : ByteArray} {t : TenT} (h : mayM kd ep nm t = true) : MOk kd ep nm t := by
  simp only [mayM, Bool.and_eq_true, Bool.not_eq_true', decide_eq_false_iff_not, nameT, decide_eq_true_eq] at h
  obtain ⟨h1, h2, h3, h4, ⟨h5, h6, _⟩, h7⟩ := h
  refine ⟨by omega, by omega, ⟨h5, h6⟩, fun e => ?_, fun e => ?_⟩
  · rw [show (kd == 1) = true by simpa using e] at h7
    simp only [cond_true, Bool.and_eq_true, beq_iff_eq] at h7
    exact ⟨h7.1, h7.2.1, h7.2.2⟩
  · rw [show (kd == 1) = false by simpa using e] at h7
    exact h7
theorem msgB_by {kd ep : Int} {nm : ByteArray} {t : TenT} (hk : TKey t) (h : mayM kd ep nm t = true) : By (msgB kd ep nm t) := by
  have ho := mayM_ok h
  refine ((((By.cons (by have := ho.hkd; omega) By.nil).append (le_by _ _)).append (le_by _ _)).append (bytesL_by _)).append ?_
  by_cases e : kd = 1
  · rw [show (kd == 1) = true by simpa using e]
    exact packB_by hk (ho.hhe e).1
  · rw [show (kd == 1) = false by simpa using e]
    exact By.nil
theorem menc_at {N : Nat} (hN : 3000 ≤ N) (kd ep : Int) (nm : ByteArray) {t : TenT} (h : TFit t) (hk : TKey t) : f_9 N kd ep nm t.1 t.2.1 t.2.2.1 t.2.2.2.1 t.2.2.2.2.1 t.2.2.2.2.2.1 t.2.2.2.2.2.2.1 t.2.2.2.2.2.2.2.1 t.2.2.2.2.2.2.2.2.1 t.2.2.2.2.2.2.2.2.2.1 t.2.2.2.2.2.2.2.2.2.2.1 t.2.2.2.2.2.2.2.2.2.2.2.1 t.2.2.2.2.2.2.2.2.2.2.2.2.1 t.2.2.2.2.2.2.2.2.2.2.2.2.2.1 t.2.2.2.2.2.2.2.2.2.2.2.2.2.2.1 t.2.2.2.2.2.2.2.2.2.2.2.2.2.2.2.1 t.2.2.2.2.2.2.2.2.2.2.2.2.2.2.2.2.1 t.2.2.2.2.2.2.2.2.2.2.2.2.2.2.2.2.2 = some (mencD kd ep nm t) := by
  unfold f_9 mencD
  rw [mchk_at hN kd ep nm h]
  simp only [Option.bind_some]
  cases hm : mayM kd ep nm t with
  | false => rfl
  | true =>
    have ho := mayM_ok hm
    have hby := msgB_by hk hm
    have hns := ho.hnm
    simp only [cond_true, Option.isNone_none, Bool.not_true, cond_false, if_true]
    rw [pi64_at (by omega) (by simp)]
    simp only [Option.bind_some]
    rw [ftext_at (by omega) (by simp [le_len]), if_neg (by omega)]
    simp only [Option.bind_some, Option.isNone_none, Bool.not_true, cond_false]
    by_cases e : kd = 1
    · have hh := (ho.hhe e).1
      have hpl := packB_len hk hh
      unfold msgB at hby ⊢
      rw [show (kd == 1) = true by simpa using e] at hby ⊢
      simp only [cond_true] at hby ⊢
      rw [mpack_at hN h hk]
      unfold packD
      rw [if_pos hh]
      simp only [Option.bind_some, Option.isNone_none, Bool.not_true, cond_false]
      rw [concat_at (by omega) (by simp [le_len, bytesL_len]; omega) (by omega)]
      simp only [Option.bind_some]
      rw [bseal_at hby (by omega)]
      rfl
    · unfold msgB at hby ⊢
      rw [show (kd == 1) = false by simpa using e] at hby ⊢
      simp only [cond_false, List.append_nil] at hby ⊢
      rw [bseal_at hby (by omega)]
      rfl
theorem rmenc_at {N : Nat} (hN : 3000 ≤ N) (kd : Int) {ep : Int} {nm : ByteArray} (hn : nm.size ≤ 1000) {t : TenT} (h : TFit t) (hk : TKey t) : f_12 N kd ep nm t.1 t.2.1 t.2.2.1 t.2.2.2.1 t.2.2.2.2.1 t.2.2.2.2.2.1 t.2.2.2.2.2.2.1 t.2.2.2.2.2.2.2.1 t.2.2.2.2.2.2.2.2.1 t.2.2.2.2.2.2.2.2.2.1 t.2.2.2.2.2.2.2.2.2.2.1 t.2.2.2.2.2.2.2.2.2.2.2.1 t.2.2.2.2.2.2.2.2.2.2.2.2.1 t.2.2.2.2.2.2.2.2.2.2.2.2.2.1 t.2.2.2.2.2.2.2.2.2.2.2.2.2.2.1 t.2.2.2.2.2.2.2.2.2.2.2.2.2.2.2.1 t.2.2.2.2.2.2.2.2.2.2.2.2.2.2.2.2.1 t.2.2.2.2.2.2.2.2.2.2.2.2.2.2.2.2.2 = some ((mencD kd ep nm t).1, errN (mencD kd ep nm t).2) := by
  unfold f_12 mencD
  rw [rmmay_at hN kd ep hn h]
  simp only [Option.bind_some]
  cases hm : mayM kd ep nm t with
  | false => rfl
  | true =>
    have ho := mayM_ok hm
    have hby := msgB_by hk hm
    have hns := ho.hnm
    simp only [Bool.not_true, cond_false, if_true]
    rw [show f_35 N [kd] (IntKind.u64.wrap ep) 8 = _ from putn 8 (by omega) (by simp) (by omega)]
    simp only [Option.bind_some]
    rw [rtext_at (by omega) (by simp [le_len]), if_neg (by omega)]
    simp only [Option.bind_some]
    by_cases e : kd = 1
    · have hh := (ho.hhe e).1
      have hpl := packB_len hk hh
      unfold msgB at hby ⊢
      rw [show (kd == 1) = true by simpa using e] at hby ⊢
      simp only [cond_true] at hby ⊢
      rw [rmpack_at hN h hk]
      unfold packD
      rw [if_pos hh]
      simp only [Option.bind_some]
      rw [decide_eq_true (show (([kd] ++ le 8 (IntKind.u64.wrap ep) ++ le 1 (nm.size : Int) ++ bytesL nm).length + (packB t).length) * 1 ≤ 140737488355328 by simp [le_len, bytesL_len]; omega)]
      simp only [cond_true]
      rw [rbseal_at hby (by omega)]
      rfl
    · unfold msgB at hby ⊢
      rw [show (kd == 1) = false by simpa using e] at hby ⊢
      simp only [cond_false, List.append_nil] at hby ⊢
      rw [rbseal_at hby (by omega)]
      rfl
end Go.Proofs.YtihignmcjldiiaaGreatDoor.Mir
namespace Go.Proofs.YtihignmcjldiiaaGreatDoor.Mir
open Go Go.RowKit
set_option maxRecDepth 100000
def rdKey : Nat → RdSt → List Int × RdSt
  | 0, s => ([], s)
  | k + 1, s => ((tk 1 s).1 :: (rdKey k (tk 1 s).2).1, (rdKey k (tk 1 s).2).2)
theorem rdKey_len : ∀ (k : Nat) (s : RdSt), (rdKey k s).1.length = k
  | 0, _ => rfl
  | k + 1, s => by simp [rdKey, rdKey_len k]
theorem rdKey_by : ∀ (k : Nat) {s : RdSt}, By s.1 → By (rdKey k s).2.1
  | 0, _, h => h
  | k + 1, _, h => rdKey_by k (tk_by h)
theorem rdKey_vals : ∀ (k : Nat) {s : RdSt}, By s.1 → By (rdKey k s).1
  | 0, _, _ => By.nil
  | k + 1, _, h => by
    have h1 := tk_lt (n := 1) h
    exact By.cons (by constructor <;> omega) (rdKey_vals k (tk_by h))
theorem rdKey_ok : ∀ (k : Nat) {xs : List Int}, k ≤ xs.length → rdKey k (xs, false) = (xs.take k, (xs.drop k, false))
  | 0, xs, _ => by simp [rdKey]
  | k + 1, [], h => by simp at h
  | k + 1, x :: xs, h => by
    have e : tk 1 (x :: xs, false) = (x, (xs, false)) := by
      rw [tk_ok (by simp)]
      simp [ofLe]
    unfold rdKey
    rw [e]
    simp only
    rw [rdKey_ok k (by simpa using h)]
    simp
theorem rdKey_chain : ∀ (k : Nat) (s : RdSt), ((rdKey k s).2.2 = true ∧ (0 < k → (rdKey k s).2.1 = [])) ∨ ((rdKey k s).2.2 = false ∧ s.2 = false ∧ (rdKey k s).2.1.length + k = s.1.length)
  | 0, s => by
    cases h : s.2 with
    | true => exact .inl ⟨h, fun h => absurd h (by decide)⟩
    | false => exact .inr ⟨h, rfl, rfl⟩
  | k + 1, s => by
    have c := tk_chain (n := 1) (s := s)
    simp only [rdKey]
    rcases rdKey_chain k (tk 1 s).2 with h | ⟨h1, h2, h3⟩
    · refine .inl ⟨h.1, fun _ => ?_⟩
      cases k with
      | zero =>
        simp only [rdKey] at h ⊢
        rcases c with c | c
        · exact c.2
        · rw [c.1] at h; exact absurd h.1 (by decide)
      | succ k => exact h.2 (by omega)
    · rcases c with c | c
      · rw [c.1] at h2; cases h2
      · exact .inr ⟨h1, c.2.1, by omega⟩
theorem take_set_succ {α : Type} : ∀ (l : List α) (i : Nat) (v : α), i < l.length → (l.set i v).take (i + 1) = l.take i ++ [v]
  | [], i, v, h => by simp at h
  | x :: l, 0, v, _ => by simp
  | x :: l, i + 1, v, h => by
    have := take_set_succ l i v (by simpa using h)
    simp only [List.set_cons_succ, List.take_succ_cons, List.cons_append]
    rw [this]
theorem mkey_loop (N : Nat) (out : List Int) : ∀ (k M i : Nat) (s : RdSt) (arr : List Int), i + k = 16 → k < M → By s.1 → arr.length = 16 →
    iter (b_53_0 N) M ((), (), (), (i : Int), s, out, arr) = some ((), (), (rdKey k s).2, out, arr.take i ++ (rdKey k s).1) := by
  intro k
  induction k with
  | zero =>
    intro M i s arr hi hM hb ha
    obtain ⟨M, rfl⟩ : ∃ m, M = m + 1 := ⟨M - 1, by omega⟩
    show b_53_0 N (iter (b_53_0 N) M) _ = _
    generalize iter (b_53_0 N) M = T
    obtain ⟨xs, bd⟩ := s
    unfold b_53_0
    simp only
    rw [decide_eq_false (show ¬ (i : Int) < 16 by omega), List.take_of_length_le (by omega)]
    simp [rdKey]
  | succ k ih =>
    intro M i s arr hi hM hb ha
    obtain ⟨M, rfl⟩ : ∃ m, M = m + 1 := ⟨M - 1, by omega⟩
    have key := ih M (i + 1) (tk 1 s).2 (arr.set i (tk 1 s).1) (by omega) (by omega) (tk_by hb) (by simpa using ha)
    show b_53_0 N (iter (b_53_0 N) M) _ = _
    generalize iter (b_53_0 N) M = T at key ⊢
    obtain ⟨xs, bd⟩ := s
    unfold b_53_0
    simp only
    rw [decide_eq_true (show (i : Int) < 16 by omega), cond_true, u8_at N hb]
    simp only [Option.bind_some]
    rw [decide_eq_true (show 0 ≤ (i : Int) ∧ (i : Int) < 16 by omega), cond_true, Int.toNat_natCast, wi64 (by omega) (by omega), show (i : Int) + 1 = ((i + 1 : Nat) : Int) by omega]
    refine Eq.trans key ?_
    rw [take_set_succ arr i (tk 1 (xs, bd)).1 (by omega)]
    simp [rdKey]
theorem mkey_at {N : Nat} (hN : 20 ≤ N) {s : RdSt} (h : By s.1) : f_53 N s.1 s.2 = some ((rdKey 16 s).1, (rdKey 16 s).2) := by
  unfold f_53 l_53_0
  have hl := mkey_loop N [0, 0, 0, 0, 0, 0, 0, 0, 0, 0, 0, 0, 0, 0, 0, 0] 16 N 0 s [0, 0, 0, 0, 0, 0, 0, 0, 0, 0, 0, 0, 0, 0, 0, 0] rfl (by omega) h rfl
  rw [show ((0 : Nat) : Int) = 0 from rfl, List.take_zero, List.nil_append] at hl
  rw [show iter (b_53_0 N) N ((), (), (), 0, (s.1, s.2), [0, 0, 0, 0, 0, 0, 0, 0, 0, 0, 0, 0, 0, 0, 0, 0], [0, 0, 0, 0, 0, 0, 0, 0, 0, 0, 0, 0, 0, 0, 0, 0]) = _ from hl]
  rfl
end Go.Proofs.YtihignmcjldiiaaGreatDoor.Mir
namespace Go.Proofs.YtihignmcjldiiaaGreatDoor.Mir
open Go Go.RowKit
set_option maxRecDepth 100000
structure RdT where
  key : List Int
  ep : Int
  on : Int
  ta : Int
  lost : Int
  set : Int
  low : Int
  left : RdSt
def rdTenK (k : List Int × RdSt) : RdT :=
  let e := tk 8 k.2
  let o := tk 1 e.2
  let a := tk 8 o.2
  let l := tk 8 a.2
  let t := tk 1 l.2
  let w := tk 8 t.2
  ⟨k.1, e.1, o.1, a.1, l.1, t.1, w.1, w.2⟩
def rdTen (s : RdSt) : RdT := rdTenK (rdKey 16 s)
theorem rdTen_ok {y : List Int} (h : 50 ≤ y.length) : rdTen (y, false) = ⟨y.take 16, ofLe ((y.drop 16).take 8), y.getD 24 0, ofLe ((y.drop 25).take 8), ofLe ((y.drop 33).take 8), y.getD 41 0, ofLe ((y.drop 42).take 8), (y.drop 50, false)⟩ := by
  unfold rdTen rdTenK
  simp only
  rw [rdKey_ok 16 (by omega)]
  simp only
  rw [tk_ok (n := 8) (by rw [List.length_drop]; omega)]
  simp only [List.drop_drop]
  rw [tk_ok (n := 1) (by rw [List.length_drop]; omega)]
  simp only [List.drop_drop]
  rw [tk_ok (n := 8) (by rw [List.length_drop]; omega)]
  simp only [List.drop_drop]
  rw [tk_ok (n := 8) (by rw [List.length_drop]; omega)]
  simp only [List.drop_drop]
  rw [tk_ok (n := 1) (by rw [List.length_drop]; omega)]
  simp only [List.drop_drop]
  rw [tk_ok (n := 8) (by rw [List.length_drop]; omega)]
  simp only [List.drop_drop]
  rw [getD_at (show 24 < y.length by omega), getD_at (show 41 < y.length by omega)]
theorem rdTen_bad {s : RdSt} (h : s.2 = true ∨ s.1.length < 50) : (rdTen s).left = ([], true) := by
  unfold rdTen rdTenK
  simp only
  have c0 := rdKey_chain 16 s
  generalize rdKey 16 s = r0 at c0 ⊢
  have c1 := tk_chain (n := 8) (s := r0.2)
  generalize tk 8 r0.2 = r1 at c1 ⊢
  have c2 := tk_chain (n := 1) (s := r1.2)
  generalize tk 1 r1.2 = r2 at c2 ⊢
  have c3 := tk_chain (n := 8) (s := r2.2)
  generalize tk 8 r2.2 = r3 at c3 ⊢
  have c4 := tk_chain (n := 8) (s := r3.2)
  generalize tk 8 r3.2 = r4 at c4 ⊢
  have c5 := tk_chain (n := 1) (s := r4.2)
  generalize tk 1 r4.2 = r5 at c5 ⊢
  have hb : r5.2.2 = true ∨ r5.2.1.length < 8 := by
    rcases c5 with c5 | ⟨_, a5, b5⟩
    · exact .inl c5.1
    · rcases c4 with c4 | ⟨_, a4, b4⟩
      · rw [c4.1] at a5; cases a5
      · rcases c3 with c3 | ⟨_, a3, b3⟩
        · rw [c3.1] at a4; cases a4
        · rcases c2 with c2 | ⟨_, a2, b2⟩
          · rw [c2.1] at a3; cases a3
          · rcases c1 with c1 | ⟨_, a1, b1⟩
            · rw [c1.1] at a2; cases a2
            · rcases c0 with c0 | ⟨_, a0, b0⟩
              · rw [c0.1] at a1; cases a1
              · rcases h with h | h
                · rw [h] at a0; cases a0
                · right; omega
  rw [tk_bad hb]
def tenOf (nm : ByteArray) (y : List Int) (p : PolT) : TenT := (nm, y.take 16, p.1, p.2.1, p.2.2.1, p.2.2.2.1, p.2.2.2.2.1, p.2.2.2.2.2.1, p.2.2.2.2.2.2.1, p.2.2.2.2.2.2.2.1, p.2.2.2.2.2.2.2.2.1, p.2.2.2.2.2.2.2.2.2, y.getD 24 0 == 1, at8 y 25, at8 y 33, y.getD 41 0 == 1, at8 y 42, at8 y 16)
def unpD (xs : List Int) : TenT × Option Int :=
  if (txt (xs, false)).2.2 = true ∨ (txt (xs, false)).2.1.length < 50 then (ten0, some 3)
  else if (pdecD ((txt (xs, false)).2.1.drop 50)).2 ≠ none ∨ (txt (xs, false)).2.1.getD 24 0 > 1 ∨ (txt (xs, false)).2.1.getD 41 0 > 1 ∨ hereB (tenOf (txt (xs, false)).1 (txt (xs, false)).2.1 (pdecD ((txt (xs, false)).2.1.drop 50)).1) = false then (ten0, some 3)
  else (tenOf (txt (xs, false)).1 (txt (xs, false)).2.1 (pdecD ((txt (xs, false)).2.1.drop 50)).1, none)
theorem pdec_nil : (pdecD []).2 = some 3 := by decide +kernel
theorem wi64_rng (n : Int) : R64 (IntKind.i64.wrap n) := by unfold R64; rw [IntKind.wrap_i64]; omega
theorem pdecD_size {xs : List Int} (hb : By xs) : ((pdecD xs).1.2.2.2.2.2.2.2.1).size ≤ 255 ∧ ∀ i, i < ((pdecD xs).1.2.2.2.2.2.2.2.2.2).length → (gR ((pdecD xs).1.2.2.2.2.2.2.2.2.2) i).2.2.size ≤ 255 := by
  unfold pdecD
  split
  · exact ⟨Nat.zero_le _, fun i hi => by simp [pol0] at hi⟩
  · simp only
    split
    · exact ⟨Nat.zero_le _, fun i hi => by simp [pol0] at hi⟩
    · split
      · exact ⟨Nat.zero_le _, fun i hi => by simp [pol0] at hi⟩
      · exact zdecD_size ((openD_by hb).drop 44)
theorem tenOf_fit {nm : ByteArray} (hn : nm.size ≤ 255) {y xs : List Int} (hb : By xs) : TFit (tenOf nm y (pdecD xs).1) := by
  have h1 := pdecD_len hb
  have h2 := pdecD_size hb
  refine ⟨?_, ?_, ?_, fun i hi => ?_, wi64_rng _, wi64_rng _⟩
  · show nm.size ≤ 1000; omega
  · show ((pdecD xs).1.2.2.2.2.2.2.2.1).size ≤ 1000; omega
  · show ((pdecD xs).1.2.2.2.2.2.2.2.2.2).length ≤ 1000; omega
  · show (gR ((pdecD xs).1.2.2.2.2.2.2.2.2.2) i).2.2.size ≤ 1000
    have := h2.2 i hi
    omega
end Go.Proofs.YtihignmcjldiiaaGreatDoor.Mir
namespace Go.Proofs.YtihignmcjldiiaaGreatDoor.Mir
open Go Go.RowKit
set_option maxRecDepth 100000
theorem tk_suf {n : Nat} {s : RdSt} : (tk n s).2.1 <:+ s.1 := by
  unfold tk; split
  · exact List.nil_suffix
  · exact List.drop_suffix _ _
theorem txt_suf {s : RdSt} : (txt s).2.1 <:+ s.1 := by
  unfold txt; split
  · exact List.nil_suffix
  · exact (List.drop_suffix _ _).trans tk_suf
theorem bind_sm {A B : Type} (o : Option A) (a : A) (k : A → Option B) (h : o = some a) : Option.bind o k = k a := by subst h; exact id rfl
theorem bind_sm' {A B : Type} (a : A) (k : A → Option B) : Option.bind (some a) k = k a := bind_sm _ a k rfl
theorem munpack_at {N : Nat} {xs : List Int} (hb : By xs) (hx : xs.length ≤ 1200) (hN : 3000 ≤ N) : f_18 N xs = some (unpD xs) := by
  unfold f_18 unpD
  rw [new_at N (by omega)]
  simp only [bind_sm']
  rw [text_at N hb]
  simp only [bind_sm']
  have hs1 := txt_by (s := (xs, false)) hb
  have hl1 := txt_len (s := (xs, false))
  have hsf := txt_suf (s := (xs, false))
  have hns := txt_size (s := (xs, false)) hb
  generalize txt (xs, false) = X at hs1 hl1 hns hsf ⊢
  obtain ⟨nm, s1⟩ := X
  simp only at hs1 hl1 hns hsf ⊢
  rw [mkey_at (by omega) hs1]
  simp only [bind_sm']
  have h0 := rdKey_by 16 hs1
  have hok : 50 ≤ s1.1.length → s1.2 = false → rdTenK (rdKey 16 s1) = ⟨s1.1.take 16, ofLe ((s1.1.drop 16).take 8), s1.1.getD 24 0, ofLe ((s1.1.drop 25).take 8), ofLe ((s1.1.drop 33).take 8), s1.1.getD 41 0, ofLe ((s1.1.drop 42).take 8), (s1.1.drop 50, false)⟩ := fun h h' => by
    have := rdTen_ok (y := s1.1) h
    rw [← h'] at this
    rw [← h']
    exact this
  have hbd : s1.2 = true ∨ s1.1.length < 50 → (rdTenK (rdKey 16 s1)).left = ([], true) := fun h => rdTen_bad h
  generalize rdKey 16 s1 = K at h0 hok hbd ⊢
  rw [show f_40 N K.2.1 K.2.2 = _ from i64_at N h0]
  simp only [bind_sm']
  have h1 := tk_by (n := 8) h0
  rw [show f_39 N (tk 8 K.2).2.1 (tk 8 K.2).2.2 = _ from u8_at N h1]
  simp only [bind_sm']
  have h2 := tk_by (n := 1) h1
  rw [show f_40 N (tk 1 (tk 8 K.2).2).2.1 (tk 1 (tk 8 K.2).2).2.2 = _ from i64_at N h2]
  simp only [bind_sm']
  have h3 := tk_by (n := 8) h2
  rw [show f_40 N (tk 8 (tk 1 (tk 8 K.2).2).2).2.1 (tk 8 (tk 1 (tk 8 K.2).2).2).2.2 = _ from i64_at N h3]
  simp only [bind_sm']
  have h4 := tk_by (n := 8) h3
  rw [show f_39 N (tk 8 (tk 8 (tk 1 (tk 8 K.2).2).2).2).2.1 (tk 8 (tk 8 (tk 1 (tk 8 K.2).2).2).2).2.2 = _ from u8_at N h4]
  simp only [bind_sm']
  have h5 := tk_by (n := 1) h4
  rw [show f_40 N (tk 1 (tk 8 (tk 8 (tk 1 (tk 8 K.2).2).2).2).2).2.1 (tk 1 (tk 8 (tk 8 (tk 1 (tk 8 K.2).2).2).2).2).2.2 = _ from i64_at N h5]
  simp only [bind_sm']
  obtain ⟨qq, hleft⟩ := left_at N (tk 8 (tk 1 (tk 8 (tk 8 (tk 1 (tk 8 K.2).2).2).2).2).2).2
  rw [hleft]
  simp only [bind_sm']
  by_cases hbad : s1.2 = true ∨ s1.1.length < 50
  · rw [if_pos hbad]
    have s2 : (tk 8 (tk 1 (tk 8 (tk 8 (tk 1 (tk 8 K.2).2).2).2).2).2).2 = ([], true) := hbd hbad
    rw [s2]
    have e0 : IntKind.i64.wrap ((xs.length : Int) - (([] : List Int).length : Int)) = (xs.length : Int) := by rw [List.length_nil, wi64 (by omega) (by omega)]; omega
    rw [e0, decide_eq_true (show 0 ≤ (xs.length : Int) ∧ (xs.length : Int) ≤ (xs.length : Int) by omega)]
    simp only [cond_true, Int.toNat_natCast, List.take_length]
    rw [List.drop_eq_nil_of_le (Nat.le_refl _), pdec_at By.nil (by simp) hN]
    simp only [bind_sm', pdec_nil]
    rfl
  · obtain ⟨n1, n2⟩ := not_or.1 hbad
    rw [if_neg hbad]
    have hk := hok (by omega) (by simpa using n1)
    have t0 : K.1 = s1.1.take 16 := congrArg RdT.key hk
    have t1 : (tk 8 K.2).1 = _ := congrArg RdT.ep hk
    have t2 : (tk 1 (tk 8 K.2).2).1 = _ := congrArg RdT.on hk
    have t3 : (tk 8 (tk 1 (tk 8 K.2).2).2).1 = _ := congrArg RdT.ta hk
    have t4 : (tk 8 (tk 8 (tk 1 (tk 8 K.2).2).2).2).1 = _ := congrArg RdT.lost hk
    have t5 : (tk 1 (tk 8 (tk 8 (tk 1 (tk 8 K.2).2).2).2).2).1 = _ := congrArg RdT.set hk
    have t6 : (tk 8 (tk 1 (tk 8 (tk 8 (tk 1 (tk 8 K.2).2).2).2).2).2).1 = _ := congrArg RdT.low hk
    have t7 : (tk 8 (tk 1 (tk 8 (tk 8 (tk 1 (tk 8 K.2).2).2).2).2).2).2 = _ := congrArg RdT.left hk
    rw [t0, t1, t2, t3, t4, t5, t6, t7]
    clear t0 t1 t2 t3 t4 t5 t6 t7 hk hleft hok hbd h0 h1 h2 h3 h4 h5
    obtain ⟨y, bd⟩ := s1
    simp only at n2 hl1 hs1 hsf ⊢
    have e0 : IntKind.i64.wrap ((xs.length : Int) - ((y.drop 50).length : Int)) = ((xs.length - (y.length - 50) : Nat) : Int) := by rw [List.length_drop, wi64 (by omega) (by omega)]; omega
    have hdrop : xs.drop (xs.length - (y.length - 50)) = y.drop 50 := by
      have := List.suffix_iff_eq_drop.1 ((List.drop_suffix 50 y).trans hsf)
      rw [List.length_drop] at this
      exact this.symm
    rw [e0, decide_eq_true (show 0 ≤ (xs.length : Int) ∧ (xs.length : Int) ≤ (xs.length : Int) by omega), decide_eq_true (show 0 ≤ ((xs.length - (y.length - 50) : Nat) : Int) ∧ ((xs.length - (y.length - 50) : Nat) : Int) ≤ (xs.length : Int) by omega)]
    simp only [cond_true, Int.toNat_natCast, List.take_length]
    rw [hdrop, pdec_at (hs1.drop 50) (by rw [List.length_drop]; omega) hN]
    simp only [bind_sm']
    have hfit := tenOf_fit (nm := nm) hns (y := y) (hs1.drop 50)
    generalize hP : pdecD (y.drop 50) = P at hfit ⊢
    obtain ⟨p, e⟩ := P
    simp only at hfit ⊢
    cases e with
    | some e => rw [if_pos (.inl (by simp))]; rfl
    | none =>
      simp only [Option.isNone_none, Bool.not_true, cond_false]
      by_cases g1 : y.getD 24 0 > 1
      · rw [if_pos (.inr (.inl g1)), decide_eq_true g1]; rfl
      · rw [decide_eq_false g1]
        simp only [cond_false]
        by_cases g2 : y.getD 41 0 > 1
        · rw [if_pos (.inr (.inr (.inl g2))), decide_eq_true g2]; rfl
        · rw [decide_eq_false g2]
          simp only [cond_false]
          refine (bind_sm _ _ _ (mhere_at hN hfit)).trans ?_
          cases hh : hereB (tenOf nm y p) with
          | false => rw [if_pos (.inr (.inr (.inr rfl)))]; rfl
          | true => rw [if_neg (by rintro (h | h | h | h); exact h rfl; exact g1 h; exact g2 h; cases h)]; rfl
end Go.Proofs.YtihignmcjldiiaaGreatDoor.Mir
namespace Go.Proofs.YtihignmcjldiiaaGreatDoor.Mir
open Go Go.RowKit
set_option maxRecDepth 100000
theorem txt_badnil {s : RdSt} : (txt s).2.2 = true → (txt s).2.1 = [] := by
  unfold txt; split
  · exact fun _ => rfl
  · intro h; cases h
theorem unpD_fit {xs : List Int} (hb : By xs) : TFit (unpD xs).1 := by
  unfold unpD
  split
  · exact ten0_fit
  · split
    · exact ten0_fit
    · exact tenOf_fit (txt_size (s := (xs, false)) hb) ((txt_by (s := (xs, false)) hb).drop 50)
theorem ten0_key : TKey ten0 := ⟨rfl, fun x hx => by simp [ten0] at hx; omega⟩
theorem unpD_key {xs : List Int} (hb : By xs) : TKey (unpD xs).1 := by
  unfold unpD
  split
  · exact ten0_key
  · rename_i h
    split
    · exact ten0_key
    · refine ⟨?_, ?_⟩
      · show (((txt (xs, false)).2.1).take 16).length = 16
        rw [List.length_take]
        have := (not_or.1 h).2
        omega
      · exact (txt_by (s := (xs, false)) hb).take 16
theorem rmunpack_loop (N : Nat) (z : TenT) (y : List Int) (bd : Bool) (nm : ByteArray) (rest : Int × Int × Int × Int × Int × Int × Bool × ByteArray × Int × List Rul × Bool × Int × Int × Bool × Int × Int) (hy : 16 ≤ y.length) : ∀ (k M i : Nat) (arr : List Int), i + k = 16 → k < M → arr.length = 16 →
    iter (b_19_0 N) M ((), (), (), (i : Int), z, (y, bd), (nm, arr, rest)) = some ((), (), (), z, (y, bd), (nm, arr.take i ++ (y.drop i).take k, rest)) := by
  obtain ⟨r1, r2, r3, r4, r5, r6, r7, r8, r9, r10, r11, r12, r13, r14, r15, r16⟩ := rest
  obtain ⟨z1, z2, z3, z4, z5, z6, z7, z8, z9, z10, z11, z12, z13, z14, z15, z16, z17, z18⟩ := z
  intro k
  induction k with
  | zero =>
    intro M i arr hi hM ha
    obtain ⟨M, rfl⟩ : ∃ m, M = m + 1 := ⟨M - 1, by omega⟩
    show b_19_0 N (iter (b_19_0 N) M) _ = _
    generalize iter (b_19_0 N) M = T
    unfold b_19_0
    simp only
    rw [decide_eq_false (show ¬ (i : Int) < 16 by omega), List.take_of_length_le (show arr.length ≤ i by omega)]
    simp
  | succ k ih =>
    intro M i arr hi hM ha
    obtain ⟨M, rfl⟩ : ∃ m, M = m + 1 := ⟨M - 1, by omega⟩
    have h1 : i < y.length := by omega
    have key := ih M (i + 1) (arr.set i (y.getD i 0)) (by omega) (by omega) (by simpa using ha)
    show b_19_0 N (iter (b_19_0 N) M) _ = _
    generalize iter (b_19_0 N) M = T at key ⊢
    unfold b_19_0
    simp only
    rw [decide_eq_true (show (i : Int) < 16 by omega), decide_eq_true (show 0 ≤ (i : Int) ∧ (i : Int) < (y.length : Int) by omega), decide_eq_true (show 0 ≤ (i : Int) ∧ (i : Int) < 16 by omega)]
    simp only [cond_true, Int.toNat_natCast]
    rw [wi64 (by omega) (by omega), show (i : Int) + 1 = ((i + 1 : Nat) : Int) by omega]
    refine Eq.trans key ?_
    have g1 : y.getD i 0 = y[i] := by rw [List.getD_eq_getElem?_getD, List.getElem?_eq_getElem h1]; rfl
    rw [take_set_succ arr i _ (by omega), g1, List.drop_eq_getElem_cons h1, List.take_succ_cons]
    simp
theorem rmunpack_at {N : Nat} {xs : List Int} (hb : By xs) (hx : xs.length ≤ 1200) (hN : 3000 ≤ N) : f_19 N xs = some ((unpD xs).1, errN (unpD xs).2) := by
  unfold f_19 unpD
  rw [rwords_at (by omega) hb (by omega)]
  simp only [bind_sm']
  have hs1 := txt_by (s := (xs, false)) hb
  have hl1 := txt_len (s := (xs, false))
  have hns := txt_size (s := (xs, false)) hb
  generalize txt (xs, false) = X at hs1 hl1 hns ⊢
  obtain ⟨nm, y, bd⟩ := X
  simp only at hs1 hl1 hns ⊢
  cases bd with
  | true => rfl
  | false =>
    simp only [cond_false]
    by_cases h50 : y.length < 50
    · rw [if_pos (.inr h50), decide_eq_true (show (y.length : Int) < 50 by omega)]; rfl
    · rw [if_neg (by rintro (h | h); cases h; exact h50 h), decide_eq_false (show ¬ (y.length : Int) < 50 by omega)]
      simp only [cond_false]
      have hlp := rmunpack_loop N ten0 y false nm (0, 0, 0, 0, 0, 0, false, ByteArray.empty, 0, [], false, 0, 0, false, 0, 0) (by omega) 16 N 0 [0, 0, 0, 0, 0, 0, 0, 0, 0, 0, 0, 0, 0, 0, 0, 0] rfl (by omega) rfl
      unfold l_19_0
      refine (bind_sm _ _ _ hlp).trans ?_
      simp only [List.take_zero, List.nil_append, List.drop_zero]
      rw [decide_eq_true (show 0 ≤ (y.length : Int) ∧ (y.length : Int) ≤ (y.length : Int) by omega), decide_eq_true (show 0 ≤ (16 : Int) ∧ (16 : Int) ≤ (y.length : Int) by omega), decide_eq_true (show 0 ≤ (25 : Int) ∧ (25 : Int) ≤ (y.length : Int) by omega), decide_eq_true (show 0 ≤ (33 : Int) ∧ (33 : Int) ≤ (y.length : Int) by omega), decide_eq_true (show 0 ≤ (42 : Int) ∧ (42 : Int) ≤ (y.length : Int) by omega), decide_eq_true (show 0 ≤ (50 : Int) ∧ (50 : Int) ≤ (y.length : Int) by omega), decide_eq_true (show 0 ≤ (24 : Int) ∧ (24 : Int) < (y.length : Int) by omega), decide_eq_true (show 0 ≤ (41 : Int) ∧ (41 : Int) < (y.length : Int) by omega)]
      simp only [cond_true, Int.toNat_natCast, List.take_length]
      rw [show Int.toNat 16 = 16 from rfl, show Int.toNat 25 = 25 from rfl, show Int.toNat 33 = 33 from rfl, show Int.toNat 42 = 42 from rfl, show Int.toNat 50 = 50 from rfl, show Int.toNat 24 = 24 from rfl, show Int.toNat 41 = 41 from rfl]
      rw [show f_45 N (y.drop 16) false 8 = _ from rtake_at (n := 8) (by omega) (hs1.drop _) (by decide), show f_45 N (y.drop 25) false 8 = _ from rtake_at (n := 8) (by omega) (hs1.drop _) (by decide), show f_45 N (y.drop 33) false 8 = _ from rtake_at (n := 8) (by omega) (hs1.drop _) (by decide), show f_45 N (y.drop 42) false 8 = _ from rtake_at (n := 8) (by omega) (hs1.drop _) (by decide)]
      simp only [bind_sm']
      rw [tk_ok (n := 8) (xs := y.drop 16) (by rw [List.length_drop]; omega), tk_ok (n := 8) (xs := y.drop 25) (by rw [List.length_drop]; omega), tk_ok (n := 8) (xs := y.drop 33) (by rw [List.length_drop]; omega), tk_ok (n := 8) (xs := y.drop 42) (by rw [List.length_drop]; omega)]
      rw [rpdec_at (hs1.drop 50) (by rw [List.length_drop]; omega) hN]
      simp only [bind_sm']
      have hfit := tenOf_fit (nm := nm) hns (y := y) (hs1.drop 50)
      have hpe : ∀ e, (pdecD (y.drop 50)).2 = some e → e ≠ 0 := by
        intro e
        unfold pdecD
        split
        · rename_i e' he
          intro h; cases h; exact openD_ne he
        · simp only
          split
          · intro h; cases h; decide
          · split
            · intro h; cases h; decide
            · intro h; cases h
      generalize pdecD (y.drop 50) = P at hfit hpe ⊢
      obtain ⟨p, e⟩ := P
      simp only at hfit hpe ⊢
      cases e with
      | some e =>
        rw [if_pos (.inl (by simp))]
        show (bif e != 0 then _ else _) = _
        rw [show (e != 0) = true by simpa using hpe e rfl]; rfl
      | none =>
        show (bif (0 : Int) != 0 then _ else _) = _
        rw [show ((0 : Int) != 0) = false from rfl]
        simp only [cond_false]
        by_cases g1 : y.getD 24 0 > 1
        · rw [if_pos (.inr (.inl g1)), decide_eq_true g1]; rfl
        · rw [decide_eq_false g1]
          simp only [cond_false]
          by_cases g2 : y.getD 41 0 > 1
          · rw [if_pos (.inr (.inr (.inl g2))), decide_eq_true g2]; rfl
          · rw [decide_eq_false g2]
            simp only [cond_false]
            refine (bind_sm _ _ _ (rmhere_at hN hfit)).trans ?_
            cases hh : hereB (tenOf nm y p) with
            | false => rw [if_pos (.inr (.inr (.inr rfl)))]; rfl
            | true => rw [if_neg (by rintro (h | h | h | h); exact h rfl; exact g1 h; exact g2 h; cases h)]; rfl
abbrev MsgT := Int × Int × ByteArray × TenT
def msg0 : MsgT := (0, 0, ByteArray.empty, ten0)
def mdecD (xs : List Int) : MsgT × Option Int :=
  match (openD 2 xs).2 with
  | some e => (msg0, some e)
  | none =>
    let a := tk 1 ((openD 2 xs).1, false)
    let b := tk 8 a.2
    let c := txt b.2
    if c.2.2 = true ∨ (if a.1 = 1 then (unpD c.2.1).2 ≠ none else c.2.1 ≠ []) then (msg0, some 3)
    else if mayM a.1 (IntKind.i64.wrap b.1) c.1 (if a.1 = 1 then (unpD c.2.1).1 else ten0) = false then (msg0, some 3)
    else ((a.1, IntKind.i64.wrap b.1, c.1, (if a.1 = 1 then (unpD c.2.1).1 else ten0)), none)
theorem unp_nil : (unpD []).2 = some 3 := by decide +kernel
theorem mdec_at {N : Nat} {xs : List Int} (hb : By xs) (hx : xs.length ≤ 1200) (hN : 3000 ≤ N) : f_13 N xs = some (mdecD xs) := by
  unfold f_13 mdecD
  rw [bopen_at hb (by omega) (by omega)]
  have hob := openD_by (k := 2) hb
  have hol := openD_len (k := 2) (xs := xs)
  simp only [bind_sm']
  generalize openD 2 xs = o at hob hol ⊢
  obtain ⟨ys, e⟩ := o
  cases e with
  | some e => rfl
  | none =>
    simp only [Option.isNone_none, Bool.not_true, cond_false]
    simp only at hob hol
    rw [new_at N (by omega)]
    simp only [bind_sm']
    rw [u8_at N hob]
    simp only [bind_sm']
    have h1 := tk_by (n := 1) (s := (ys, false)) hob
    have l1 := tk_len (n := 1) (s := (ys, false))
    have f1 := tk_suf (n := 1) (s := (ys, false))
    generalize tk 1 (ys, false) = a at h1 l1 f1 ⊢
    rw [show f_40 N a.2.1 a.2.2 = _ from i64_at N h1]
    simp only [bind_sm']
    have h2 := tk_by (n := 8) (s := a.2) h1
    have l2 := tk_len (n := 8) (s := a.2)
    have f2 := tk_suf (n := 8) (s := a.2)
    have eb : tk 8 (a.2.1, a.2.2) = tk 8 a.2 := rfl
    rw [eb]
    generalize tk 8 a.2 = b at h2 l2 f2 ⊢
    rw [show f_41 N b.2.1 b.2.2 = some (txt b.2) from text_at N h2]
    simp only [bind_sm']
    have h3 := txt_by (s := b.2) h2
    have l3 := txt_len (s := b.2)
    have f3 := txt_suf (s := b.2)
    have hbad := txt_badnil (s := b.2)
    generalize txt b.2 = c at h3 l3 f3 hbad ⊢
    obtain ⟨nm, y, bd⟩ := c
    simp only at h3 l3 f3 hbad l1 l2 ⊢
    by_cases e1 : a.1 = 1
    · rw [show (a.1 == 1) = true by simpa using e1]
      simp only [cond_true, if_pos e1]
      obtain ⟨qq, hleft⟩ := left_at N (y, bd)
      refine (bind_sm _ _ _ hleft).trans ?_
      have e0 : IntKind.i64.wrap ((ys.length : Int) - (y.length : Int)) = ((ys.length - y.length : Nat) : Int) := by rw [wi64 (by omega) (by omega)]; omega
      have hdrop : ys.drop (ys.length - y.length) = y := (List.suffix_iff_eq_drop.1 (f3.trans (f2.trans f1))).symm
      simp only
      rw [e0, decide_eq_true (show 0 ≤ (ys.length : Int) ∧ (ys.length : Int) ≤ (ys.length : Int) by omega), decide_eq_true (show 0 ≤ ((ys.length - y.length : Nat) : Int) ∧ ((ys.length - y.length : Nat) : Int) ≤ (ys.length : Int) by omega)]
      simp only [cond_true, Int.toNat_natCast, List.take_length]
      rw [hdrop, munpack_at h3 (by omega) hN]
      simp only [bind_sm']
      have hfit := unpD_fit h3
      cases bd with
      | true =>
        rw [if_pos (.inl rfl), hbad rfl]
        generalize hu : unpD [] = U
        have hn := unp_nil
        rw [hu] at hn
        obtain ⟨u, e⟩ := U
        simp only at hn
        subst hn
        rfl
      | false =>
        generalize unpD y = U at hfit ⊢
        obtain ⟨u, e⟩ := U
        cases e with
        | some e => rw [if_pos (.inr (by simp))]; rfl
        | none =>
          rw [if_neg (by rintro (h | h); cases h; exact h rfl)]
          simp only [Option.isNone_none, Bool.not_true, cond_false] at hfit ⊢
          refine (bind_sm _ _ _ (mchk_at hN a.1 (IntKind.i64.wrap b.1) nm hfit)).trans ?_
          cases hm : mayM a.1 (IntKind.i64.wrap b.1) nm u with
          | false => rfl
          | true => rfl
    · rw [show (a.1 == 1) = false by simpa using e1]
      simp only [cond_false, if_neg e1]
      obtain ⟨qq, hdone⟩ := done_at N (y, bd)
      refine (bind_sm _ _ _ hdone).trans ?_
      simp only
      by_cases hq : bd = true ∨ y ≠ []
      · rw [if_pos hq, if_pos hq]; rfl
      · rw [if_neg hq, if_neg hq]
        simp only [Option.isNone_none, Bool.not_true, cond_false]
        refine (bind_sm _ _ _ (mchk_at hN a.1 (IntKind.i64.wrap b.1) nm ten0_fit)).trans ?_
        cases hm : mayM a.1 (IntKind.i64.wrap b.1) nm ten0 with
        | false => rfl
        | true => rfl
theorem rmdec_at {N : Nat} {xs : List Int} (hb : By xs) (hx : xs.length ≤ 1200) (hN : 3000 ≤ N) : f_14 N xs = some ((mdecD xs).1, errN (mdecD xs).2) := by
  unfold f_14 mdecD
  rw [rbopen_at hb (by omega) (by omega)]
  have hob := openD_by (k := 2) hb
  have hol := openD_len (k := 2) (xs := xs)
  have hne := fun e => openD_ne (k := 2) (xs := xs) (e := e)
  simp only [bind_sm']
  generalize openD 2 xs = o at hob hol hne ⊢
  obtain ⟨ys, e⟩ := o
  cases e with
  | some e =>
    show (bif e != 0 then _ else _) = _
    rw [show (e != 0) = true by simpa using hne e rfl]; rfl
  | none =>
    simp only at hob hol
    show (bif (0 : Int) != 0 then _ else _) = _
    rw [show ((0 : Int) != 0) = false from rfl]
    simp only [cond_false]
    rw [show f_45 N ys false 1 = _ from rtake_at (n := 1) (by omega) hob (by decide)]
    simp only [bind_sm']
    have h1 := tk_by (n := 1) (s := (ys, false)) hob
    have l1 := tk_len (n := 1) (s := (ys, false))
    have v1 := tk_lt (n := 1) (s := (ys, false)) hob
    generalize tk 1 (ys, false) = a at h1 l1 v1 ⊢
    rw [show f_45 N a.2.1 a.2.2 8 = _ from rtake_at (n := 8) (by omega) h1 (by decide)]
    simp only [bind_sm']
    have h2 := tk_by (n := 8) (s := a.2) h1
    have l2 := tk_len (n := 8) (s := a.2)
    have eb : tk 8 (a.2.1, a.2.2) = tk 8 a.2 := rfl
    rw [eb]
    generalize tk 8 a.2 = b at h2 l2 ⊢
    simp only at l1 l2
    rw [show f_46 N b.2.1 b.2.2 = some ((txt b.2).2, (txt b.2).1) from rwords_at (by omega) h2 (by omega)]
    simp only [bind_sm']
    have h3 := txt_by (s := b.2) h2
    have l3 := txt_len (s := b.2)
    have hns := txt_size (s := b.2) h2
    generalize txt b.2 = c at h3 l3 hns ⊢
    obtain ⟨nm, y, bd⟩ := c
    simp only at h3 l3 hns ⊢
    have ew : IntKind.u8.wrap a.1 = a.1 := by rw [IntKind.wrap_u8]; omega
    rw [ew]
    cases bd with
    | true => rfl
    | false =>
      simp only [cond_false]
      by_cases e1 : a.1 = 1
      · rw [show (a.1 == 1) = true by simpa using e1]
        simp only [cond_true, if_pos e1]
        rw [rmunpack_at h3 (by omega) hN]
        simp only [bind_sm']
        have hfit := unpD_fit h3
        have hue : ∀ e, (unpD y).2 = some e → e ≠ 0 := by
          intro e
          unfold unpD
          split
          · intro h; cases h; decide
          · split
            · intro h; cases h; decide
            · intro h; cases h
        generalize unpD y = U at hfit hue ⊢
        obtain ⟨u, e⟩ := U
        cases e with
        | some e =>
          rw [if_pos (.inr (by simp))]
          show (bif e != 0 then _ else _) = _
          rw [show (e != 0) = true by simpa using hue e rfl]; rfl
        | none =>
          rw [if_neg (by rintro (h | h); cases h; exact h rfl)]
          show (bif (0 : Int) != 0 then _ else _) = _
          rw [show ((0 : Int) != 0) = false from rfl]
          simp only [cond_false] at hfit ⊢
          refine (bind_sm _ _ _ (rmmay_at hN a.1 (IntKind.i64.wrap b.1) (nm := nm) (by omega) hfit)).trans ?_
          cases hm : mayM a.1 (IntKind.i64.wrap b.1) nm u with
          | false => rfl
          | true => rfl
      · rw [show (a.1 == 1) = false by simpa using e1]
        simp only [cond_false, if_neg e1]
        by_cases hq : y = []
        · subst hq
          rw [if_neg (by rintro (h | h); cases h; exact h rfl)]
          simp only [List.length_nil]
          refine (bind_sm _ _ _ (rmmay_at hN a.1 (IntKind.i64.wrap b.1) (nm := nm) (by omega) ten0_fit)).trans ?_
          cases hm : mayM a.1 (IntKind.i64.wrap b.1) nm ten0 with
          | false => rfl
          | true => rfl
        · have hpos : 0 < y.length := List.length_pos_iff.2 hq
          rw [if_pos (.inr hq), decide_eq_true (show (y.length : Int) > 0 by omega)]; rfl
end Go.Proofs.YtihignmcjldiiaaGreatDoor.Mir
namespace Go.Proofs.YtihignmcjldiiaaGreatDoor.Mir
open Go Go.RowKit
set_option maxRecDepth 100000
theorem at8_mid {v : Int} (h0 : -9223372036854775808 ≤ v) (h1 : v < 9223372036854775808) {A B : List Int} {i : Nat} (hA : A.length = i) : at8 (A ++ (le 8 (IntKind.u64.wrap v) ++ B)) i = v := by
  unfold at8
  rw [List.drop_left' hA, List.take_left' (le_len 8 _), ofLe_le 8 (wu64_lt v).1 (Int.lt_of_lt_of_le (wu64_lt v).2 (by decide)), wi64_u64 h0 h1]
theorem getD_mid {x : Int} {A B : List Int} {i : Nat} (hA : A.length = i) : (A ++ x :: B).getD i 0 = x := by
  rw [List.getD_eq_getElem?_getD, List.getElem?_append_right (by omega), show i - A.length = 0 by omega]; rfl
theorem drop_mid {A B : List Int} {i : Nat} (hA : A.length = i) : (A ++ B).drop i = B := List.drop_left' hA
structure POk (k b a q w c : Int) (n : ByteArray) (f : Int) (L : List Rul) : Prop where
  hk : 0 ≤ k ∧ k < 256
  hb : 0 ≤ b ∧ b ≤ 43200
  ha : 0 ≤ a ∧ a ≤ 43200
  hq : 1 ≤ q ∧ q ≤ 68719476736
  hw : 0 ≤ w ∧ w ≤ 1099511627776
  hc : 1 ≤ c ∧ c ≤ 1125899906842624
  hz : mayZ n f L = true
theorem smayB_ok {k b a : Int} (h : smayB k b a = true) : (0 ≤ k ∧ k < 256) ∧ (0 ≤ b ∧ b ≤ 43200) ∧ (0 ≤ a ∧ a ≤ 43200) := by
  unfold smayB at h
  by_cases h1 : b < 0
  · rw [decide_eq_true h1] at h; cases h
  by_cases h2 : b > 43200
  · rw [decide_eq_false h1, decide_eq_true h2] at h; cases h
  by_cases h3 : a < 0
  · rw [decide_eq_false h1, decide_eq_false h2, decide_eq_true h3] at h; cases h
  by_cases h4 : a > 43200
  · rw [decide_eq_false h1, decide_eq_false h2, decide_eq_false h3, decide_eq_true h4] at h; cases h
  refine ⟨?_, by omega, by omega⟩
  rw [decide_eq_false h1, decide_eq_false h2, decide_eq_false h3, decide_eq_false h4] at h
  simp only [cond_false] at h
  by_cases k0 : k = 0
  · omega
  rw [show (k == 0) = false by simpa using k0] at h
  by_cases k1 : k = 1
  · omega
  rw [show (k == 1) = false by simpa using k1] at h
  by_cases k2 : k = 2
  · omega
  rw [show (k == 2) = false by simpa using k2] at h
  simp only [cond_false] at h
  cases h
theorem mayP_ok {k b a q w c : Int} {n : ByteArray} {f : Int} {L : List Rul} (h : mayP k b a q w c n f L = true) : POk k b a q w c n f L := by
  simp only [mayP, Bool.and_eq_true] at h
  obtain ⟨h1, h2, h3, h4⟩ := h
  obtain ⟨s1, s2, s3⟩ := smayB_ok h1
  simp only [qmayB, Bool.and_eq_true, Bool.not_eq_true', decide_eq_false_iff_not] at h2
  simp only [umayB, Bool.and_eq_true, Bool.not_eq_true', decide_eq_false_iff_not] at h3
  exact ⟨s1, s2, s3, by omega, by omega, by omega, h4⟩
theorem zenc_len (m : Nat) {n : ByteArray} {f : Int} {L : List Rul} (h : mayZ n f L = true) (hL : L.length ≤ m) : (zencD n f L).1.length ≤ 31 + 29 * m := by
  have ho := mayZ_ok h
  have h0 := rulesB_len (L := L) (fun r hr => (ho.rule r hr).1)
  have h1 := ho.nm
  have h2 := ho.len
  have h3 : (zoneB n f L).length ≤ 22 + 29 * m := by simp only [zoneB, List.length_append, le_len, bytesL_len]; omega
  have h4 := zoneB_len ho
  unfold zencD sealD
  rw [if_pos h, if_pos (by decide), if_neg (by omega)]
  rw [sealedL_len]
  simp [headL, le_len]; omega
theorem penc_len (m : Nat) {k b a q w c : Int} {j : Bool} {n : ByteArray} {f : Int} {L : List Rul} (h : mayP k b a q w c n f L = true) (hL : L.length ≤ m) : (pencD k b a q w c j n f L).1.length ≤ 84 + 29 * m := by
  have hz := (mayP_ok h).hz
  have hl := zenc_len m hz hL
  have ho := mayZ_ok hz
  have hl32 := zenc_len 32 hz ho.len
  unfold pencD
  rw [if_pos h]
  generalize (zencD n f L).1 = z at hl hl32
  unfold sealD
  rw [if_pos (by decide), if_neg (by rw [polB_len]; omega)]
  rw [sealedL_len, List.length_append, polB_len]
  simp [headL, le_len]; omega
theorem penc_eq {k b a q w c : Int} {j : Bool} {n : ByteArray} {f : Int} {L : List Rul} (h : mayP k b a q w c n f L = true) : pencD k b a q w c j n f L = (sealedL (headL 3 (polB k b a q w c j (zencD n f L).1) ++ polB k b a q w c j (zencD n f L).1), none) := by
  have hz := (mayP_ok h).hz
  have hl := zenc_len 32 hz (mayZ_ok hz).len
  unfold pencD sealD
  rw [if_pos h, if_pos (by decide), if_neg (by rw [polB_len]; omega)]
theorem pdec_enc {k b a q w c : Int} {j : Bool} {n : ByteArray} {f : Int} {L : List Rul} (h : mayP k b a q w c n f L = true) : pdecD (pencD k b a q w c j n f L).1 = ((k, b, a, q, w, c, j, n, f, L), none) := by
  obtain ⟨hk, hb, ha, hq, hw, hc, hz⟩ := mayP_ok h
  have hl := zenc_len 32 hz (mayZ_ok hz).len
  have hzd := zdec_enc (zencD_ok hz).1
  rw [penc_eq h]
  unfold pdecD
  rw [openD_seal (by decide) (by rw [polB_len]; omega)]
  simp only
  generalize (zencD n f L).1 = z at hl hzd ⊢
  have e0 : (polB k b a q w c j z).getD 0 0 = k := by
    have := getD_mid (x := k % 256) (A := []) (B := pol5 [b, a, q, w, c] ++ [flagI j] ++ le 2 (z.length : Int) ++ z) (i := 0) rfl
    rw [show k % 256 = k by omega] at this
    refine Eq.trans ?_ this
    simp [polB, show k % 256 = k by omega]
  have e1 : at8 (polB k b a q w c j z) 1 = b := by
    refine Eq.trans ?_ (at8_mid (v := b) (by omega) (by omega) (A := [k % 256]) (B := pol5 [a, q, w, c] ++ [flagI j] ++ le 2 (z.length : Int) ++ z) (i := 1) rfl)
    simp [polB, pol5]
  have e2 : at8 (polB k b a q w c j z) 9 = a := by
    refine Eq.trans ?_ (at8_mid (v := a) (by omega) (by omega) (A := [k % 256] ++ pol5 [b]) (B := pol5 [q, w, c] ++ [flagI j] ++ le 2 (z.length : Int) ++ z) (i := 9) (by simp [pol5_len]))
    simp [polB, pol5]
  have e3 : at8 (polB k b a q w c j z) 17 = q := by
    refine Eq.trans ?_ (at8_mid (v := q) (by omega) (by omega) (A := [k % 256] ++ pol5 [b, a]) (B := pol5 [w, c] ++ [flagI j] ++ le 2 (z.length : Int) ++ z) (i := 17) (by simp [pol5_len]))
    simp [polB, pol5]
  have e4 : at8 (polB k b a q w c j z) 25 = w := by
    refine Eq.trans ?_ (at8_mid (v := w) (by omega) (by omega) (A := [k % 256] ++ pol5 [b, a, q]) (B := pol5 [c] ++ [flagI j] ++ le 2 (z.length : Int) ++ z) (i := 25) (by simp [pol5_len]))
    simp [polB, pol5]
  have e5 : at8 (polB k b a q w c j z) 33 = c := by
    refine Eq.trans ?_ (at8_mid (v := c) (by omega) (by omega) (A := [k % 256] ++ pol5 [b, a, q, w]) (B := [flagI j] ++ le 2 (z.length : Int) ++ z) (i := 33) (by simp [pol5_len]))
    simp [polB, pol5]
  have e6 : (polB k b a q w c j z).getD 41 0 = flagI j := by
    refine Eq.trans ?_ (getD_mid (x := flagI j) (A := [k % 256] ++ pol5 [b, a, q, w, c]) (B := le 2 (z.length : Int) ++ z) (i := 41) (by simp [pol5_len]))
    simp [polB]
  have e7 : (polB k b a q w c j z).getD 42 0 = (z.length : Int) % 256 := by
    refine Eq.trans ?_ (getD_mid (x := (z.length : Int) % 256) (A := [k % 256] ++ pol5 [b, a, q, w, c] ++ [flagI j]) (B := (z.length : Int) / 256 % 256 :: z) (i := 42) (by simp [pol5_len]))
    simp [polB, le]
  have e8 : (polB k b a q w c j z).getD 43 0 = (z.length : Int) / 256 % 256 := by
    refine Eq.trans ?_ (getD_mid (x := (z.length : Int) / 256 % 256) (A := [k % 256] ++ pol5 [b, a, q, w, c] ++ [flagI j] ++ [(z.length : Int) % 256]) (B := z) (i := 43) (by simp [pol5_len]))
    simp [polB, le]
  have e9 : (polB k b a q w c j z).drop 44 = z := by
    rw [show polB k b a q w c j z = ([k % 256] ++ pol5 [b, a, q, w, c] ++ [flagI j] ++ le 2 (z.length : Int)) ++ z from rfl]
    exact drop_mid (by simp [pol5_len, le_len])
  have hf : flagI j ≤ 1 := by cases j <;> decide
  have hfe : (flagI j == 1) = j := by cases j <;> rfl
  unfold polOf mayPT
  rw [e0, e1, e2, e3, e4, e5, e6, e7, e8, e9, hzd, polB_len, hfe]
  rw [if_neg (by rintro (h | h | h) <;> omega)]
  simp only
  rw [if_neg (by rintro (h1 | h1) <;> simp_all)]
end Go.Proofs.YtihignmcjldiiaaGreatDoor.Mir
namespace Go.Proofs.YtihignmcjldiiaaGreatDoor.Mir
open Go Go.RowKit
set_option maxRecDepth 100000
structure TOk (t : TenT) : Prop where
  nm : (t.1).size ≤ 12
  pol : mayP t.2.2.1 t.2.2.2.1 t.2.2.2.2.1 t.2.2.2.2.2.1 t.2.2.2.2.2.2.1 t.2.2.2.2.2.2.2.1 t.2.2.2.2.2.2.2.2.2.1 t.2.2.2.2.2.2.2.2.2.2.1 t.2.2.2.2.2.2.2.2.2.2.2.1 = true
  lost : 0 ≤ (t.2.2.2.2.2.2.2.2.2.2.2.2.2.2.1) ∧ (t.2.2.2.2.2.2.2.2.2.2.2.2.2.2.1) ≤ 2305843009213693952
  ep : 0 ≤ (t.2.2.2.2.2.2.2.2.2.2.2.2.2.2.2.2.2) ∧ (t.2.2.2.2.2.2.2.2.2.2.2.2.2.2.2.2.2) ≤ 1099511627776
  zL : (t.2.2.2.2.2.2.2.2.2.2.2.1).length ≤ 16
theorem hereB_tok {t : TenT} (h : hereB t = true) : TOk t := by
  obtain ⟨h1, h2, h3⟩ := hereB_ok h
  simp only [hereB, mayTT, mayT, pauseB, epB, Bool.and_eq_true, Bool.not_eq_true', decide_eq_false_iff_not, decide_eq_true_eq] at h
  exact ⟨h1, h3, by omega, by omega, h2⟩
theorem flag_eq (j : Bool) : (flagI j == 1) = j := by cases j <;> rfl
theorem flag_le (j : Bool) : ¬ flagI j > 1 := by cases j <;> decide
def packR (t : TenT) (P : List Int) : List Int := (t.2.1) ++ le 8 (IntKind.u64.wrap (t.2.2.2.2.2.2.2.2.2.2.2.2.2.2.2.2.2)) ++ [flagI (t.2.2.2.2.2.2.2.2.2.2.2.2.1)] ++ le 8 (IntKind.u64.wrap (t.2.2.2.2.2.2.2.2.2.2.2.2.2.1)) ++ le 8 (IntKind.u64.wrap (t.2.2.2.2.2.2.2.2.2.2.2.2.2.2.1)) ++ [flagI (t.2.2.2.2.2.2.2.2.2.2.2.2.2.2.2.1)] ++ le 8 (IntKind.u64.wrap (t.2.2.2.2.2.2.2.2.2.2.2.2.2.2.2.2.1)) ++ P
theorem unp_pack {t : TenT} (hk : TKey t) (hf : TFit t) (hh : hereB t = true) : unpD (packB t) = (t, none) := by
  have ho := hereB_tok hh
  have hkl := hk.len
  obtain ⟨⟨ta1, ta2⟩, ⟨tl1, tl2⟩⟩ := And.intro hf.ta hf.tl
  have hlo := ho.lost
  have hep := ho.ep
  have hp := pdec_enc (j := t.2.2.2.2.2.2.2.2.1) ho.pol
  have e : packB t = le 1 ((t.1).size : Int) ++ (bytesL (t.1) ++ packR t (pencD t.2.2.1 t.2.2.2.1 t.2.2.2.2.1 t.2.2.2.2.2.1 t.2.2.2.2.2.2.1 t.2.2.2.2.2.2.2.1 t.2.2.2.2.2.2.2.2.1 t.2.2.2.2.2.2.2.2.2.1 t.2.2.2.2.2.2.2.2.2.2.1 t.2.2.2.2.2.2.2.2.2.2.2.1).1) := by simp [packB, packR]
  rw [e]
  generalize (pencD t.2.2.1 t.2.2.2.1 t.2.2.2.2.1 t.2.2.2.2.2.1 t.2.2.2.2.2.2.1 t.2.2.2.2.2.2.2.1 t.2.2.2.2.2.2.2.2.1 t.2.2.2.2.2.2.2.2.2.1 t.2.2.2.2.2.2.2.2.2.2.1 t.2.2.2.2.2.2.2.2.2.2.2.1).1 = P at hp ⊢
  unfold unpD
  have hnm := ho.nm
  rw [txt_le (by omega)]
  simp only
  obtain ⟨t1, key, t3, t4, t5, t6, t7, t8, t9, t10, t11, t12, t13, t14, t15, t16, t17, t18⟩ := t
  simp only at hkl ta1 ta2 tl1 tl2 hlo hep hp hnm ⊢
  unfold packR
  simp only
  have hlen : (key ++ le 8 (IntKind.u64.wrap t18) ++ [flagI t13] ++ le 8 (IntKind.u64.wrap t14) ++ le 8 (IntKind.u64.wrap t15) ++ [flagI t16] ++ le 8 (IntKind.u64.wrap t17) ++ P).length = 50 + P.length := by simp only [List.length_append, le_len, List.length_cons, List.length_nil]; omega
  have e0 : (key ++ le 8 (IntKind.u64.wrap t18) ++ [flagI t13] ++ le 8 (IntKind.u64.wrap t14) ++ le 8 (IntKind.u64.wrap t15) ++ [flagI t16] ++ le 8 (IntKind.u64.wrap t17) ++ P).take 16 = key := by
    simp only [List.append_assoc]; exact List.take_left' hkl
  have e1 : at8 (key ++ le 8 (IntKind.u64.wrap t18) ++ [flagI t13] ++ le 8 (IntKind.u64.wrap t14) ++ le 8 (IntKind.u64.wrap t15) ++ [flagI t16] ++ le 8 (IntKind.u64.wrap t17) ++ P) 16 = t18 := by
    refine Eq.trans ?_ (at8_mid (v := t18) (by omega) (by omega) (A := key) (B := [flagI t13] ++ le 8 (IntKind.u64.wrap t14) ++ le 8 (IntKind.u64.wrap t15) ++ [flagI t16] ++ le 8 (IntKind.u64.wrap t17) ++ P) (i := 16) hkl)
    simp
  have e2 : (key ++ le 8 (IntKind.u64.wrap t18) ++ [flagI t13] ++ le 8 (IntKind.u64.wrap t14) ++ le 8 (IntKind.u64.wrap t15) ++ [flagI t16] ++ le 8 (IntKind.u64.wrap t17) ++ P).getD 24 0 = flagI t13 := by
    refine Eq.trans ?_ (getD_mid (x := flagI t13) (A := key ++ le 8 (IntKind.u64.wrap t18)) (B := le 8 (IntKind.u64.wrap t14) ++ le 8 (IntKind.u64.wrap t15) ++ [flagI t16] ++ le 8 (IntKind.u64.wrap t17) ++ P) (i := 24) (by simp [le_len, hkl]))
    simp
  have e3 : at8 (key ++ le 8 (IntKind.u64.wrap t18) ++ [flagI t13] ++ le 8 (IntKind.u64.wrap t14) ++ le 8 (IntKind.u64.wrap t15) ++ [flagI t16] ++ le 8 (IntKind.u64.wrap t17) ++ P) 25 = t14 := by
    refine Eq.trans ?_ (at8_mid (v := t14) ta1 ta2 (A := key ++ le 8 (IntKind.u64.wrap t18) ++ [flagI t13]) (B := le 8 (IntKind.u64.wrap t15) ++ [flagI t16] ++ le 8 (IntKind.u64.wrap t17) ++ P) (i := 25) (by simp [le_len, hkl]))
    simp
  have e4 : at8 (key ++ le 8 (IntKind.u64.wrap t18) ++ [flagI t13] ++ le 8 (IntKind.u64.wrap t14) ++ le 8 (IntKind.u64.wrap t15) ++ [flagI t16] ++ le 8 (IntKind.u64.wrap t17) ++ P) 33 = t15 := by
    refine Eq.trans ?_ (at8_mid (v := t15) (by omega) (by omega) (A := key ++ le 8 (IntKind.u64.wrap t18) ++ [flagI t13] ++ le 8 (IntKind.u64.wrap t14)) (B := [flagI t16] ++ le 8 (IntKind.u64.wrap t17) ++ P) (i := 33) (by simp [le_len, hkl]))
    simp
  have e5 : (key ++ le 8 (IntKind.u64.wrap t18) ++ [flagI t13] ++ le 8 (IntKind.u64.wrap t14) ++ le 8 (IntKind.u64.wrap t15) ++ [flagI t16] ++ le 8 (IntKind.u64.wrap t17) ++ P).getD 41 0 = flagI t16 := by
    refine Eq.trans ?_ (getD_mid (x := flagI t16) (A := key ++ le 8 (IntKind.u64.wrap t18) ++ [flagI t13] ++ le 8 (IntKind.u64.wrap t14) ++ le 8 (IntKind.u64.wrap t15)) (B := le 8 (IntKind.u64.wrap t17) ++ P) (i := 41) (by simp [le_len, hkl]))
    simp
  have e6 : at8 (key ++ le 8 (IntKind.u64.wrap t18) ++ [flagI t13] ++ le 8 (IntKind.u64.wrap t14) ++ le 8 (IntKind.u64.wrap t15) ++ [flagI t16] ++ le 8 (IntKind.u64.wrap t17) ++ P) 42 = t17 := by
    refine Eq.trans ?_ (at8_mid (v := t17) tl1 tl2 (A := key ++ le 8 (IntKind.u64.wrap t18) ++ [flagI t13] ++ le 8 (IntKind.u64.wrap t14) ++ le 8 (IntKind.u64.wrap t15) ++ [flagI t16]) (B := P) (i := 42) (by simp [le_len, hkl]))
    simp
  have e7 : (key ++ le 8 (IntKind.u64.wrap t18) ++ [flagI t13] ++ le 8 (IntKind.u64.wrap t14) ++ le 8 (IntKind.u64.wrap t15) ++ [flagI t16] ++ le 8 (IntKind.u64.wrap t17) ++ P).drop 50 = P := drop_mid (by simp [le_len, hkl])
  generalize key ++ le 8 (IntKind.u64.wrap t18) ++ [flagI t13] ++ le 8 (IntKind.u64.wrap t14) ++ le 8 (IntKind.u64.wrap t15) ++ [flagI t16] ++ le 8 (IntKind.u64.wrap t17) ++ P = y at hlen e0 e1 e2 e3 e4 e5 e6 e7 ⊢
  have hten : tenOf t1 y (pdecD (y.drop 50)).1 = (t1, key, t3, t4, t5, t6, t7, t8, t9, t10, t11, t12, t13, t14, t15, t16, t17, t18) := by
    unfold tenOf
    rw [e0, e1, e2, e3, e4, e5, e6, e7, hp, flag_eq, flag_eq]
  rw [if_neg (by rintro (h | h); cases h; omega), hten, e2, e5, e7, hp]
  rw [if_neg (by
    rintro (h | h | h | h)
    · exact h rfl
    · exact flag_le _ h
    · exact flag_le _ h
    · rw [hh] at h; cases h)]
theorem packB_len16 {t : TenT} (hk : TKey t) (h : hereB t = true) : (packB t).length ≤ 800 := by
  have ho := hereB_tok h
  have h4 := penc_len 16 (j := t.2.2.2.2.2.2.2.2.1) ho.pol ho.zL
  have h5 := hk.len
  have h1 := ho.nm
  simp only [packB, List.length_append, le_len, bytesL_len, List.length_cons, List.length_nil]
  omega
theorem beq_toL {s t : ByteArray} (h : (s.toList == t.toList) = true) : s = t := by
  rw [Lib.toList_data, Lib.toList_data] at h
  have h := eq_of_beq h
  have h2 : s.data = t.data := by
    rw [← Array.toArray_toList (xs := s.data), ← Array.toArray_toList (xs := t.data), h]
  cases s; cases t; simp_all
theorem rulEq_eq : ∀ {L M : List Rul}, rulEq L M = true → L = M
  | [], [], _ => rfl
  | [], _ :: _, h => by cases h
  | _ :: _, [], h => by cases h
  | r :: L, q :: M, h => by
    simp only [rulEq, Bool.and_eq_true, beq_iff_eq] at h
    have h1 : r.1 = q.1 := by simp_all
    have h2 : r.2.1 = q.2.1 := by simp_all
    have h3 : r.2.2 = q.2.2 := beq_toL (by simp_all)
    have h4 : L = M := rulEq_eq (by simp_all)
    obtain ⟨r1, r2, r3⟩ := r
    obtain ⟨q1, q2, q3⟩ := q
    simp_all
theorem eqP_eq {p q : PolT} (h : eqP p q = true) : p = q := by
  obtain ⟨p1, p2, p3, p4, p5, p6, p7, p8, p9, p0⟩ := p
  obtain ⟨q1, q2, q3, q4, q5, q6, q7, q8, q9, q0⟩ := q
  simp only [eqP, eqZ, Bool.and_eq_true, beq_iff_eq] at h
  obtain ⟨⟨h1, h2, h3⟩, h4, ⟨h5, h6⟩, h7, h8, h9, h0⟩ := h
  have h8 : p8 = q8 := beq_toL (by simp [h8])
  have h0 := rulEq_eq h0
  subst h1 h2 h3 h4 h5 h6 h7 h8 h9 h0
  rfl
theorem alikeB_eq {s t : TenT} (h : alikeB s t = true) : s = t := by
  simp only [alikeB, Bool.and_eq_true] at h
  obtain ⟨h0, h1, h17, ⟨h12, h13, h14⟩, ⟨h15, h16⟩, hp⟩ := h
  have h0 := beq_toL h0
  have hp := eqP_eq hp
  obtain ⟨s1, s2, s3, s4, s5, s6, s7, s8, s9, s10, s11, s12, s13, s14, s15, s16, s17, s18⟩ := s
  obtain ⟨t1, t2, t3, t4, t5, t6, t7, t8, t9, t10, t11, t12, t13, t14, t15, t16, t17, t18⟩ := t
  simp only [polT, Prod.mk.injEq, beq_iff_eq] at *
  simp_all
theorem eqM_eq {k1 e1 : Int} {n1 : ByteArray} {s : TenT} {k2 e2 : Int} {n2 : ByteArray} {t : TenT} (h : eqM k1 e1 n1 s k2 e2 n2 t = true) : k1 = k2 ∧ e1 = e2 ∧ n1 = n2 ∧ s = t := by
  simp only [eqM, Bool.and_eq_true, beq_iff_eq] at h
  exact ⟨h.1, h.2.1, beq_toL (by simp [h.2.2.1]), alikeB_eq h.2.2.2⟩
theorem eqM_self (k e : Int) (n : ByteArray) (t : TenT) : eqM k e n t k e n t = true := by
  unfold eqM; rw [alikeB_self]; simp
theorem menc_eq {kd ep : Int} {nm : ByteArray} {t : TenT} (hk : TKey t) (h : mayM kd ep nm t = true) : mencD kd ep nm t = (sealedL (headL 2 (msgB kd ep nm t) ++ msgB kd ep nm t), none) ∧ (msgB kd ep nm t).length ≤ 1024 := by
  have ho := mayM_ok h
  have hn := ho.hnm
  have hl : (msgB kd ep nm t).length ≤ 1024 := by
    unfold msgB
    by_cases e : kd = 1
    · have := packB_len16 hk (ho.hhe e).1
      rw [show (kd == 1) = true by simpa using e]
      simp only [cond_true, List.length_append, le_len, bytesL_len, List.length_cons, List.length_nil]; omega
    · rw [show (kd == 1) = false by simpa using e]
      simp only [cond_false, List.length_append, le_len, bytesL_len, List.length_cons, List.length_nil]; omega
  refine ⟨?_, hl⟩
  unfold mencD sealD
  rw [if_pos h, if_pos (by decide), if_neg (by omega)]
theorem mdec_enc {kd ep : Int} {nm : ByteArray} {t : TenT} (hk : TKey t) (hf : TFit t) (h : mayM kd ep nm t = true) : mdecD (mencD kd ep nm t).1 = ((kd, ep, nm, t), none) := by
  have ho := mayM_ok h
  have hn := ho.hnm
  have hkd := ho.hkd
  have hep := ho.hep
  obtain ⟨he, hl⟩ := menc_eq hk h
  rw [he]
  unfold mdecD
  rw [openD_seal (by decide) hl]
  simp only
  have hu := wu64_lt ep
  have e : ∀ q, msgB kd ep nm t = q → q = le 1 kd ++ (le 8 (IntKind.u64.wrap ep) ++ (le 1 (nm.size : Int) ++ (bytesL nm ++ (bif kd == 1 then packB t else [])))) := by
    rintro q rfl
    simp [msgB, le, show kd % 256 = kd by omega]
  rw [e _ rfl]
  rw [tk_le (n := 1) (by omega) (by simp; omega)]
  simp only
  rw [tk_le (n := 8) hu.1 (by simpa using hu.2)]
  simp only
  rw [txt_le (by omega)]
  simp only
  rw [wi64_u64 (by omega) (by omega)]
  by_cases e1 : kd = 1
  · subst e1
    have hh := (ho.hhe rfl).1
    simp only [beq_self_eq_true, cond_true]
    rw [unp_pack hk hf hh]
    simp [h]
  · have ht := alikeB_eq (ho.hno e1)
    rw [show (kd == 1) = false by simpa using e1]
    simp only [cond_false]
    rw [← ht]
    simp only [if_neg e1]
    rw [h, if_neg (by rintro (q | q); cases q; exact q rfl)]
    simp
end Go.Proofs.YtihignmcjldiiaaGreatDoor.Mir
namespace Go.Proofs.YtihignmcjldiiaaGreatDoor.Mir
open Go Go.RowKit
set_option maxRecDepth 100000
theorem give_loop31 (N : Nat) {n : ByteArray} {f : Int} {L : List Rul} (hL : L.length ≤ 4398046511104) (z : ByteArray × Int × List Rul) : ∀ (k M i : Nat) (acc : List Rul), i + k = L.length → k < M → acc.length = i →
    iter (b_79_0 N) M ((), (), (), (i : Int), (n, f, L), z, (n, f, acc)) = some ((), (), z, (n, f, acc ++ L.drop i)) := by
  intro k
  induction k with
  | zero =>
    intro M i acc hi hM ha
    obtain ⟨M, rfl⟩ : ∃ m, M = m + 1 := ⟨M - 1, by omega⟩
    show b_79_0 N (iter (b_79_0 N) M) _ = _
    unfold b_79_0
    simp only
    rw [decide_eq_false (show ¬ (i : Int) < (L.length : Int) by omega), List.drop_eq_nil_of_le (by omega), List.append_nil]; rfl
  | succ k ih =>
    intro M i acc hi hM ha
    obtain ⟨M, rfl⟩ : ∃ m, M = m + 1 := ⟨M - 1, by omega⟩
    have ih' := ih M (i + 1) (acc ++ [gR L i]) (by omega) (by omega) (by rw [List.length_append, ha]; rfl)
    show b_79_0 N (iter (b_79_0 N) M) _ = _
    generalize iter (b_79_0 N) M = I at ih' ⊢
    unfold b_79_0
    simp only
    rw [decide_eq_true (show (i : Int) < (L.length : Int) by omega), decide_eq_true (show 0 ≤ (i : Int) ∧ (i : Int) < (L.length : Int) by omega), wi64 (n := (i : Int) + 1) (by omega) (by omega), show (i : Int) + 1 = ((i + 1 : Nat) : Int) by omega]
    simp only [cond_true, Int.toNat_natCast]
    show (bif decide ((acc.length + [gR L i].length) * 32 ≤ 140737488355328) then I ((), (), (), ((i + 1 : Nat) : Int), (n, f, L), z, (n, f, acc ++ [gR L i])) else none) = _
    rw [decide_eq_true (by rw [List.length_singleton]; omega), cond_true, ih', List.append_assoc]
    have hi' : i < L.length := by omega
    have e : gR L i = L[i] := by unfold gR; rw [List.getD_eq_getElem?_getD, List.getElem?_eq_getElem hi']; rfl
    rw [List.drop_eq_getElem_cons hi', e]; rfl
theorem give_at31 {N : Nat} (n : ByteArray) (f : Int) {L : List Rul} (hL : L.length ≤ 4398046511104) (hN : L.length < N) : f_79 N n f L = some (n, f, L) := by
  have h := give_loop31 N (n := n) (f := f) hL (ByteArray.empty, 0, []) L.length N 0 [] (by omega) hN rfl
  have h' : l_79_0 N ((), (), (), 0, (n, f, L), (ByteArray.empty, 0, []), (n, f, [])) = some ((), (), (ByteArray.empty, 0, []), (n, f, L)) := h
  unfold f_79
  rw [h']; rfl
theorem big_loop31 (N : Nat) {n : ByteArray} {f : Int} {L : List Rul} : ∀ (k M i : Nat), i + k = 60 → k < M → ∃ r, iter (b_24_0 N) M ((), (i : Int), (n, f, L)) = some r ∧ (r = .inl true ∨ (r = .inr ((), (n, f, L)) ∧ ∀ j, i ≤ j → j < L.length → j < 60 → (gR L j).2.2.size ≤ 200)) := by
  intro k
  induction k with
  | zero =>
    intro M i hi hM
    obtain ⟨M, rfl⟩ : ∃ m, M = m + 1 := ⟨M - 1, by omega⟩
    refine ⟨.inr ((), (n, f, L)), ?_, .inr ⟨rfl, fun j h1 h2 h3 => by omega⟩⟩
    show b_24_0 N (iter (b_24_0 N) M) _ = _
    unfold b_24_0
    simp only
    rw [decide_eq_false (show ¬ (i : Int) < 60 by omega)]
    cases decide ((i : Int) < (L.length : Int)) <;> rfl
  | succ k ih =>
    intro M i hi hM
    obtain ⟨M, rfl⟩ : ∃ m, M = m + 1 := ⟨M - 1, by omega⟩
    obtain ⟨r, h1, h2⟩ := ih M (i + 1) (by omega) (by omega)
    by_cases hl : i < L.length
    · by_cases hs : (gR L i).2.2.size > 200
      · refine ⟨.inl true, ?_, .inl rfl⟩
        show b_24_0 N (iter (b_24_0 N) M) _ = _
        unfold b_24_0
        simp only
        rw [decide_eq_true (show (i : Int) < 60 by omega), decide_eq_true (show (i : Int) < (L.length : Int) by omega), decide_eq_true (show 0 ≤ (i : Int) ∧ (i : Int) < (L.length : Int) by omega), Int.toNat_natCast]
        show (bif decide (((gR L i).2.2.size : Int) > 200) then _ else _) = _
        rw [decide_eq_true (by omega)]; rfl
      · refine ⟨r, ?_, ?_⟩
        · rw [← h1]
          show b_24_0 N (iter (b_24_0 N) M) _ = _
          generalize iter (b_24_0 N) M = I
          unfold b_24_0
          simp only
          rw [decide_eq_true (show (i : Int) < 60 by omega), decide_eq_true (show (i : Int) < (L.length : Int) by omega), decide_eq_true (show 0 ≤ (i : Int) ∧ (i : Int) < (L.length : Int) by omega), Int.toNat_natCast, wi64 (n := (i : Int) + 1) (by omega) (by omega)]
          show (bif decide (((gR L i).2.2.size : Int) > 200) then _ else _) = _
          rw [decide_eq_false (by omega)]; rfl
        · rcases h2 with h2 | ⟨h2, h3⟩
          · exact .inl h2
          · refine .inr ⟨h2, fun j a b c => ?_⟩
            by_cases hj : j = i
            · subst hj; omega
            · exact h3 j (by omega) b c
    · refine ⟨.inr ((), (n, f, L)), ?_, .inr ⟨rfl, fun j h1 h2 h3 => by omega⟩⟩
      show b_24_0 N (iter (b_24_0 N) M) _ = _
      unfold b_24_0
      simp only
      rw [decide_eq_false (show ¬ (i : Int) < (L.length : Int) by omega)]; rfl
theorem big_at31 {N : Nat} (n : ByteArray) (f : Int) (L : List Rul) (hN : 61 ≤ N) : ∃ b, f_24 N n f L = some b ∧ (b = false → L.length ≤ 60 ∧ n.size ≤ 200 ∧ ∀ i, i < L.length → (gR L i).2.2.size ≤ 200) := by
  obtain ⟨r, h1, h2⟩ := big_loop31 N (n := n) (f := f) (L := L) 60 N 0 rfl (by omega)
  have h' : l_24_0 N ((), 0, (n, f, L)) = some r := h1
  unfold f_24
  rw [h']
  rcases h2 with rfl | ⟨rfl, h3⟩
  · exact ⟨true, rfl, fun h => by cases h⟩
  · show ∃ b, (bif decide ((L.length : Int) > 60) then some true else some (decide ((n.size : Int) > 200))) = some b ∧ _
    by_cases hl : L.length > 60
    · rw [decide_eq_true (show (L.length : Int) > 60 by omega)]
      exact ⟨true, rfl, fun h => by cases h⟩
    · rw [decide_eq_false (show ¬ (L.length : Int) > 60 by omega)]
      refine ⟨_, rfl, fun h => ?_⟩
      have := of_decide_eq_false h
      exact ⟨by omega, by omega, fun i hi => h3 i (Nat.zero_le _) hi (by omega)⟩
theorem isz_loop31 (N : Nat) {n n2 : ByteArray} {f f2 : Int} {L L2 : List Rul} (hl : L.length = L2.length) (hL : L.length ≤ 1000000) : ∀ (k M i : Nat), i + k = L.length → k < M → iter (b_90_0 N) M ((), (), (i : Int), (n, f, L), (n2, f2, L2)) = bif rulEq (L.drop i) (L2.drop i) then some (.inr ()) else some (.inl false) := by
  intro k
  induction k with
  | zero =>
    intro M i hi hM
    obtain ⟨M, rfl⟩ : ∃ m, M = m + 1 := ⟨M - 1, by omega⟩
    show b_90_0 N (iter (b_90_0 N) M) _ = _
    generalize iter (b_90_0 N) M = T
    unfold b_90_0
    simp only
    rw [decide_eq_false (show ¬ (i : Int) < (L.length : Int) by omega), List.drop_eq_nil_of_le (by omega), List.drop_eq_nil_of_le (by omega)]; rfl
  | succ k ih =>
    intro M i hi hM
    obtain ⟨M, rfl⟩ : ∃ m, M = m + 1 := ⟨M - 1, by omega⟩
    have key := ih M (i + 1) (by omega) (by omega)
    show b_90_0 N (iter (b_90_0 N) M) _ = _
    generalize iter (b_90_0 N) M = T at key ⊢
    have h1 : i < L.length := by omega
    have h2 : i < L2.length := by omega
    have g1 : L.getD (Int.toNat (i : Int)) (0, 0, ByteArray.empty) = L[i] := by rw [Int.toNat_natCast, List.getD_eq_getElem?_getD, List.getElem?_eq_getElem h1]; rfl
    have g2 : L2.getD (Int.toNat (i : Int)) (0, 0, ByteArray.empty) = L2[i] := by rw [Int.toNat_natCast, List.getD_eq_getElem?_getD, List.getElem?_eq_getElem h2]; rfl
    unfold b_90_0
    simp only
    rw [decide_eq_true (show (i : Int) < (L.length : Int) by omega), decide_eq_true (show 0 ≤ (i : Int) ∧ (i : Int) < (L.length : Int) by omega), decide_eq_true (show 0 ≤ (i : Int) ∧ (i : Int) < (L2.length : Int) by omega), g1, g2, wi64 (by omega) (by omega), show (i : Int) + 1 = ((i + 1 : Nat) : Int) by omega, key, List.drop_eq_getElem_cons h1, List.drop_eq_getElem_cons h2]
    simp only [cond_true, rulEq]
    generalize (L[i].1 == L2[i].1 && (L[i].2.1 == L2[i].2.1 && L[i].2.2.toList == L2[i].2.2.toList)) = q
    cases q <;> rfl
theorem isz_at31 {N : Nat} (n n2 : ByteArray) (f f2 : Int) {L L2 : List Rul} (hL : L.length ≤ 1000000) (hN : L.length < N) : f_90 N n f L n2 f2 L2 = some (eqZ n f L n2 f2 L2) := by
  unfold f_90 l_90_0 eqZ
  cases hn : (n.toList == n2.toList) with
  | false => rfl
  | true =>
    cases hf : (f == f2) with
    | false => simp [bne, hf]
    | true =>
      by_cases hl : L.length = L2.length
      · have h := isz_loop31 N (n := n) (n2 := n2) (f := f) (f2 := f2) hl hL L.length N 0 (by omega) (by omega)
        rw [show ((0 : Nat) : Int) = 0 from rfl] at h
        rw [h]
        simp only [bne, hf, Bool.not_true, cond_false, hl, beq_self_eq_true, List.drop_zero, Bool.true_and]
        cases rulEq L L2 <;> rfl
      · have e : ((L.length : Int) != (L2.length : Int)) = true := by simp; omega
        rw [e, rulEq_len hl]
        simp [bne, hf]
theorem isz_self31 {N : Nat} (n : ByteArray) (f : Int) {L : List Rul} (hL : L.length ≤ 1000000) (hN : L.length < N) : f_90 N n f L n f L = some true := by
  rw [isz_at31 n n f f hL hN, eqZ_self]
end Go.Proofs.YtihignmcjldiiaaGreatDoor.Mir
namespace Go.Proofs.YtihignmcjldiiaaGreatDoor.Mir
open Go Go.RowKit
set_option maxRecDepth 100000
theorem num_at31 (N : Nat) (e : Option Int) : f_21 N e = some (errN e) := by cases e <;> rfl
theorem pgive_at31 {N : Nat} (k b a q w c : Int) (j : Bool) (n : ByteArray) (f : Int) {L : List Rul} (hL : L.length ≤ 4398046511104) (hN : L.length < N) : f_49 N k b a q w c j n f L = some (k, b, a, q, w, c, j, n, f, L) := by
  unfold f_49
  rw [give_at31 n f hL hN]; rfl
theorem pis_at31 {N : Nat} (p q : PolT) (hL : p.2.2.2.2.2.2.2.2.2.length ≤ 1000000) (hN : p.2.2.2.2.2.2.2.2.2.length < N) :
    f_57 N p.1 p.2.1 p.2.2.1 p.2.2.2.1 p.2.2.2.2.1 p.2.2.2.2.2.1 p.2.2.2.2.2.2.1 p.2.2.2.2.2.2.2.1 p.2.2.2.2.2.2.2.2.1 p.2.2.2.2.2.2.2.2.2 q.1 q.2.1 q.2.2.1 q.2.2.2.1 q.2.2.2.2.1 q.2.2.2.2.2.1 q.2.2.2.2.2.2.1 q.2.2.2.2.2.2.2.1 q.2.2.2.2.2.2.2.2.1 q.2.2.2.2.2.2.2.2.2 = some (eqP p q) := by
  unfold f_57 eqP
  rw [isz_at31 _ _ _ _ hL hN]
  generalize (p.1 == q.1 && (p.2.1 == q.2.1 && p.2.2.1 == q.2.2.1)) = c1
  generalize (p.2.2.2.1 == q.2.2.2.1) = c2
  generalize (p.2.2.2.2.1 == q.2.2.2.2.1 && p.2.2.2.2.2.1 == q.2.2.2.2.2.1) = c3
  generalize (p.2.2.2.2.2.2.1 == q.2.2.2.2.2.2.1) = c4
  cases c1 <;> cases c2 <;> cases c3 <;> cases c4 <;> rfl
theorem tgive_at31 {N : Nat} (t : TenT) (hL : (t.2.2.2.2.2.2.2.2.2.2.2.1).length ≤ 4398046511104) (hN : (t.2.2.2.2.2.2.2.2.2.2.2.1).length < N) : f_16 N t.1 t.2.1 t.2.2.1 t.2.2.2.1 t.2.2.2.2.1 t.2.2.2.2.2.1 t.2.2.2.2.2.2.1 t.2.2.2.2.2.2.2.1 t.2.2.2.2.2.2.2.2.1 t.2.2.2.2.2.2.2.2.2.1 t.2.2.2.2.2.2.2.2.2.2.1 t.2.2.2.2.2.2.2.2.2.2.2.1 t.2.2.2.2.2.2.2.2.2.2.2.2.1 t.2.2.2.2.2.2.2.2.2.2.2.2.2.1 t.2.2.2.2.2.2.2.2.2.2.2.2.2.2.1 t.2.2.2.2.2.2.2.2.2.2.2.2.2.2.2.1 t.2.2.2.2.2.2.2.2.2.2.2.2.2.2.2.2.1 t.2.2.2.2.2.2.2.2.2.2.2.2.2.2.2.2.2 = some t := by
  unfold f_16
  rw [pgive_at31 _ _ _ _ _ _ _ _ _ hL hN]; rfl
theorem tis_at31 {N : Nat} (s t : TenT) (hL : (s.2.2.2.2.2.2.2.2.2.2.2.1).length ≤ 1000000) (hN : (s.2.2.2.2.2.2.2.2.2.2.2.1).length < N) : f_22 N s.1 s.2.1 s.2.2.1 s.2.2.2.1 s.2.2.2.2.1 s.2.2.2.2.2.1 s.2.2.2.2.2.2.1 s.2.2.2.2.2.2.2.1 s.2.2.2.2.2.2.2.2.1 s.2.2.2.2.2.2.2.2.2.1 s.2.2.2.2.2.2.2.2.2.2.1 s.2.2.2.2.2.2.2.2.2.2.2.1 s.2.2.2.2.2.2.2.2.2.2.2.2.1 s.2.2.2.2.2.2.2.2.2.2.2.2.2.1 s.2.2.2.2.2.2.2.2.2.2.2.2.2.2.1 s.2.2.2.2.2.2.2.2.2.2.2.2.2.2.2.1 s.2.2.2.2.2.2.2.2.2.2.2.2.2.2.2.2.1 s.2.2.2.2.2.2.2.2.2.2.2.2.2.2.2.2.2 t.1 t.2.1 t.2.2.1 t.2.2.2.1 t.2.2.2.2.1 t.2.2.2.2.2.1 t.2.2.2.2.2.2.1 t.2.2.2.2.2.2.2.1 t.2.2.2.2.2.2.2.2.1 t.2.2.2.2.2.2.2.2.2.1 t.2.2.2.2.2.2.2.2.2.2.1 t.2.2.2.2.2.2.2.2.2.2.2.1 t.2.2.2.2.2.2.2.2.2.2.2.2.1 t.2.2.2.2.2.2.2.2.2.2.2.2.2.1 t.2.2.2.2.2.2.2.2.2.2.2.2.2.2.1 t.2.2.2.2.2.2.2.2.2.2.2.2.2.2.2.1 t.2.2.2.2.2.2.2.2.2.2.2.2.2.2.2.2.1 t.2.2.2.2.2.2.2.2.2.2.2.2.2.2.2.2.2 = some (alikeB s t) := by
  unfold f_22 alikeB
  rw [show f_57 N s.2.2.1 s.2.2.2.1 s.2.2.2.2.1 s.2.2.2.2.2.1 s.2.2.2.2.2.2.1 s.2.2.2.2.2.2.2.1 s.2.2.2.2.2.2.2.2.1 s.2.2.2.2.2.2.2.2.2.1 s.2.2.2.2.2.2.2.2.2.2.1 s.2.2.2.2.2.2.2.2.2.2.2.1 t.2.2.1 t.2.2.2.1 t.2.2.2.2.1 t.2.2.2.2.2.1 t.2.2.2.2.2.2.1 t.2.2.2.2.2.2.2.1 t.2.2.2.2.2.2.2.2.1 t.2.2.2.2.2.2.2.2.2.1 t.2.2.2.2.2.2.2.2.2.2.1 t.2.2.2.2.2.2.2.2.2.2.2.1 = _ from pis_at31 (polT s) (polT t) hL hN]
  simp only [Option.bind_some]
  generalize (s.1.toList == t.1.toList) = c1
  generalize (s.2.1 == t.2.1) = c2
  generalize eqP (polT s) (polT t) = c3
  generalize ((s.2.2.2.2.2.2.2.2.2.2.2.2.1 == t.2.2.2.2.2.2.2.2.2.2.2.2.1) && ((s.2.2.2.2.2.2.2.2.2.2.2.2.2.1 == t.2.2.2.2.2.2.2.2.2.2.2.2.2.1) && (s.2.2.2.2.2.2.2.2.2.2.2.2.2.2.1 == t.2.2.2.2.2.2.2.2.2.2.2.2.2.2.1))) = c4
  generalize ((s.2.2.2.2.2.2.2.2.2.2.2.2.2.2.2.1 == t.2.2.2.2.2.2.2.2.2.2.2.2.2.2.2.1) && (s.2.2.2.2.2.2.2.2.2.2.2.2.2.2.2.2.1 == t.2.2.2.2.2.2.2.2.2.2.2.2.2.2.2.2.1)) = c5
  generalize (s.2.2.2.2.2.2.2.2.2.2.2.2.2.2.2.2.2 == t.2.2.2.2.2.2.2.2.2.2.2.2.2.2.2.2.2) = c6
  cases c1 <;> cases c2 <;> cases c3 <;> cases c4 <;> cases c5 <;> cases c6 <;> rfl
structure TBig31 (t : TenT) : Prop where
  zL : (t.2.2.2.2.2.2.2.2.2.2.2.1).length ≤ 60
  zn : (t.2.2.2.2.2.2.2.2.2.1).size ≤ 200
  rn : ∀ i, i < (t.2.2.2.2.2.2.2.2.2.2.2.1).length → (gR (t.2.2.2.2.2.2.2.2.2.2.2.1) i).2.2.size ≤ 200
  n : (t.1).size ≤ 100
theorem tbig_at31 {N : Nat} (t : TenT) (hN : 60 < N) : ∃ g, f_7 N t.1 t.2.1 t.2.2.1 t.2.2.2.1 t.2.2.2.2.1 t.2.2.2.2.2.1 t.2.2.2.2.2.2.1 t.2.2.2.2.2.2.2.1 t.2.2.2.2.2.2.2.2.1 t.2.2.2.2.2.2.2.2.2.1 t.2.2.2.2.2.2.2.2.2.2.1 t.2.2.2.2.2.2.2.2.2.2.2.1 t.2.2.2.2.2.2.2.2.2.2.2.2.1 t.2.2.2.2.2.2.2.2.2.2.2.2.2.1 t.2.2.2.2.2.2.2.2.2.2.2.2.2.2.1 t.2.2.2.2.2.2.2.2.2.2.2.2.2.2.2.1 t.2.2.2.2.2.2.2.2.2.2.2.2.2.2.2.2.1 t.2.2.2.2.2.2.2.2.2.2.2.2.2.2.2.2.2 = some g ∧ (g = false → TBig31 t) := by
  obtain ⟨g, h1, h2⟩ := big_at31 (N := N) (t.2.2.2.2.2.2.2.2.2.1) (t.2.2.2.2.2.2.2.2.2.2.1) (t.2.2.2.2.2.2.2.2.2.2.2.1) hN
  unfold f_7
  rw [h1]
  cases g with
  | true => exact ⟨true, rfl, fun h => by cases h⟩
  | false =>
    obtain ⟨b1, b2, b3⟩ := h2 rfl
    refine ⟨_, rfl, fun h => ⟨b1, b2, b3, ?_⟩⟩
    have := of_decide_eq_false h
    omega
theorem TBig31.fit {t : TenT} (h : TBig31 t) (ha : R64 (t.2.2.2.2.2.2.2.2.2.2.2.2.2.1)) (hl : R64 (t.2.2.2.2.2.2.2.2.2.2.2.2.2.2.2.2.1)) : TFit t :=
  ⟨by have := h.n; omega, by have := h.zn; omega, by have := h.zL; omega, fun i hi => by have := h.rn i hi; omega, ha, hl⟩
end Go.Proofs.YtihignmcjldiiaaGreatDoor.Mir
namespace Go.Proofs.YtihignmcjldiiaaGreatDoor.Mir
open Go Go.RowKit
set_option maxRecDepth 100000
theorem msure_at (n : Nat) : f_8 (n + 3000) = some true := by kernel_rfl
abbrev mten (m : MsgT) : TenT := m.2.2.2
theorem mgive_at {N : Nat} (m : MsgT) (hL : ((mten m).2.2.2.2.2.2.2.2.2.2.2.1).length ≤ 4398046511104) (hN : ((mten m).2.2.2.2.2.2.2.2.2.2.2.1).length < N) : f_6 N m.1 m.2.1 m.2.2.1 m.2.2.2.1 m.2.2.2.2.1 m.2.2.2.2.2.1 m.2.2.2.2.2.2.1 m.2.2.2.2.2.2.2.1 m.2.2.2.2.2.2.2.2.1 m.2.2.2.2.2.2.2.2.2.1 m.2.2.2.2.2.2.2.2.2.2.1 m.2.2.2.2.2.2.2.2.2.2.2.1 m.2.2.2.2.2.2.2.2.2.2.2.2.1 m.2.2.2.2.2.2.2.2.2.2.2.2.2.1 m.2.2.2.2.2.2.2.2.2.2.2.2.2.2.1 m.2.2.2.2.2.2.2.2.2.2.2.2.2.2.2.1 m.2.2.2.2.2.2.2.2.2.2.2.2.2.2.2.2.1 m.2.2.2.2.2.2.2.2.2.2.2.2.2.2.2.2.2.1 m.2.2.2.2.2.2.2.2.2.2.2.2.2.2.2.2.2.2.1 m.2.2.2.2.2.2.2.2.2.2.2.2.2.2.2.2.2.2.2.1 m.2.2.2.2.2.2.2.2.2.2.2.2.2.2.2.2.2.2.2.2 = some m := by
  unfold f_6
  rw [show f_16 N m.2.2.2.1 m.2.2.2.2.1 m.2.2.2.2.2.1 m.2.2.2.2.2.2.1 m.2.2.2.2.2.2.2.1 m.2.2.2.2.2.2.2.2.1 m.2.2.2.2.2.2.2.2.2.1 m.2.2.2.2.2.2.2.2.2.2.1 m.2.2.2.2.2.2.2.2.2.2.2.1 m.2.2.2.2.2.2.2.2.2.2.2.2.1 m.2.2.2.2.2.2.2.2.2.2.2.2.2.1 m.2.2.2.2.2.2.2.2.2.2.2.2.2.2.1 m.2.2.2.2.2.2.2.2.2.2.2.2.2.2.2.1 m.2.2.2.2.2.2.2.2.2.2.2.2.2.2.2.2.1 m.2.2.2.2.2.2.2.2.2.2.2.2.2.2.2.2.2.1 m.2.2.2.2.2.2.2.2.2.2.2.2.2.2.2.2.2.2.1 m.2.2.2.2.2.2.2.2.2.2.2.2.2.2.2.2.2.2.2.1 m.2.2.2.2.2.2.2.2.2.2.2.2.2.2.2.2.2.2.2.2 = _ from tgive_at31 (mten m) hL hN]
  rfl
def eqMT (m n : MsgT) : Bool := eqM m.1 m.2.1 m.2.2.1 m.2.2.2 n.1 n.2.1 n.2.2.1 n.2.2.2
def mencT (m : MsgT) : List Int × Option Int := mencD m.1 m.2.1 m.2.2.1 m.2.2.2
def mayMT (m : MsgT) : Bool := mayM m.1 m.2.1 m.2.2.1 m.2.2.2
theorem mencT_at {N : Nat} (hN : 3000 ≤ N) (m : MsgT) (h : TFit (mten m)) (hk : TKey (mten m)) : f_9 N m.1 m.2.1 m.2.2.1 m.2.2.2.1 m.2.2.2.2.1 m.2.2.2.2.2.1 m.2.2.2.2.2.2.1 m.2.2.2.2.2.2.2.1 m.2.2.2.2.2.2.2.2.1 m.2.2.2.2.2.2.2.2.2.1 m.2.2.2.2.2.2.2.2.2.2.1 m.2.2.2.2.2.2.2.2.2.2.2.1 m.2.2.2.2.2.2.2.2.2.2.2.2.1 m.2.2.2.2.2.2.2.2.2.2.2.2.2.1 m.2.2.2.2.2.2.2.2.2.2.2.2.2.2.1 m.2.2.2.2.2.2.2.2.2.2.2.2.2.2.2.1 m.2.2.2.2.2.2.2.2.2.2.2.2.2.2.2.2.1 m.2.2.2.2.2.2.2.2.2.2.2.2.2.2.2.2.2.1 m.2.2.2.2.2.2.2.2.2.2.2.2.2.2.2.2.2.2.1 m.2.2.2.2.2.2.2.2.2.2.2.2.2.2.2.2.2.2.2.1 m.2.2.2.2.2.2.2.2.2.2.2.2.2.2.2.2.2.2.2.2 = some (mencT m) := menc_at hN m.1 m.2.1 m.2.2.1 h hk
theorem mchkT_at {N : Nat} (hN : 3000 ≤ N) (m : MsgT) (h : TFit (mten m)) : f_10 N m.1 m.2.1 m.2.2.1 m.2.2.2.1 m.2.2.2.2.1 m.2.2.2.2.2.1 m.2.2.2.2.2.2.1 m.2.2.2.2.2.2.2.1 m.2.2.2.2.2.2.2.2.1 m.2.2.2.2.2.2.2.2.2.1 m.2.2.2.2.2.2.2.2.2.2.1 m.2.2.2.2.2.2.2.2.2.2.2.1 m.2.2.2.2.2.2.2.2.2.2.2.2.1 m.2.2.2.2.2.2.2.2.2.2.2.2.2.1 m.2.2.2.2.2.2.2.2.2.2.2.2.2.2.1 m.2.2.2.2.2.2.2.2.2.2.2.2.2.2.2.1 m.2.2.2.2.2.2.2.2.2.2.2.2.2.2.2.2.1 m.2.2.2.2.2.2.2.2.2.2.2.2.2.2.2.2.2.1 m.2.2.2.2.2.2.2.2.2.2.2.2.2.2.2.2.2.2.1 m.2.2.2.2.2.2.2.2.2.2.2.2.2.2.2.2.2.2.2.1 m.2.2.2.2.2.2.2.2.2.2.2.2.2.2.2.2.2.2.2.2 = some (bif mayMT m then none else some 1) := mchk_at hN m.1 m.2.1 m.2.2.1 h
theorem msameT_at {N : Nat} (m n : MsgT) (hL : ((mten m).2.2.2.2.2.2.2.2.2.2.2.1).length ≤ 1000000) (hN : ((mten m).2.2.2.2.2.2.2.2.2.2.2.1).length < N) : f_11 N m.1 m.2.1 m.2.2.1 m.2.2.2.1 m.2.2.2.2.1 m.2.2.2.2.2.1 m.2.2.2.2.2.2.1 m.2.2.2.2.2.2.2.1 m.2.2.2.2.2.2.2.2.1 m.2.2.2.2.2.2.2.2.2.1 m.2.2.2.2.2.2.2.2.2.2.1 m.2.2.2.2.2.2.2.2.2.2.2.1 m.2.2.2.2.2.2.2.2.2.2.2.2.1 m.2.2.2.2.2.2.2.2.2.2.2.2.2.1 m.2.2.2.2.2.2.2.2.2.2.2.2.2.2.1 m.2.2.2.2.2.2.2.2.2.2.2.2.2.2.2.1 m.2.2.2.2.2.2.2.2.2.2.2.2.2.2.2.2.1 m.2.2.2.2.2.2.2.2.2.2.2.2.2.2.2.2.2.1 m.2.2.2.2.2.2.2.2.2.2.2.2.2.2.2.2.2.2.1 m.2.2.2.2.2.2.2.2.2.2.2.2.2.2.2.2.2.2.2.1 m.2.2.2.2.2.2.2.2.2.2.2.2.2.2.2.2.2.2.2.2 n.1 n.2.1 n.2.2.1 n.2.2.2.1 n.2.2.2.2.1 n.2.2.2.2.2.1 n.2.2.2.2.2.2.1 n.2.2.2.2.2.2.2.1 n.2.2.2.2.2.2.2.2.1 n.2.2.2.2.2.2.2.2.2.1 n.2.2.2.2.2.2.2.2.2.2.1 n.2.2.2.2.2.2.2.2.2.2.2.1 n.2.2.2.2.2.2.2.2.2.2.2.2.1 n.2.2.2.2.2.2.2.2.2.2.2.2.2.1 n.2.2.2.2.2.2.2.2.2.2.2.2.2.2.1 n.2.2.2.2.2.2.2.2.2.2.2.2.2.2.2.1 n.2.2.2.2.2.2.2.2.2.2.2.2.2.2.2.2.1 n.2.2.2.2.2.2.2.2.2.2.2.2.2.2.2.2.2.1 n.2.2.2.2.2.2.2.2.2.2.2.2.2.2.2.2.2.2.1 n.2.2.2.2.2.2.2.2.2.2.2.2.2.2.2.2.2.2.2.1 n.2.2.2.2.2.2.2.2.2.2.2.2.2.2.2.2.2.2.2.2 = some (eqMT m n) := msame_at m.1 m.2.1 m.2.2.1 (mten m) n.1 n.2.1 n.2.2.1 (mten n) hL hN
theorem eqMT_eq {m n : MsgT} (h : eqMT m n = true) : m = n := by
  obtain ⟨h1, h2, h3, h4⟩ := eqM_eq h
  exact Prod.ext h1 (Prod.ext h2 (Prod.ext h3 h4))
theorem eqMT_self (m : MsgT) : eqMT m m = true := eqM_self _ _ _ _
theorem alikeB_comm (s t : TenT) : alikeB s t = alikeB t s := by
  cases h : alikeB s t with
  | true => rw [alikeB_eq h, alikeB_self]
  | false =>
    cases h2 : alikeB t s with
    | true => rw [alikeB_eq h2, alikeB_self] at h; cases h
    | false => rfl
theorem eqMT_comm (m n : MsgT) : eqMT m n = eqMT n m := by
  cases h : eqMT m n with
  | true => rw [eqMT_eq h, eqMT_self]
  | false =>
    cases h2 : eqMT n m with
    | true => rw [eqMT_eq h2, eqMT_self] at h; cases h
    | false => rfl
theorem mencT_none (m : MsgT) (hk : TKey (mten m)) : Option.isNone (mencT m).2 = mayMT m := by
  unfold mencT mayMT
  cases h : mayM m.1 m.2.1 m.2.2.1 m.2.2.2 with
  | true => rw [(menc_eq hk h).1]; rfl
  | false => unfold mencD; rw [h]; rfl
theorem mencT_by (m : MsgT) (hk : TKey (mten m)) : By (mencT m).1 := by
  unfold mencT
  cases h : mayM m.1 m.2.1 m.2.2.1 m.2.2.2 with
  | true =>
    rw [(menc_eq hk h).1]
    exact sealedL_by ((headL_by (by decide) (by decide) _).append (msgB_by hk h))
  | false => unfold mencD; rw [h]; exact By.nil
theorem mencT_inj {m n : MsgT} (hkm : TKey (mten m)) (hfm : TFit (mten m)) (hkn : TKey (mten n)) (hfn : TFit (mten n)) (h1 : mayMT m = true) (h2 : mayMT n = true) : eqMT m n = ((mencT m).1 == (mencT n).1) := by
  cases h : eqMT m n with
  | true => rw [eqMT_eq h]; simp
  | false =>
    symm
    rw [beq_eq_false_iff_ne]
    intro e
    have d1 : mdecD (mencT m).1 = (m, none) := mdec_enc hkm hfm h1
    have d2 : mdecD (mencT n).1 = (n, none) := mdec_enc hkn hfn h2
    rw [e, d2] at d1
    have := congrArg Prod.fst d1
    simp only at this
    rw [this, eqMT_self] at h
    cases h
theorem bif_sure (b : Bool) : (bif b then (some true : Option Bool) else some true) = some true := by cases b <;> rfl
theorem isN_may (b : Bool) : Option.isNone (bif b then none else some (1 : Int)) = b := by cases b <;> rfl
structure MArg (m : MsgT) : Prop where
  key : TKey (mten m)
  ta : R64 ((mten m).2.2.2.2.2.2.2.2.2.2.2.2.2.1)
  tl : R64 ((mten m).2.2.2.2.2.2.2.2.2.2.2.2.2.2.2.2.1)
  zL : ((mten m).2.2.2.2.2.2.2.2.2.2.2.1).length ≤ 4398046511104
theorem mdecD_fit {xs : List Int} (hb : By xs) : TFit (mten (mdecD xs).1) := by
  unfold mdecD
  split
  · exact ten0_fit
  · have hu := unpD_fit (txt_by (tk_by (n := 8) (tk_by (n := 1) (s := ((openD 2 xs).1, false)) (openD_by (k := 2) hb))))
    simp only
    by_cases e1 : (tk 1 ((openD 2 xs).1, false)).1 = 1
    · simp only [if_pos e1]
      split
      · exact ten0_fit
      · split
        · exact ten0_fit
        · exact hu
    · simp only [if_neg e1]
      split
      · exact ten0_fit
      · split
        · exact ten0_fit
        · exact ten0_fit
end Go.Proofs.YtihignmcjldiiaaGreatDoor.Mir
namespace Go.Proofs.YtihignmcjldiiaaGreatDoor.Mir
open Go Go.RowKit
set_option maxRecDepth 100000
theorem tb31 {v : Nat} (h : v < 2147483648) : v.testBit 31 = false := Nat.testBit_lt_two_pow (by simpa using h)
theorem c1_inj {a b : Nat} (ha : a < 4294967296) (hb : b < 4294967296) (h : c1 a = c1 b) : a = b := by
  have key : ∀ x y : Nat, x < 4294967296 → y < 4294967296 → (x / 2) ^^^ 3988292384 ≠ y / 2 := fun x y hx hy e => by
    have h1 := congrArg (fun n => Nat.testBit n 31) e
    simp only [Nat.testBit_xor] at h1
    rw [tb31 (v := x / 2) (by omega), tb31 (v := y / 2) (by omega)] at h1
    exact absurd h1 (by decide +kernel)
  unfold c1 at h
  by_cases h1 : a % 2 = 1
  · by_cases h2 : b % 2 = 1
    · rw [if_pos h1, if_pos h2] at h
      have h3 : a / 2 = b / 2 := by
        have := congrArg (· ^^^ 3988292384) h
        simpa [Nat.xor_assoc] using this
      omega
    · rw [if_pos h1, if_neg h2] at h
      exact absurd h (key a b ha hb)
  · by_cases h2 : b % 2 = 1
    · rw [if_neg h1, if_pos h2] at h
      exact absurd h.symm (key b a hb ha)
    · rw [if_neg h1, if_neg h2] at h
      omega
theorem cK_inj : ∀ (k : Nat) {a b : Nat}, a < 4294967296 → b < 4294967296 → cK k a = cK k b → a = b
  | 0, _, _, _, _, h => h
  | k + 1, _, _, ha, hb, h => c1_inj ha hb (cK_inj k (c1_lt ha) (c1_lt hb) h)
theorem xor_inj {a b c : Nat} (h : a ^^^ c = b ^^^ c) : a = b := by
  have := congrArg (· ^^^ c) h
  simpa [Nat.xor_assoc] using this
theorem crcSt_inj : ∀ {xs : List Int} {a b : Nat}, By xs → a < 4294967296 → b < 4294967296 → crcSt a xs = crcSt b xs → a = b
  | [], _, _, _, _, _, h => h
  | x :: xs, a, b, hb, ha, hb', h => by
    have hx := hb x (by simp)
    have h1 := crcSt_inj (xs := xs) (fun y hy => hb y (by simp [hy])) (cK_lt 8 (xor_lt32 ha (by omega))) (cK_lt 8 (xor_lt32 hb' (by omega))) h
    exact xor_inj (cK_inj 8 (xor_lt32 ha (by omega)) (xor_lt32 hb' (by omega)) h1)
theorem crcSt_set : ∀ {xs : List Int} {v i : Nat} {y : Int}, By xs → v < 4294967296 → (hi : i < xs.length) → 0 ≤ y → y < 256 → y ≠ xs[i] → crcSt v (xs.set i y) ≠ crcSt v xs
  | [], _, _, _, _, _, hi, _, _, _ => by simp at hi
  | x :: xs, v, 0, y, hb, hv, _, h0, h1, hne => by
    have hx := hb x (by simp)
    intro h
    have h2 := crcSt_inj (xs := xs) (a := cK 8 (v ^^^ y.toNat)) (b := cK 8 (v ^^^ x.toNat)) (fun z hz => hb z (by simp [hz])) (cK_lt 8 (xor_lt32 hv (by omega))) (cK_lt 8 (xor_lt32 hv (by omega))) h
    have h3 := cK_inj 8 (xor_lt32 hv (by omega)) (xor_lt32 hv (by omega)) h2
    rw [Nat.xor_comm v, Nat.xor_comm v] at h3
    have h4 := xor_inj h3
    simp only [List.getElem_cons_zero] at hne
    omega
  | x :: xs, v, i + 1, y, hb, hv, hi, h0, h1, hne => by
    have hx := hb x (by simp)
    exact crcSt_set (xs := xs) (i := i) (fun z hz => hb z (by simp [hz])) (cK_lt 8 (xor_lt32 hv (by omega))) (by simpa using hi) h0 h1 (by simpa using hne)
theorem crcS_set {xs : List Int} {i : Nat} {y : Int} (hb : By xs) (hi : i < xs.length) (h0 : 0 ≤ y) (h1 : y < 256) (hne : y ≠ xs[i]) : crcS (xs.set i y) ≠ crcS xs := by
  unfold crcS
  intro h
  have h2 : 4294967295 ^^^ crcSt 4294967295 (xs.set i y) = 4294967295 ^^^ crcSt 4294967295 xs := by omega
  rw [Nat.xor_comm 4294967295, Nat.xor_comm 4294967295] at h2
  exact crcSt_set hb (by decide) hi h0 h1 hne (xor_inj h2)
theorem By.set {xs : List Int} (hb : By xs) (i : Nat) {y : Int} (h0 : 0 ≤ y) (h1 : y < 256) : By (xs.set i y) := fun x hx => by
  rcases List.mem_or_eq_of_mem_set hx with h | rfl
  · exact hb x h
  · exact ⟨h0, h1⟩
theorem le_inj {n : Nat} {a b : Int} (ha : 0 ≤ a ∧ a < 256 ^ n) (hb : 0 ≤ b ∧ b < 256 ^ n) (h : le n a = le n b) : a = b := by
  have := congrArg ofLe h
  rwa [ofLe_le n ha.1 ha.2, ofLe_le n hb.1 hb.2] at this
theorem opened_set {m : List Int} {i : Nat} {y : Int} (hb : By m) (hi : i < (sealedL m).length) (h0 : 0 ≤ y) (h1 : y < 256) (hne : y ≠ (sealedL m)[i]) : openedD ((sealedL m).set i y) = none := by
  unfold openedD
  rw [if_neg]
  rintro ⟨_, h⟩
  have hl := sealedL_len m
  rw [List.length_set, hl, show m.length + 4 - 4 = m.length by omega] at h
  by_cases hc : i < m.length
  · have e1 : ((sealedL m).set i y).take m.length = m.set i y := by
      unfold sealedL
      rw [List.set_append_left _ _ hc, List.take_left' (List.length_set ..)]
    have e2 : (sealedL m).set i y = m.set i y ++ le 4 (crcS m) := by
      unfold sealedL
      rw [List.set_append_left _ _ hc]
    rw [e1, e2] at h
    unfold sealedL at h
    have h2 := List.append_cancel_left h
    have hc1 := crcS_lt (hb.set i h0 h1)
    have hc2 := crcS_lt hb
    have h3 := le_inj (n := 4) (by constructor; exact hc1.1; simpa using hc1.2) (by constructor; exact hc2.1; simpa using hc2.2) h2
    refine crcS_set hb hc h0 h1 ?_ h3
    intro e
    apply hne
    have h5 : (sealedL m)[i]? = m[i]? := by unfold sealedL; exact List.getElem?_append_left hc
    rw [List.getElem?_eq_getElem hi, List.getElem?_eq_getElem hc] at h5
    rw [e]; exact (Option.some.inj h5).symm
  · have e1 : ((sealedL m).set i y).take m.length = m := by
      unfold sealedL
      rw [List.set_append_right _ _ (by omega), List.take_left' rfl]
    rw [e1] at h
    have h2 : (sealedL m)[i]? = ((sealedL m).set i y)[i]? := congrArg (fun l => l[i]?) h
    rw [List.getElem?_set_self hi, List.getElem?_eq_getElem hi] at h2
    exact hne (Option.some.inj h2).symm
theorem open_set {k : Int} {m : List Int} {i : Nat} {y : Int} (hb : By m) (hi : i < (sealedL m).length) (h0 : 0 ≤ y) (h1 : y < 256) (hne : y ≠ (sealedL m)[i]) : (openD k ((sealedL m).set i y)).2 ≠ none := by
  unfold openD
  rw [opened_set hb hi h0 h1 hne]
  split
  · split
    · simp
    · split
      · simp
      · simp
  · simp
theorem kindD_take {xs : List Int} {n : Nat} {q : Int × Int} (h : kindD (xs.take n) = some q) : kindD xs = some q := by
  rcases n with _ | _ | _ | _ | _ | n
  · simp [kindD] at h
  all_goals rcases xs with _ | ⟨a, _ | ⟨b, _ | ⟨c, _ | ⟨d, _ | ⟨e, r⟩⟩⟩⟩⟩ <;> first
    | (simp [kindD] at h; done)
    | (simp only [List.take_succ_cons, kindD] at h ⊢; exact h)
    | (simp only [List.take_succ_cons, List.take_zero, kindD] at h; cases h)
theorem open_take {k : Int} {b : List Int} {n : Nat} (hk : kindOk k = true) (hl : b.length ≤ 1024) (hn : n < (sealedL (headL k b ++ b)).length) : (openD k ((sealedL (headL k b ++ b)).take n)).2 ≠ none := by
  have ho := openD_seal hk hl
  have hlen : (sealedL (headL k b ++ b)).length = b.length + 9 := by rw [sealedL_len]; simp [headL, le_len]; omega
  generalize sealedL (headL k b ++ b) = B at ho hn hlen ⊢
  unfold openD at ho ⊢
  rw [if_pos hk] at ho ⊢
  cases h : kindD (B.take n) with
  | none => simp
  | some q =>
    rw [kindD_take h] at ho
    simp only at ho ⊢
    by_cases hq : q.1 = k ∧ q.2 = (B.length : Int)
    · rw [if_neg (by rintro ⟨_, h2⟩; rw [List.length_take] at h2; omega)]; simp
    · rw [if_neg hq] at ho; cases ho
theorem x8 {a b : Nat} (ha : a < 256) (hb : b < 256) : ibits .xor .u8 (a : Int) (b : Int) = ((a ^^^ b : Nat) : Int) := by
  have h : a ^^^ b < 256 := Nat.xor_lt_two_pow (n := 8) ha hb
  show IntKind.u8.wrap (((BitVec.ofInt 8 (a : Int) ^^^ BitVec.ofInt 8 (b : Int)).toNat : Nat) : Int) = _
  rw [BitVec.ofInt_natCast, BitVec.ofInt_natCast, BitVec.toNat_xor, BitVec.toNat_ofNat, BitVec.toNat_ofNat, Nat.mod_eq_of_lt (by simpa using ha), Nat.mod_eq_of_lt (by simpa using hb), IntKind.wrap_u8]
  omega
theorem turned {x : Int} (hx : 0 ≤ x ∧ x < 256) {j : Nat} (hj : j < 8) : ∃ y, ibits .xor .u8 x (IntKind.u8.wrap (1 * 2 ^ j)) = y ∧ 0 ≤ y ∧ y < 256 ∧ y ≠ x := by
  obtain ⟨a, rfl⟩ : ∃ a : Nat, x = (a : Int) := ⟨x.toNat, by omega⟩
  have hp : (2 : Nat) ^ j < 256 := Nat.pow_lt_pow_right (by decide) hj
  have hp0 : 0 < (2 : Nat) ^ j := Nat.pos_of_ne_zero (by simp)
  have e : IntKind.u8.wrap (1 * 2 ^ j) = ((2 ^ j : Nat) : Int) := by
    rw [Int.one_mul, show (2 : Int) ^ j = ((2 ^ j : Nat) : Int) by push_cast; rfl, IntKind.wrap_u8]
    omega
  have ha : a < 256 := by omega
  rw [e, x8 ha hp]
  refine ⟨_, rfl, by omega, ?_, ?_⟩
  · have : a ^^^ 2 ^ j < 256 := Nat.xor_lt_two_pow (n := 8) ha hp
    omega
  · intro h
    have h2 : a ^^^ 2 ^ j = a := by omega
    have h3 : 2 ^ j = 0 := by
      have := congrArg (a ^^^ ·) h2
      simp [← Nat.xor_assoc] at this
    omega
theorem cut_at {at_ : Int} {n : Nat} (h0 : 0 < n) (hn : n ≤ 2000) : ∃ k : Nat, IntKind.i64.wrap (Int.tmod (IntKind.u64.wrap at_) (IntKind.u64.wrap (n : Int))) = (k : Int) ∧ k < n := by
  have hu := wu64_lt at_
  rw [wu64 (n := (n : Int)) (by omega) (by omega)]
  have h1 : 0 ≤ Int.tmod (IntKind.u64.wrap at_) (n : Int) := Int.tmod_nonneg _ hu.1
  have h2 : Int.tmod (IntKind.u64.wrap at_) (n : Int) < n := Int.tmod_lt_of_pos _ (by omega)
  rw [wi64 (by omega) (by omega)]
  exact ⟨(Int.tmod (IntKind.u64.wrap at_) (n : Int)).toNat, by omega, by omega⟩
theorem bit_at {at_ : Int} {n : Nat} (h0 : 0 < n) (hn : n ≤ 2000) : ∃ i j : Nat, i < n ∧ j < 8 ∧ IntKind.i64.wrap (Int.tdiv (IntKind.i64.wrap (Int.tmod (IntKind.u64.wrap at_) (IntKind.u64.wrap (IntKind.i64.wrap (8 * (n : Int)))))) 8) = (i : Int) ∧ IntKind.u64.wrap (Int.tmod (IntKind.i64.wrap (Int.tmod (IntKind.u64.wrap at_) (IntKind.u64.wrap (IntKind.i64.wrap (8 * (n : Int)))))) 8) = (j : Int) ∧ IntKind.u64.wrap (IntKind.i64.wrap (8 * (n : Int))) ≠ 0 := by
  have hu := wu64_lt at_
  rw [wi64 (n := 8 * (n : Int)) (by omega) (by omega), wu64 (n := 8 * (n : Int)) (by omega) (by omega)]
  have h1 : 0 ≤ Int.tmod (IntKind.u64.wrap at_) (8 * (n : Int)) := Int.tmod_nonneg _ hu.1
  have h2 : Int.tmod (IntKind.u64.wrap at_) (8 * (n : Int)) < 8 * n := Int.tmod_lt_of_pos _ (by omega)
  rw [wi64 (n := Int.tmod (IntKind.u64.wrap at_) (8 * (n : Int))) (by omega) (by omega)]
  generalize Int.tmod (IntKind.u64.wrap at_) (8 * (n : Int)) = t at h1 h2 ⊢
  have h3 : Int.tdiv t 8 = t / 8 := Int.tdiv_eq_ediv_of_nonneg h1
  have h4 : Int.tmod t 8 = t % 8 := Int.tmod_eq_emod_of_nonneg h1
  rw [h3, h4, wi64 (n := t / 8) (by omega) (by omega), wu64 (n := t % 8) (by omega) (by omega)]
  exact ⟨(t / 8).toNat, (t % 8).toNat, by omega, by omega, by omega, by omega, by omega⟩
end Go.Proofs.YtihignmcjldiiaaGreatDoor.Mir
namespace Go.Proofs.YtihignmcjldiiaaGreatDoor.Mir
open Go Go.RowKit
set_option maxRecDepth 100000
theorem mdec_err {xs : List Int} (h : (openD 2 xs).2 ≠ none) : Option.isNone (mdecD xs).2 = false := by
  unfold mdecD
  split
  · rfl
  · rename_i e; exact absurd e h
theorem mback_holds (F : Nat) (m : MsgT) (at_ : Int) (hm : MArg m) (hF : ((mten m).2.2.2.2.2.2.2.2.2.2.2.1).length < F) (h3 : 3000 ≤ F) (hs : f_8 F = some true) : f_5 F m.1 m.2.1 m.2.2.1 m.2.2.2.1 m.2.2.2.2.1 m.2.2.2.2.2.1 m.2.2.2.2.2.2.1 m.2.2.2.2.2.2.2.1 m.2.2.2.2.2.2.2.2.1 m.2.2.2.2.2.2.2.2.2.1 m.2.2.2.2.2.2.2.2.2.2.1 m.2.2.2.2.2.2.2.2.2.2.2.1 m.2.2.2.2.2.2.2.2.2.2.2.2.1 m.2.2.2.2.2.2.2.2.2.2.2.2.2.1 m.2.2.2.2.2.2.2.2.2.2.2.2.2.2.1 m.2.2.2.2.2.2.2.2.2.2.2.2.2.2.2.1 m.2.2.2.2.2.2.2.2.2.2.2.2.2.2.2.2.1 m.2.2.2.2.2.2.2.2.2.2.2.2.2.2.2.2.2.1 m.2.2.2.2.2.2.2.2.2.2.2.2.2.2.2.2.2.2.1 m.2.2.2.2.2.2.2.2.2.2.2.2.2.2.2.2.2.2.2.1 m.2.2.2.2.2.2.2.2.2.2.2.2.2.2.2.2.2.2.2.2 at_ = some true := by
  unfold f_5
  rw [mgive_at m hm.zL hF]
  simp only [bind_sm']
  obtain ⟨g1, e1, i1⟩ := tbig_at31 (N := F) (mten m) (by omega)
  refine (bind_sm _ _ _ e1).trans ?_
  cases g1 with
  | true => simp only [cond_true]; rw [hs]; rfl
  | false =>
    have b1 := i1 rfl
    have f1 := b1.fit hm.ta hm.tl
    have l1 := b1.zL
    simp only [cond_false]
    by_cases n1 : (m.2.2.1.size : Int) > 100
    · rw [decide_eq_true n1, hs]; rfl
    · rw [decide_eq_false n1]
      simp only [cond_false]
      rw [mchkT_at h3 m f1]
      simp only [bind_sm']
      cases h1 : mayMT m with
      | false => rw [hs]; rfl
      | true =>
        simp only [cond_true, Option.isNone_none, Bool.not_true, cond_false]
        rw [mencT_at h3 m f1 hm.key]
        simp only [bind_sm']
        obtain ⟨hE, hl⟩ := menc_eq hm.key (show mayM m.1 m.2.1 m.2.2.1 m.2.2.2 = true from h1)
        have hE : mencT m = (sealedL (headL 2 (msgB m.1 m.2.1 m.2.2.1 m.2.2.2) ++ msgB m.1 m.2.1 m.2.2.1 m.2.2.2), none) := hE
        have hd : mdecD (mencT m).1 = (m, none) := mdec_enc hm.key f1 h1
        have hmb : By (headL 2 (msgB m.1 m.2.1 m.2.2.1 m.2.2.2) ++ msgB m.1 m.2.1 m.2.2.1 m.2.2.2) := (headL_by (by decide) (by decide) _).append (msgB_by hm.key h1)
        have hge : 11 ≤ (msgB m.1 m.2.1 m.2.2.1 m.2.2.2).length := by
          have := (mayM_ok h1).hnm
          unfold msgB
          simp only [List.length_append, le_len, bytesL_len, List.length_cons, List.length_nil]; omega
        rw [hE] at hd ⊢
        have hlen : (sealedL (headL 2 (msgB m.1 m.2.1 m.2.2.1 m.2.2.2) ++ msgB m.1 m.2.1 m.2.2.1 m.2.2.2)).length = 9 + (msgB m.1 m.2.1 m.2.2.1 m.2.2.2).length := by rw [sealedL_len, List.length_append]; simp [headL, le_len]; omega
        have hl' : (msgB m.1 m.2.1 m.2.2.1 m.2.2.2).length ≤ 1024 := hl
        obtain ⟨hB1, hB2⟩ : 20 ≤ (sealedL (headL 2 (msgB m.1 m.2.1 m.2.2.1 m.2.2.2) ++ msgB m.1 m.2.1 m.2.2.1 m.2.2.2)).length ∧ (sealedL (headL 2 (msgB m.1 m.2.1 m.2.2.1 m.2.2.2) ++ msgB m.1 m.2.1 m.2.2.1 m.2.2.2)).length ≤ 1033 := by rw [hlen]; constructor <;> omega
        clear hlen hl' hl hge
        have hcut := fun (x : Nat) (hx : x < _) => mdec_err (open_take (k := 2) (b := msgB m.1 m.2.1 m.2.2.1 m.2.2.2) (n := x) (by decide) (menc_eq hm.key h1).2 hx)
        have hset := fun (i : Nat) (y : Int) hi h0 h1 hne => mdec_err (open_set (k := 2) (i := i) (y := y) hmb hi h0 h1 hne)
        have hBy := sealedL_by hmb
        generalize sealedL (headL 2 (msgB m.1 m.2.1 m.2.2.1 m.2.2.2) ++ msgB m.1 m.2.1 m.2.2.1 m.2.2.2) = B at hB1 hB2 hd hcut hset hBy ⊢
        simp only [Option.isNone_none, Bool.not_true, cond_false]
        rw [mdec_at hBy (by omega) h3]
        simp only [bind_sm']
        rw [hd]
        simp only [Option.isNone_none, Bool.not_true, cond_false]
        rw [msameT_at m m (by omega) hF, eqMT_self]
        simp only [bind_sm', Bool.not_true, cond_false]
        obtain ⟨k', hk', hk2⟩ := cut_at (at_ := at_) (n := B.length) (by omega) (by omega)
        obtain ⟨i, jj, hi, hj, ei, ej, en⟩ := bit_at (at_ := at_) (n := B.length) (by omega) (by omega)
        rw [decide_eq_false (show ¬ (B.length : Int) < 20 by omega), decide_eq_false (show ¬ IntKind.u64.wrap (B.length : Int) = 0 by rw [wu64 (by omega) (by omega)]; omega), hk', decide_eq_true (show 0 ≤ (k' : Int) ∧ (k' : Int) ≤ (B.length : Int) by omega), decide_eq_false en, ei, ej, decide_eq_true (show 0 ≤ (i : Int) ∧ (i : Int) < (B.length : Int) by omega), decide_eq_false (show ¬ (jj : Int) < 0 by omega)]
        simp only [cond_false, cond_true, Int.toNat_natCast]
        rw [show min jj IntKind.u8.bits = jj from Nat.min_eq_left (show jj ≤ 8 by omega)]
        rw [mdec_at (hBy.take _) (by rw [List.length_take]; omega) h3]
        simp only [bind_sm']
        obtain ⟨y, ey, y0, y1, yne⟩ := turned (x := B.getD i 0) (by_getD hBy i) hj
        rw [ey, mdec_at (hBy.set i y0 y1) (by rw [List.length_set]; omega) h3]
        simp only [bind_sm']
        rw [hcut k' hk2, hset i y hi y0 y1 (fun e => yne (by rw [e, List.getD_eq_getElem?_getD, List.getElem?_eq_getElem hi]; rfl)), hs]
        simp only [Bool.not_false, cond_true, bind_sm']
        by_cases hk1 : m.1 = 1
        · rw [show (m.1 == 1) = true by simpa using hk1]
          have hh := ((mayM_ok h1).hhe hk1).1
          simp only [cond_true]
          refine (bind_sm _ _ _ (mpack_at h3 f1 hm.key)).trans ?_
          unfold packD
          rw [if_pos hh]
          simp only
          have hpl := packB_len hm.key hh
          rw [munpack_at (packB_by hm.key hh) hpl h3]
          simp only [bind_sm']
          rw [unp_pack hm.key f1 hh]
          simp only [Option.isNone_none, Bool.not_true, cond_false]
          refine (bind_sm _ _ _ (tis_at31 (mten m) (mten m) (by omega) hF)).trans ?_
          rw [alikeB_self]
          rfl
        · rw [show (m.1 == 1) = false by simpa using hk1]
          rfl
end Go.Proofs.YtihignmcjldiiaaGreatDoor.Mir
namespace Go.Proofs.YtihignmcjldiiaaGreatDoor
open Go Go.RowKit Mir
theorem laid_Q {w : World} (hL : LaidW w) : ∀ q ∈ Mir.laidL, w.cell? ⟨q.1, q.2.1, none⟩ = some q.2.2 := fun q hq => by
  obtain rfl := List.mem_singleton.1 hq
  exact hL
abbrev bytesSh : Sh := .sl [.int .u8]
theorem by_int {n : Int} (hw : (Lit.int .u8 n).wf = true) : 0 ≤ n ∧ n < 256 := by
  have := wf_range hw
  have c0 : IntKind.u8.min = 0 := by decide
  have c1 : IntKind.u8.max = 255 := by decide
  omega
theorem by_ok {xs : bytesSh.T} (h : OkS bytesSh xs) : By xs := fun x hx => by
  simp only [OkS] at h
  have hw := h.2.2 x hx
  simp only [OkL, OkS] at hw
  exact by_int hw
theorem len_ok {L : (Sh.sl [.int .i64, .int .i64, .str]).T} (h : OkS (.sl [.int .i64, .int .i64, .str]) L) : List.length (α := Rul) L ≤ 4398046511104 := by
  have hlen : List.length (α := Rul) L * 32 ≤ reachBytes := (show List.length (α := Rul) L ≤ maxLen ∧ List.length (α := Rul) L * bySL [.int .i64, .int .i64, .str] ≤ reachBytes ∧ _ by simpa only [OkS] using h).2.1
  have : reachBytes = 140737488351232 := by decide
  omega
theorem len_ok' {n : Nat} (h : n * bySL [.int .i64, .int .i64, .str] ≤ reachBytes) : n ≤ 4398046511104 := by
  have h : n * 32 ≤ reachBytes := h
  have : reachBytes = 140737488351232 := by decide
  omega
theorem i64_ok {n : Int} (hw : (Lit.int .i64 n).wf = true) : -9223372036854775808 ≤ n ∧ n < 9223372036854775808 := by
  have := wf_range hw
  have c0 : IntKind.i64.min = -9223372036854775808 := by decide
  have c1 : IntKind.i64.max = 9223372036854775807 := by decide
  omega
theorem repL_arr {g : Gh} : ∀ {cs : List C} {vs : List Value}, RepL g cs vs → ∀ k n xs, C.arr k n xs ∈ cs → xs.length = n
  | [], _, _, _, _, _, h => by cases h
  | c :: cs, vs, hr, k, n, xs, h => by
    rcases List.mem_cons.1 h with rfl | hm
    · simp only [RepL] at hr
      obtain ⟨r, h1, _⟩ := hr
      exact h1
    · clear h
      cases c <;> (simp only [RepL] at hr; first | (obtain ⟨_, r, _, _, h3⟩ := hr; exact repL_arr h3 k n xs hm) | (obtain ⟨r, _, _, h3⟩ := hr; exact repL_arr h3 k n xs hm))
theorem repA_arr {g : Gh} {cs : List C} {v : Value} (h : RepA g (.agg cs) v) {k : IntKind} {n : Nat} {xs : List Int} (hm : C.arr k n xs ∈ cs) : xs.length = n := by
  simp only [RepA] at h
  obtain ⟨vs, _, h⟩ := h
  exact repL_arr h k n xs hm
end Go.Proofs.YtihignmcjldiiaaGreatDoor
namespace Go.Proofs.YtihignmcjldiiaaGreatDoor
open Go Go.RowKit Mir
abbrev msgSh : List Sh := [.int .u8, .int .i64, .str, .str, .arr .u8 16, .int .i64, .int .i64, .int .i64, .int .i64, .int .i64, .int .i64, .bool, .str, .int .i64, .sl [.int .i64, .int .i64, .str], .bool, .int .i64, .int .i64, .bool, .int .i64, .int .i64]
theorem marg_ok {w : World} {y : TL msgSh} (k : OkL _ y) {v : Value} (e : RepA (gW w) (.agg (encL _ y)) v) : MArg y := by
  obtain ⟨m1, m2, m3, t1, key, t3, t4, t5, t6, t7, t8, t9, t10, t11, L, t13, t14, t15, t16, t17, t18⟩ := y
  have hk := repA_arr e (k := .u8) (n := 16) (xs := key) (by simp [encL, encS])
  simp only [OkL, OkS] at k
  obtain ⟨_, _, _, _, hkey, _, _, _, _, _, _, _, _, _, hL, _, h14, _, _, h17, _⟩ := k
  refine ⟨⟨hk, fun x hx => by_int (hkey x hx)⟩, i64_ok h14, i64_ok h17, len_ok' hL.2.1⟩
end Go.Proofs.YtihignmcjldiiaaGreatDoor
namespace Go.Proofs.YtihignmcjldiiaaGreatDoor
open Go Go.RowKit Mir
set_option maxRecDepth 100000 in
theorem law_MessageBack_row (w : World) (hL : LaidW w) {v0 v1 : Value} {y0 : TL msgSh} (k0 : OkL _ y0) (e0 : RepA (gW w) (.agg (encL _ y0)) v0) {y1 : (Sh.int .i64).T} (_ : OkS (.int .i64) y1) (e1 : RepA (gW w) (.one (encS (.int .i64) y1)) v1) :
    Calls Tryz.prog 5 #[v0, v1] w fun e w' => e = .returned (.bool true) ∧ Below w.heap.size w w' := by
  have a0 := marg_ok k0 e0
  have hh := mback_holds (List.length (α := Rul) (y0.2.2.2.2.2.2.2.2.2.2.2.2.2.2.1) + 3000) y0 y1 a0 (show List.length (α := Rul) (y0.2.2.2.2.2.2.2.2.2.2.2.2.2.2.1) < _ by omega) (by omega) (msure_at _)
  generalize List.length (α := Rul) (y0.2.2.2.2.2.2.2.2.2.2.2.2.2.2.1) = n at hh
  have hr : (S_5 (n + 3000)).run [.agg (encL msgSh y0), .one (encS (.int .i64) y1)] [] = f_5 (n + 3000) y0.1 y0.2.1 y0.2.2.1 y0.2.2.2.1 y0.2.2.2.2.1 y0.2.2.2.2.2.1 y0.2.2.2.2.2.2.1 y0.2.2.2.2.2.2.2.1 y0.2.2.2.2.2.2.2.2.1 y0.2.2.2.2.2.2.2.2.2.1 y0.2.2.2.2.2.2.2.2.2.2.1 y0.2.2.2.2.2.2.2.2.2.2.2.1 y0.2.2.2.2.2.2.2.2.2.2.2.2.1 y0.2.2.2.2.2.2.2.2.2.2.2.2.2.1 y0.2.2.2.2.2.2.2.2.2.2.2.2.2.2.1 y0.2.2.2.2.2.2.2.2.2.2.2.2.2.2.2.1 y0.2.2.2.2.2.2.2.2.2.2.2.2.2.2.2.2.1 y0.2.2.2.2.2.2.2.2.2.2.2.2.2.2.2.2.2.1 y0.2.2.2.2.2.2.2.2.2.2.2.2.2.2.2.2.2.2.1 y0.2.2.2.2.2.2.2.2.2.2.2.2.2.2.2.2.2.2.2.1 y0.2.2.2.2.2.2.2.2.2.2.2.2.2.2.2.2.2.2.2.2 y1 := by kernel_rfl
  have ho : ((S_5 (n + 3000)).out [.agg (encL msgSh y0), .one (encS (.int .i64) y1)] [] true).1 = .a (.one (Mir.boolC true)) := by kernel_rfl
  exact calls_open (vs := [v0, v1]) (s_5 (n + 3000)) (by kernel_rfl) Tryz.func5 (by kernel_rfl) (by kernel_rfl) (hr.trans hh)
    ⟨v0, _, rfl, e0, v1, _, rfl, e1, rfl⟩ (laid_Q hL) (fun g x h => by rw [ho] at h; exact h)
end Go.Proofs.YtihignmcjldiiaaGreatDoor
namespace Go.Proofs.YtihignmcjldiiaaGreatDoor
open Go.ChangeShapes Go.WideShapes Go.ChangeAt Go.RowKit
open Go.ChangeMaps (open_string shut_string)
set_option maxRecDepth 100000 in
theorem messageBack_lifted (os : Os) (started : os.Started) (H : Type) (enc : TypeId × Value → H) :
    ReturnsInHanded {} Tryz.checked os 5 .any (fun w args => (Rows.messageBackSpec.pre enc Tryz.prog Tryz.f5 [] false w args ∧ laidMetH Tryz.prog laidU w) ∧ sizedMet enc Tryz.prog Tryz.f5 (OpenSpec.ofChange Rows.messageBackSpec) false w args)
      (Rows.messageBackSpec.post enc Tryz.prog Tryz.f5 false true false false) := by
  refine returnsInHanded_of_change_and (C := Tryz.checked) (X := fun w _ => laidMetH Tryz.prog laidU w) (fun _ _ _ hh h => h.of_heap hh) Tryz.own started (by kernel_rfl) Tryz.func5
    (ChangeSpec.witness_at (enc := enc) (C := Tryz.checked) (os := os) (X := fun w _ => laidMetH Tryz.prog laidU w) false (laidWorldU os) #[.agg #[.int .u8 0, .int .i64 0, .string ByteArray.empty, .string ByteArray.empty, .int .u8 0, .int .u8 0, .int .u8 0, .int .u8 0, .int .u8 0, .int .u8 0, .int .u8 0, .int .u8 0, .int .u8 0, .int .u8 0, .int .u8 0, .int .u8 0, .int .u8 0, .int .u8 0, .int .u8 0, .int .u8 0, .int .i64 0, .int .i64 0, .int .i64 0, .int .i64 0, .int .i64 0, .int .i64 0, .bool false, .string ByteArray.empty, .int .i64 0, .slice none 0 0, .bool false, .int .i64 0, .int .i64 0, .bool false, .int .i64 0, .int .i64 0], .int .i64 0] 8 rfl (by kernel_rfl) (by kernel_rfl) (by kernel_rfl) (by kernel_rfl) (by kernel_rfl) (laidWorldU_met os _)) ?_
  intro W base args ds gs before hval0 hW _ hsz0 hL _
  have hval : ∀ (j : Nat) t v, Tryz.f5.params[j]? = some t → args[j]? = some v → Value.okWide Tryz.prog W .any base t v := hval0
  have hW' := hW
  have hsz : (DataW.weightsEach Tryz.prog (Tryz.f5.params.toList ++ (Rows.messageBackSpec).plain.varTypes Tryz.prog) (ds ++ gs)).all (· ≤ reachBytes) = true := hsz0
  obtain ⟨p, q, hA0, hV, rfl, hfz, hnd⟩ := hW
  have hA : DataW.TrodAll enc Tryz.prog W 0 (fun _ => true) true Tryz.f5.params.toList args.toList ds p := hA0
  have hA1 := hA
  rw [Tryz.params5] at hA hval hsz
  obtain ⟨v0, vs0, d0, ds0, p0, q0, hargs, rfl, rfl, h0, r0⟩ := trodAll_cons hA
  obtain ⟨v1, vs1, d1, ds1, p1, q1, rfl, rfl, rfl, h1, r1⟩ := trodAll_cons r0
  obtain ⟨rfl, rfl, rfl⟩ := trodAll_nil r1
  obtain rfl : args = #[v0, v1] := by cases args; simp_all
  obtain ⟨rfl, rfl⟩ := trodVars_none hV
  have hstay := fun (W' : World) (bel : Below W.heap.size W W') => trodAll_stays Tryz.laidOut bel (by rw [Tryz.params5]; simp only [List.mem_cons, List.not_mem_nil, or_false]; rintro t (rfl | rfl) <;> exact ⟨by kernel_rfl, of_decide_eq_true (by kernel_rfl)⟩) hA1
  obtain ⟨y0, k0, e0⟩ := Mir.open_agg (l := [.int .u8, .int .i64, .str, .str, .arr .u8 16, .int .i64, .int .i64, .int .i64, .int .i64, .int .i64, .int .i64, .bool, .str, .int .i64, .sl [.int .i64, .int .i64, .str], .bool, .int .i64, .int .i64, .bool, .int .i64, .int .i64]) (by kernel_rfl) (by kernel_rfl) (hval 0 39 v0 rfl rfl) h0 (Mir.wok_each hsz 0 _ _ rfl rfl)
  obtain ⟨y1, k1, e1⟩ := Mir.open_cell (s := .int .i64) (by kernel_rfl) (by kernel_rfl) (fun _ _ h => by cases h) (hval 1 3 v1 rfl rfl) h1 (Mir.wok_each hsz 1 _ _ rfl rfl)
  refine (law_MessageBack_row W (laid_of (laidU_of hL)) k0 e0 k1 e1).mono fun e W' ⟨he, bel⟩ => ?_
  subst he
  exact ⟨_, rfl, _, _, _, [], _, [], hW', trodAll_mk1 (shut_bool Tryz.underlying4 _), hstay W' bel, rfl, bel.frame _, fun h => by cases h⟩
theorem messageBack_over : Rows.MessageBackSaid :=
  OpenClaim.holds_of_wide 5 Tryz.f5 rfl rfl rfl rfl rfl rfl rfl ⟨rfl, rfl, rfl, rfl, rfl⟩ rfl rfl rfl rfl rfl (by kernel_rfl) Tryz.func5 (by kernel_rfl)
    (of_decide_eq_true (by kernel_rfl)) (by unfold Func.isWrapper; first | (rw [if_pos (by decide +kernel)]; kernel_rfl) | (rw [if_neg (by decide +kernel)]; exact ⟨rfl, rfl⟩))
    (fun os started H enc _ => messageBack_lifted os started H enc)
theorem messageBack_holds : Rows.MessageBackCardSaid :=
  Claim7.holds_tied_plain_at .later [] [.data, .handle, .pinned] true Rows.messageBackCard.stood.harness true
    messageBack_over (fun _ h => by cases h) (by kernel_rfl) (fun _ h => by cases h) messageBack_row_tie rfl ⟨rfl, rfl⟩ (by kernel_rfl) rfl
    (fun f fn hf hfn => by
      obtain rfl : f = 5 := Option.some.inj ((show Tryz.prog.funcNamed Rows.messageBackRow.func = some 5 by kernel_rfl).symm.trans hf) |>.symm
      obtain rfl : fn = Tryz.f5 := (Option.some.inj (Tryz.func5.symm.trans hfn)).symm
      exact ⟨by kernel_rfl, fun j t ht => by
        rw [Tryz.params5] at ht
        rcases j with _ | j
        · obtain rfl := Option.some.inj ht; kernel_rfl
        rcases j with _ | j
        · obtain rfl := Option.some.inj ht; kernel_rfl
        · simp at ht⟩)
    (by kernel_rfl)
#print axioms messageBack_holds
end Go.Proofs.YtihignmcjldiiaaGreatDoor
