/- Zones: what each function answers, in plain data. -/
import Derived.Test.YtmdnnlfoljdfpaaDoorPlainA
import Derived.Test.YtmdnnlfoljdfpaaDoorZoneF
namespace Go.Proofs.YtmdnnlfoljdfpaaDoor.Mir
open Go Go.RowKit
set_option maxRecDepth 100000

/-! ### names -/
def fineI (c : Int) : Bool := (decide (c ≥ 97) && decide (c ≤ 122)) || ((decide (c ≥ 65) && decide (c ≤ 90)) || ((decide (c ≥ 48) && decide (c ≤ 57)) || ((c == 47) || ((c == 95) || ((c == 43) || (c == 45))))))
def fineL : List UInt8 := [65, 66, 67, 68, 69, 70, 71, 72, 73, 74, 75, 76, 77, 78, 79, 80, 81, 82, 83, 84, 85, 86, 87, 88, 89, 90, 97, 98, 99, 100, 101, 102, 103, 104, 105, 106, 107, 108, 109, 110, 111, 112, 113, 114, 115, 116, 117, 118, 119, 120, 121, 122, 48, 49, 50, 51, 52, 53, 54, 55, 56, 57, 47, 95, 43, 45]
theorem fine_nat : ∀ n : Fin 256, fineL.contains (UInt8.ofNat n.val) = fineI (n.val : Int) := by decide +kernel
theorem fine_byte (b : UInt8) : fineL.contains b = fineI (b.toNat : Int) := by
  have := fine_nat ⟨b.toNat, b.toNat_lt⟩
  simpa using this
def allFine (l : List UInt8) : Bool := l.all fun b => fineI (b.toNat : Int)
def nameB (s : ByteArray) : Bool := decide (1 ≤ s.size) && (decide (s.size ≤ 12) && allFine s.data.toList)
theorem size_list (s : ByteArray) : s.size = s.data.toList.length := by rw [Array.length_toList]; rfl
theorem beq_nil (l : List UInt8) : (l == []) = l.isEmpty := by cases l <;> rfl
theorem drop_all : ∀ l : List UInt8, ((l.dropWhile (fineL.contains ·)) == []) = allFine l
  | [] => rfl
  | b :: l => by
    have h := drop_all l
    simp only [List.dropWhile, allFine, List.all_cons] at h ⊢
    rw [fine_byte b]
    cases fineI (b.toNat : Int) with
    | true => simpa using h
    | false => simp
theorem named_at (N : Nat) (s : ByteArray) : f_43 N s = some (nameB s) := by
  have ht : trimF s (⟨#[65, 66, 67, 68, 69, 70, 71, 72, 73, 74, 75, 76, 77, 78, 79, 80, 81, 82, 83, 84, 85, 86, 87, 88, 89, 90, 97, 98, 99, 100, 101, 102, 103, 104, 105, 106, 107, 108, 109, 110, 111, 112, 113, 114, 115, 116, 117, 118, 119, 120, 121, 122, 48, 49, 50, 51, 52, 53, 54, 55, 56, 57, 47, 95, 43, 45]⟩) = some ⟨(Lib.trimLeftS s.data.toList fineL).toArray⟩ := rfl
  unfold f_43 nameB
  rw [ht]
  simp only [Lib.toList_data, Option.bind_some]
  show (bif !(s.data.toList == []) then (bif decide ((s.size : Int) ≤ 12) then some ((Lib.trimLeftS s.data.toList fineL) == []) else some false) else some false) = _
  rw [show (Lib.trimLeftS s.data.toList fineL == []) = allFine s.data.toList from drop_all _, beq_nil, size_list]
  generalize s.data.toList = l
  cases l with
  | nil => rfl
  | cons b l =>
    by_cases h : (b :: l).length ≤ 12
    · rw [decide_eq_true (show (((b :: l).length : Nat) : Int) ≤ 12 by omega), decide_eq_true h, decide_eq_true (show 1 ≤ (b :: l).length by simp)]; rfl
    · rw [decide_eq_false (show ¬ (((b :: l).length : Nat) : Int) ≤ 12 by omega), decide_eq_false h, decide_eq_true (show 1 ≤ (b :: l).length by simp)]; rfl
theorem rname_step (N : Nat) (ih : _ → _) (s : ByteArray) (i : Int) (h0 : 0 ≤ i) (h1 : i < (s.size : Int)) : b_45_0 N ih (s, i) = bif fineI (byteAt s i.toNat) then ih (s, IntKind.i64.wrap (i + 1)) else some (.inl false) := by
  unfold b_45_0 fineI
  simp only
  rw [decide_eq_true h1, decide_eq_true (show 0 ≤ i ∧ i < (s.size : Int) from ⟨h0, h1⟩)]
  simp only [cond_true]
  generalize ih (s, IntKind.i64.wrap (i + 1)) = T
  generalize byteAt s i.toNat = c
  generalize decide (c ≥ 97) = t1
  generalize decide (c ≤ 122) = t2
  generalize decide (c ≥ 65) = t3
  generalize decide (c ≤ 90) = t4
  generalize decide (c ≥ 48) = t5
  generalize decide (c ≤ 57) = t6
  generalize (c == 47) = t7
  generalize (c == 95) = t8
  generalize (c == 43) = t9
  generalize (c == 45) = t10
  cases t1 <;> cases t2 <;> cases t3 <;> cases t4 <;> cases t5 <;> cases t6 <;> cases t7 <;> cases t8 <;> cases t9 <;> cases t10 <;> rfl
theorem rname_loop (N : Nat) {s : ByteArray} (hs : s.size ≤ 1000000) : ∀ (k M i : Nat), i + k = s.size → k < M → iter (b_45_0 N) M (s, (i : Int)) = bif allFine (s.data.toList.drop i) then some (.inr s) else some (.inl false) := by
  have hl := size_list s
  intro k
  induction k with
  | zero =>
    intro M i hi hM
    obtain ⟨M, rfl⟩ : ∃ m, M = m + 1 := ⟨M - 1, by omega⟩
    rw [List.drop_eq_nil_of_le (by omega)]
    show b_45_0 N (iter (b_45_0 N) M) (s, (i : Int)) = _
    unfold b_45_0
    simp only
    rw [decide_eq_false (show ¬ (i : Int) < (s.size : Int) by omega)]; rfl
  | succ k ih =>
    intro M i hi hM
    obtain ⟨M, rfl⟩ : ∃ m, M = m + 1 := ⟨M - 1, by omega⟩
    have hi' : i < s.data.toList.length := by omega
    show b_45_0 N (iter (b_45_0 N) M) (s, (i : Int)) = _
    rw [rname_step N _ s _ (by omega) (by omega), wi64 (by omega) (by omega), show (i : Int) + 1 = ((i + 1 : Nat) : Int) by omega, ih M (i + 1) (by omega) (by omega), List.drop_eq_getElem_cons hi']
    have eb : byteAt s (Int.toNat (i : Int)) = ((s.data.toList[i]).toNat : Int) := by
      unfold byteAt
      rw [Int.toNat_natCast, List.getD_eq_getElem?_getD, List.getElem?_eq_getElem hi']; rfl
    rw [eb]
    show _ = bif (fineI ((s.data.toList[i]).toNat : Int) && allFine (s.data.toList.drop (i + 1))) then _ else _
    cases fineI ((s.data.toList[i]).toNat : Int) <;> rfl
theorem rname_at {N : Nat} {s : ByteArray} (hs : s.size ≤ 1000000) (hN : s.size < N) : f_45 N s = some (nameB s) := by
  have h := rname_loop N hs s.size N 0 (by omega) hN
  have h' : l_45_0 N (s, 0) = bif allFine s.data.toList then some (.inr s) else some (.inl false) := h
  unfold f_45 nameB
  rw [h']
  cases allFine s.data.toList with
  | false =>
    show some false = _
    simp
  | true =>
    show (bif decide ((s.size : Int) ≥ 1) then some (decide ((s.size : Int) ≤ 12)) else some false) = _
    by_cases h1 : 1 ≤ s.size
    · rw [decide_eq_true (show (s.size : Int) ≥ 1 by omega), decide_eq_true h1]
      by_cases h2 : s.size ≤ 12
      · rw [decide_eq_true (show (s.size : Int) ≤ 12 by omega), decide_eq_true h2]; rfl
      · rw [decide_eq_false (show ¬ (s.size : Int) ≤ 12 by omega), decide_eq_false h2]; rfl
    · rw [decide_eq_false (show ¬ (s.size : Int) ≥ 1 by omega), decide_eq_false h1]; rfl
/-! ### what is added -/
def offB (n : Int) : Bool := decide (-86399 ≤ n) && decide (n ≤ 86399)
theorem added_at (N : Nat) (n : Int) : f_44 N n = some (offB n) := by
  unfold f_44 offB
  show (bif decide (-86399 ≤ n) then _ else _) = _
  cases decide (-86399 ≤ n) <;> rfl
theorem off_at (N : Nat) (n : Int) : f_46 N n = some (offB n) := by
  unfold f_46 offB
  have e1 : decide (n > -86400) = decide (-86399 ≤ n) := decide_eq_decide.2 (by omega)
  have e2 : decide (n < 86400) = decide (n ≤ 86399) := decide_eq_decide.2 (by omega)
  rw [e1, e2]
  cases decide (-86399 ≤ n) <;> rfl
/-! ### rules -/
abbrev Rul := Int × Int × ByteArray
def gR (L : List Rul) (i : Nat) : Rul := L.getD i (0, 0, ByteArray.empty)
def okAt (L : List Rul) (i : Nat) : Bool := nameB (gR L i).2.2 && (offB (gR L i).2.1 && (!decide ((gR L i).1 < -1099511627776) && (!decide ((gR L i).1 > 1099511627776) && !(decide ((i : Int) > 0) && decide ((gR L (i - 1)).1 ≥ (gR L i).1)))))
def allFrom (L : List Rul) : Nat → Nat → Bool
  | _, 0 => true
  | i, k + 1 => okAt L i && allFrom L (i + 1) k
def mayZ (n : ByteArray) (f : Int) (L : List Rul) : Bool := nameB n && (offB f && (decide ((L.length : Int) ≤ 32) && allFrom L 0 L.length))
theorem check_loop (N : Nat) {n : ByteArray} {f : Int} {L : List Rul} (hL : L.length ≤ 1000000) : ∀ (k M i : Nat), i + k = L.length → k < M → iter (b_15_0 N) M ((), L, (L.length : Int), (i : Int), (n, f, L)) = bif allFrom L i k then some (.inr ()) else some (.inl (some 1)) := by
  intro k
  induction k with
  | zero =>
    intro M i hi hM
    obtain ⟨M, rfl⟩ : ∃ m, M = m + 1 := ⟨M - 1, by omega⟩
    show b_15_0 N (iter (b_15_0 N) M) _ = _
    unfold b_15_0
    simp only
    rw [decide_eq_false (show ¬ (i : Int) < (L.length : Int) by omega)]; rfl
  | succ k ih =>
    intro M i hi hM
    obtain ⟨M, rfl⟩ : ∃ m, M = m + 1 := ⟨M - 1, by omega⟩
    have ih' := ih M (i + 1) (by omega) (by omega)
    show b_15_0 N (iter (b_15_0 N) M) _ = _
    generalize iter (b_15_0 N) M = I at ih' ⊢
    unfold b_15_0
    simp only
    rw [decide_eq_true (show (i : Int) < (L.length : Int) by omega), decide_eq_true (show 0 ≤ (i : Int) ∧ (i : Int) < (L.length : Int) by omega), named_at, added_at, wi64 (n := (i : Int) + 1) (by omega) (by omega), show (i : Int) + 1 = ((i + 1 : Nat) : Int) by omega, ih']
    simp only [cond_true, Option.bind_some, Int.toNat_natCast]
    show _ = bif (okAt L i && allFrom L (i + 1) k) then _ else _
    unfold okAt
    show (bif !nameB (gR L i).2.2 then _ else (bif !offB (gR L i).2.1 then _ else (bif decide ((gR L i).1 < -1099511627776) then _ else (bif decide ((gR L i).1 > 1099511627776) then _ else _)))) = _
    generalize nameB (gR L i).2.2 = t1
    generalize offB (gR L i).2.1 = t2
    generalize decide ((gR L i).1 < -1099511627776) = t3
    generalize decide ((gR L i).1 > 1099511627776) = t4
    by_cases h0 : (i : Int) > 0
    · rw [decide_eq_true h0, wi64 (n := (i : Int) - 1) (by omega) (by omega), decide_eq_true (show 0 ≤ (i : Int) - 1 ∧ (i : Int) - 1 < (L.length : Int) by omega), show ((i : Int) - 1).toNat = i - 1 by omega]
      show (bif !t1 then _ else (bif !t2 then _ else (bif t3 then _ else (bif t4 then _ else (bif decide ((gR L (i - 1)).1 ≥ (gR L i).1) then _ else _))))) = _
      generalize decide ((gR L (i - 1)).1 ≥ (gR L i).1) = t5
      cases t1 <;> cases t2 <;> cases t3 <;> cases t4 <;> cases t5 <;> rfl
    · rw [decide_eq_false h0]
      cases t1 <;> cases t2 <;> cases t3 <;> cases t4 <;> rfl
theorem check_at {N : Nat} {n : ByteArray} {f : Int} {L : List Rul} (hL : L.length ≤ 1000000) (hN : L.length < N) : f_15 N n f L = some (bif mayZ n f L then none else some 1) := by
  have h := check_loop N (n := n) (f := f) hL L.length N 0 (by omega) hN
  have h' : l_15_0 N ((), L, (L.length : Int), 0, (n, f, L)) = bif allFrom L 0 L.length then some (.inr ()) else some (.inl (some 1)) := h
  unfold f_15 mayZ
  rw [named_at, added_at, h', show decide ((L.length : Int) > 32) = !decide ((L.length : Int) ≤ 32) by
    by_cases h : (L.length : Int) ≤ 32
    · rw [decide_eq_true h, decide_eq_false (by omega)]; rfl
    · rw [decide_eq_false h, decide_eq_true (by omega)]; rfl]
  cases nameB n <;> cases offB f <;> cases decide ((L.length : Int) ≤ 32) <;> cases allFrom L 0 L.length <;> rfl
theorem may_loop (N : Nat) {n : ByteArray} {f : Int} {L : List Rul} (hL : L.length ≤ 1000000) (hn : ∀ i, i < L.length → (gR L i).2.2.size ≤ 1000000 ∧ (gR L i).2.2.size < N) : ∀ (k M i : Nat), i + k = L.length → k < M → iter (b_16_0 N) M ((), (i : Int), (n, f, L)) = bif allFrom L i k then some (.inr ((), (n, f, L))) else some (.inl false) := by
  intro k
  induction k with
  | zero =>
    intro M i hi hM
    obtain ⟨M, rfl⟩ : ∃ m, M = m + 1 := ⟨M - 1, by omega⟩
    show b_16_0 N (iter (b_16_0 N) M) _ = _
    unfold b_16_0
    simp only
    rw [decide_eq_false (show ¬ (i : Int) < (L.length : Int) by omega)]; rfl
  | succ k ih =>
    intro M i hi hM
    obtain ⟨M, rfl⟩ : ∃ m, M = m + 1 := ⟨M - 1, by omega⟩
    have ih' := ih M (i + 1) (by omega) (by omega)
    have hs := hn i (by omega)
    show b_16_0 N (iter (b_16_0 N) M) _ = _
    generalize iter (b_16_0 N) M = I at ih' ⊢
    unfold b_16_0
    simp only
    rw [decide_eq_true (show (i : Int) < (L.length : Int) by omega), decide_eq_true (show 0 ≤ (i : Int) ∧ (i : Int) < (L.length : Int) by omega), wi64 (n := (i : Int) + 1) (by omega) (by omega), show (i : Int) + 1 = ((i + 1 : Nat) : Int) by omega, ih']
    simp only [cond_true, Int.toNat_natCast]
    show Option.bind (f_45 N (gR L i).2.2) _ = _
    rw [rname_at hs.1 hs.2]
    simp only [Option.bind_some]
    rw [off_at]
    simp only [Option.bind_some]
    show _ = bif (okAt L i && allFrom L (i + 1) k) then _ else _
    unfold okAt
    show (bif !nameB (gR L i).2.2 then _ else (bif !offB (gR L i).2.1 then _ else (bif decide ((gR L i).1 < -1099511627776) then _ else (bif decide ((gR L i).1 > 1099511627776) then _ else _)))) = _
    generalize nameB (gR L i).2.2 = t1
    generalize offB (gR L i).2.1 = t2
    generalize decide ((gR L i).1 < -1099511627776) = t3
    generalize decide ((gR L i).1 > 1099511627776) = t4
    by_cases h0 : (i : Int) > 0
    · rw [decide_eq_true h0, wi64 (n := (i : Int) - 1) (by omega) (by omega), decide_eq_true (show 0 ≤ (i : Int) - 1 ∧ (i : Int) - 1 < (L.length : Int) by omega), show ((i : Int) - 1).toNat = i - 1 by omega]
      show (bif !t1 then _ else (bif !t2 then _ else (bif t3 then _ else (bif t4 then _ else (bif decide ((gR L i).1 ≤ (gR L (i - 1)).1) then _ else _))))) = _
      rw [show decide ((gR L (i - 1)).1 ≥ (gR L i).1) = decide ((gR L i).1 ≤ (gR L (i - 1)).1) from rfl]
      generalize decide ((gR L i).1 ≤ (gR L (i - 1)).1) = t5
      cases t1 <;> cases t2 <;> cases t3 <;> cases t4 <;> cases t5 <;> rfl
    · rw [decide_eq_false h0]
      cases t1 <;> cases t2 <;> cases t3 <;> cases t4 <;> rfl
theorem may_at {N : Nat} {n : ByteArray} {f : Int} {L : List Rul} (hL : L.length ≤ 1000000) (hN : L.length < N) (h0 : n.size ≤ 1000000 ∧ n.size < N) (hn : ∀ i, i < L.length → (gR L i).2.2.size ≤ 1000000 ∧ (gR L i).2.2.size < N) : f_16 N n f L = some (mayZ n f L) := by
  have h := may_loop N (n := n) (f := f) hL hn L.length N 0 (by omega) hN
  have h' : l_16_0 N ((), 0, (n, f, L)) = bif allFrom L 0 L.length then some (.inr ((), (n, f, L))) else some (.inl false) := h
  unfold f_16 mayZ
  rw [h']
  cases allFrom L 0 L.length with
  | false =>
    show some false = _
    simp
  | true =>
    show Option.bind (f_45 N n) (fun r => bif r then Option.bind (f_46 N f) (fun r => bif r then some (decide ((L.length : Int) ≤ 32)) else some false) else some false) = _
    rw [rname_at h0.1 h0.2, off_at]
    cases nameB n <;> cases offB f <;> cases decide ((L.length : Int) ≤ 32) <;> rfl
end Go.Proofs.YtmdnnlfoljdfpaaDoor.Mir
