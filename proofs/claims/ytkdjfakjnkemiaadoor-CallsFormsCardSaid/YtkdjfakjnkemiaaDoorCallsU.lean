/- The law of chapter 44's way back, in plain data. -/
import Derived.Test.YtkdjfakjnkemiaaDoorCallsS
namespace Go.Proofs.YtkdjfakjnkemiaaDoor.Mir
open Go Go.RowKit
set_option maxRecDepth 100000

theorem txt_atO {xs : List Int} (h : By xs) (o : Nat) : txt (atO xs o) = (bytesS (if xs.length < o + 1 + (valO xs o 1).toNat then [] else (xs.drop (o + 1)).take (valO xs o 1).toNat), atO xs (o + 1 + (valO xs o 1).toNat)) := by
  have hv := valO_lt h o 1
  unfold txt
  rw [tk_atO]
  generalize valO xs o 1 = v at *
  simp only
  unfold atO
  by_cases h1 : xs.length < o + 1
  · rw [if_pos h1, if_pos (.inl rfl), if_pos (by omega), if_pos (by omega)]
  · rw [if_neg h1]
    simp only [Bool.false_eq_true, false_or, List.length_drop]
    by_cases h2 : xs.length < o + 1 + v.toNat
    · rw [if_pos (by omega), if_pos h2, if_pos h2]
    · rw [if_neg (by omega), if_neg h2, if_neg h2, List.drop_drop]
/-- A call out of bytes, by where its parts lie. -/
theorem callD_eq {xs : List Int} (h : By xs) (S : Nat) (hS : (valO xs 2 1).toNat = S) : callD xs = if xs.length < 13 + S ∨ valO xs 0 1 ≠ 63 ∨ ((xs.length - (13 + S) : Nat) : Int) ≠ valO xs (11 + S) 2 ∨ valO xs (11 + S) 2 > 1024 then none else some (valO xs 1 1, bytesS ((xs.drop 3).take S), xs.drop (13 + S), IntKind.i64.wrap (valO xs (3 + S) 8)) := by
  have h0 : atO xs 0 = (xs, false) := by unfold atO; rw [if_neg (by omega), List.drop_zero]
  have eA : dA xs = (valO xs 0 1, atO xs 1) := by
    have := tk_atO xs 0 1
    rw [h0] at this
    exact this
  have eK : dK xs = (valO xs 1 1, atO xs 2) := by unfold dK; rw [eA]; exact tk_atO xs 1 1
  have eT : dT xs = (bytesS (if xs.length < 3 + S then [] else (xs.drop 3).take S), atO xs (3 + S)) := by
    unfold dT; rw [eK]
    have := txt_atO h 2
    rw [hS] at this
    exact this
  have eN : dN xs = (valO xs (3 + S) 8, atO xs (11 + S)) := by
    unfold dN; rw [eT]
    have := tk_atO xs (3 + S) 8
    rw [show 3 + S + 8 = 11 + S by omega] at this
    exact this
  have eL : dL xs = (valO xs (11 + S) 2, atO xs (13 + S)) := by
    unfold dL; rw [eN]
    have := tk_atO xs (11 + S) 2
    rw [show 11 + S + 2 = 13 + S by omega] at this
    exact this
  unfold callD
  rw [eA, eK, eT, eN, eL]
  simp only
  unfold atO
  by_cases h1 : xs.length < 13 + S
  · rw [if_pos h1, if_pos (.inl rfl), if_pos (.inl h1)]
  · rw [if_neg h1, if_neg (show ¬ xs.length < 3 + S by omega)]
    simp only [Bool.false_eq_true, false_or, List.length_drop, h1]
theorem valO_mid (p q t : List Int) {o n : Nat} (ho : p.length = o) (hn : q.length = n) : valO (p ++ (q ++ t)) o n = ofLe q := by
  unfold valO
  rw [if_neg (by rw [List.length_append, List.length_append]; omega), ← ho, List.drop_left, ← hn, List.take_left]
theorem valO_take {xs : List Int} {m o n : Nat} (h : o + n ≤ m) (hm : m ≤ xs.length) : valO (xs.take m) o n = valO xs o n := by
  unfold valO
  rw [if_neg (by rw [List.length_take]; omega), if_neg (by omega), List.drop_take, List.take_take, Nat.min_eq_left (by omega)]
theorem valO_app {xs ys : List Int} {o n : Nat} (h : o + n ≤ xs.length) : valO (xs ++ ys) o n = valO xs o n := by
  unfold valO
  rw [if_neg (by rw [List.length_append]; omega), if_neg (by omega), List.drop_append_of_le_length (by omega), List.take_append_of_le_length (by rw [List.length_drop]; omega)]
theorem bytesS_bytesL (s : ByteArray) : bytesS (bytesL s) = s := by
  unfold bytesS bytesL
  rw [List.map_map]
  have : (List.map ((fun n : Int => UInt8.ofNat n.toNat) ∘ fun b : UInt8 => (b.toNat : Int)) s.data.toList) = s.data.toList := by
    conv => rhs; rw [← List.map_id s.data.toList]
    refine List.map_congr_left fun b _ => ?_
    show UInt8.ofNat ((b.toNat : Int)).toNat = b
    rw [Int.toNat_natCast, UInt8.ofNat_toNat]
  rw [this]
/-! ### a call's bytes -/
structure CallAt (r : List Int) (k : Int) (s : ByteArray) (b : List Int) (n : Int) : Prop where
  by_ : By r
  len : r.length = 13 + s.size + b.length
  size : s.size ≤ 255
  blen : b.length ≤ 1024
  v0 : valO r 0 1 = 63
  v1 : valO r 1 1 = k
  v2 : valO r 2 1 = (s.size : Int)
  str : bytesS ((r.drop 3).take s.size) = s
  vN : IntKind.i64.wrap (valO r (3 + s.size) 8) = n
  vL : valO r (11 + s.size) 2 = (b.length : Int)
  rest : r.drop (13 + s.size) = b
theorem ofLe8 {v : Int} (h0 : -9223372036854775808 ≤ v) (h1 : v < 9223372036854775808) : IntKind.i64.wrap (ofLe (le 8 (IntKind.u64.wrap v))) = v := by
  rw [ofLe_le 8 (wu64_lt v).1 (Int.lt_of_lt_of_le (wu64_lt v).2 (by decide)), wi64_u64 h0 h1]
theorem ofLe2 {v : Int} (h0 : 0 ≤ v) (h1 : v < 65536) : ofLe (le 2 v) = v := ofLe_le 2 h0 (Int.lt_of_lt_of_le h1 (by decide))
theorem ofLe1 {v : Int} (h0 : 0 ≤ v) (h1 : v < 256) : ofLe (le 1 v) = v := ofLe_le 1 h0 (Int.lt_of_lt_of_le h1 (by decide))
theorem callB_at {k : Int} {s : ByteArray} {b : List Int} {n : Int} (hb : By b) (n0 : -9223372036854775808 ≤ n) (n1 : n < 9223372036854775808) {r : List Int} (h : callB k s b n = some r) : CallAt r k s b n := by
  unfold callB at h
  by_cases hc : k < 0 ∨ k > 255 ∨ s.size > 255 ∨ b.length > 1024
  · rw [if_pos hc] at h; cases h
  rw [if_neg hc] at h
  obtain rfl := Option.some.inj h
  have hL := bytesL_len s
  refine ⟨?_, ?_, by omega, by omega, ?_, ?_, ?_, ?_, ?_, ?_, ?_⟩
  · exact (((((By.cons (by decide) (By.cons (by omega) By.nil)).append (le_by _ _)).append (bytesL_by s)).append (le_by _ _)).append (le_by _ _)).append hb
  · simp only [List.length_append, le_len, hL, List.length_cons, List.length_nil]; omega
  · simp only [List.append_assoc]
    exact (valO_mid [] [63] _ rfl rfl).trans (by simp [ofLe])
  · simp only [List.append_assoc]
    exact (valO_mid [63] [k] _ rfl rfl).trans (by simp [ofLe])
  · simp only [List.append_assoc]
    exact (valO_mid [63, k] (le 1 _) _ rfl (le_len 1 _)).trans (ofLe1 (by omega) (by omega))
  · have e : ([63, k] ++ le 1 (s.size : Int) ++ bytesL s) ++ le 8 (IntKind.u64.wrap n) ++ le 2 (b.length : Int) ++ b = ([63, k] ++ le 1 (s.size : Int)) ++ (bytesL s ++ (le 8 (IntKind.u64.wrap n) ++ (le 2 (b.length : Int) ++ b))) := by simp only [List.append_assoc]
    rw [e, List.drop_left' (show ([63, k] ++ le 1 (s.size : Int)).length = 3 by simp [le_len]), List.take_left' hL]
    exact bytesS_bytesL s
  · have e : ([63, k] ++ le 1 (s.size : Int) ++ bytesL s) ++ le 8 (IntKind.u64.wrap n) ++ le 2 (b.length : Int) ++ b = ([63, k] ++ le 1 (s.size : Int) ++ bytesL s) ++ (le 8 (IntKind.u64.wrap n) ++ (le 2 (b.length : Int) ++ b)) := by simp only [List.append_assoc]
    rw [e, valO_mid _ _ _ (by simp only [List.length_append, le_len, hL, List.length_cons, List.length_nil]) (le_len 8 _), ofLe8 n0 n1]
  · have e : ([63, k] ++ le 1 (s.size : Int) ++ bytesL s) ++ le 8 (IntKind.u64.wrap n) ++ le 2 (b.length : Int) ++ b = ([63, k] ++ le 1 (s.size : Int) ++ bytesL s ++ le 8 (IntKind.u64.wrap n)) ++ (le 2 (b.length : Int) ++ b) := by simp only [List.append_assoc]
    rw [e, valO_mid _ _ _ (by simp only [List.length_append, le_len, hL, List.length_cons, List.length_nil]; omega) (le_len 2 _), ofLe2 (by omega) (by omega)]
  · exact List.drop_left' (by simp only [List.length_append, le_len, hL, List.length_cons, List.length_nil]; omega)
theorem CallAt.back {r : List Int} {k : Int} {s : ByteArray} {b : List Int} {n : Int} (c : CallAt r k s b n) : callD r = some (k, s, b, n) := by
  have hl := c.len
  have h2 := c.blen
  rw [callD_eq c.by_ s.size (by rw [c.v2]; omega), c.vL, c.v0, c.v1, c.str, c.vN, c.rest, if_neg (by omega)]
theorem CallAt.cut {r : List Int} {k : Int} {s : ByteArray} {b : List Int} {n : Int} (c : CallAt r k s b n) {m : Nat} (hm : m < r.length) : callD (r.take m) = none := by
  have hl := c.len
  have hlen : (r.take m).length = m := by rw [List.length_take]; omega
  by_cases h3 : m < 13 + s.size
  · by_cases h4 : m < 3
    · rw [callD_eq (c.by_.take m) _ rfl, if_pos (.inl (by omega))]
    · rw [callD_eq (c.by_.take m) s.size (by rw [valO_take (by omega) (by omega), c.v2]; omega), if_pos (.inl (by omega))]
  · rw [callD_eq (c.by_.take m) s.size (by rw [valO_take (by omega) (by omega), c.v2]; omega), valO_take (o := 11 + s.size) (by omega) (by omega), c.vL, if_pos (.inr (.inr (.inl (by omega))))]
theorem CallAt.more {r : List Int} {k : Int} {s : ByteArray} {b : List Int} {n : Int} (c : CallAt r k s b n) : callD (r ++ [0]) = none := by
  have hl := c.len
  have hlen : (r ++ [0]).length = r.length + 1 := by rw [List.length_append]; rfl
  rw [callD_eq (c.by_.append (By.cons (by decide) By.nil)) s.size (by rw [valO_app (by omega), c.v2]; omega), valO_app (o := 11 + s.size) (by omega), c.vL, if_pos (.inr (.inr (.inl (by omega))))]
/-! ### an answer's bytes -/
theorem tellB_eq (c v1 v2 v3 v4 v5 v6 : Int) : tellB c [v1, v2, v3, v4, v5, v6] = [33] ++ (le 2 c ++ (le 8 (IntKind.u64.wrap v1) ++ (le 8 (IntKind.u64.wrap v2) ++ (le 8 (IntKind.u64.wrap v3) ++ (le 8 (IntKind.u64.wrap v4) ++ (le 8 (IntKind.u64.wrap v5) ++ (le 8 (IntKind.u64.wrap v6) ++ []))))))) := by
  simp only [tellB, tells, List.foldl, List.append_assoc, List.append_nil]
theorem tellB_len (c v1 v2 v3 v4 v5 v6 : Int) : (tellB c [v1, v2, v3, v4, v5, v6]).length = 51 := by
  unfold tellB
  rw [tells_len, List.length_append, le_len]; rfl
theorem tellB_by (c v1 v2 v3 v4 v5 v6 : Int) : By (tellB c [v1, v2, v3, v4, v5, v6]) := by
  rw [tellB_eq]
  exact (By.cons (by decide) By.nil).append ((le_by _ _).append ((le_by _ _).append ((le_by _ _).append ((le_by _ _).append ((le_by _ _).append ((le_by _ _).append ((le_by _ _).append By.nil)))))))
theorem hear_tell {c v1 v2 v3 v4 v5 v6 : Int} (hc : okCode c = true) (a1 : in64 v1) (a2 : in64 v2) (a3 : in64 v3) (a4 : in64 v4) (a5 : in64 v5) (a6 : in64 v6) : hearS (tellB c [v1, v2, v3, v4, v5, v6]) = some (c, v1, v2, v3, v4, v5, v6) := by
  have hc' := of_decide_eq_true hc
  unfold hearS
  have l := tellB_len c v1 v2 v3 v4 v5 v6
  rw [if_pos ⟨l, by rw [tellB_eq]; rfl⟩]
  have m : ∀ (p q t : List Int) (o n : Nat), p ++ (q ++ t) = tellB c [v1, v2, v3, v4, v5, v6] → p.length = o → q.length = n → valO (tellB c [v1, v2, v3, v4, v5, v6]) o n = ofLe q := fun p q t o n e ho hn => by rw [← e]; exact valO_mid p q t ho hn
  rw [m [33] (le 2 c) _ 1 2 (tellB_eq ..).symm rfl (le_len 2 _),
    m ([33] ++ le 2 c) (le 8 (IntKind.u64.wrap v1)) _ 3 8 (by rw [tellB_eq]; simp only [List.append_assoc]; rfl) (by simp [le_len]) (le_len 8 _),
    m ([33] ++ le 2 c ++ le 8 (IntKind.u64.wrap v1)) (le 8 (IntKind.u64.wrap v2)) _ 11 8 (by rw [tellB_eq]; simp only [List.append_assoc]; rfl) (by simp [le_len]) (le_len 8 _),
    m ([33] ++ le 2 c ++ le 8 (IntKind.u64.wrap v1) ++ le 8 (IntKind.u64.wrap v2)) (le 8 (IntKind.u64.wrap v3)) _ 19 8 (by rw [tellB_eq]; simp only [List.append_assoc]; rfl) (by simp [le_len]) (le_len 8 _),
    m ([33] ++ le 2 c ++ le 8 (IntKind.u64.wrap v1) ++ le 8 (IntKind.u64.wrap v2) ++ le 8 (IntKind.u64.wrap v3)) (le 8 (IntKind.u64.wrap v4)) _ 27 8 (by rw [tellB_eq]; simp only [List.append_assoc]; rfl) (by simp [le_len]) (le_len 8 _),
    m ([33] ++ le 2 c ++ le 8 (IntKind.u64.wrap v1) ++ le 8 (IntKind.u64.wrap v2) ++ le 8 (IntKind.u64.wrap v3) ++ le 8 (IntKind.u64.wrap v4)) (le 8 (IntKind.u64.wrap v5)) _ 35 8 (by rw [tellB_eq]; simp only [List.append_assoc]; rfl) (by simp [le_len]) (le_len 8 _),
    m ([33] ++ le 2 c ++ le 8 (IntKind.u64.wrap v1) ++ le 8 (IntKind.u64.wrap v2) ++ le 8 (IntKind.u64.wrap v3) ++ le 8 (IntKind.u64.wrap v4) ++ le 8 (IntKind.u64.wrap v5)) (le 8 (IntKind.u64.wrap v6)) _ 43 8 (by rw [tellB_eq]; simp only [List.append_assoc]; rfl) (by simp [le_len]) (le_len 8 _),
    ofLe2 (by omega) (by omega), ofLe8 a1.1 a1.2, ofLe8 a2.1 a2.2, ofLe8 a3.1 a3.2, ofLe8 a4.1 a4.2, ofLe8 a5.1 a5.2, ofLe8 a6.1 a6.2]
theorem hear_cut {xs : List Int} {m : Nat} (h : m < 51) : hearS (xs.take m) = none := by
  unfold hearS
  rw [if_neg]
  intro h2
  have := h2.1
  rw [List.length_take] at this
  omega
/-! ### the law -/
theorem tmod_cut {cut : Int} (h0 : 0 ≤ cut) (h1 : cut < 65536) {L : Nat} (hL : 1 < L) : ∃ m : Nat, m < L ∧ Int.tmod (IntKind.i64.wrap cut) (if (L : Int) > 1 then (L : Int) else 1) = (m : Int) ∧ ¬ ((if (L : Int) > 1 then (L : Int) else 1) = 0) := by
  rw [wi64 (by omega) (by omega), if_pos (by omega)]
  obtain ⟨d, rfl⟩ := Int.eq_ofNat_of_zero_le h0
  refine ⟨d % L, Nat.mod_lt _ (by omega), ?_, by omega⟩
  rw [Int.tmod_eq_emod_of_nonneg (by omega)]
  rfl
noncomputable def tailT (R : List Int × Option Int) (c v1 v2 v3 v4 v5 v6 cut : Int) : Option Bool :=
  (bif (Option.isNone R.2) then ((f_19 3000 R.1).bind fun r23 => (bif (decide ((if (List.length R.1 : Int) > 1 then (List.length R.1 : Int) else 1) = 0)) then none else (bif (decide (0 ≤ (Int.tmod (IntKind.i64.wrap cut) (if (List.length R.1 : Int) > 1 then (List.length R.1 : Int) else 1)) ∧ (Int.tmod (IntKind.i64.wrap cut) (if (List.length R.1 : Int) > 1 then (List.length R.1 : Int) else 1)) ≤ (List.length R.1 : Int))) then (bif (decide (0 ≤ (0 : Int) ∧ (0 : Int) ≤ (Int.tmod (IntKind.i64.wrap cut) (if (List.length R.1 : Int) > 1 then (List.length R.1 : Int) else 1)))) then ((f_19 3000 (List.drop (Int.toNat (0 : Int)) (List.take (Int.toNat (Int.tmod (IntKind.i64.wrap cut) (if (List.length R.1 : Int) > 1 then (List.length R.1 : Int) else 1))) R.1))).bind fun r24 => (bif (!(Option.isNone r23.2)) then (some false) else (bif (!((r23.1.1 == c) && ((r23.1.2.1 == v1) && ((r23.1.2.2.1 == v2) && ((r23.1.2.2.2.1 == v3) && ((r23.1.2.2.2.2.1 == v4) && ((r23.1.2.2.2.2.2.1 == v5) && (r23.1.2.2.2.2.2.2 == v6)))))))) then (some false) else ((f_21 3000 r24.2).bind fun r25 => (bif (r25 != 3) then (some false) else ((f_12 3000).bind fun r26 => (some r26))))))) else none) else none))) else ((f_12 3000).bind fun r27 => (some r27)))
theorem tail_holds {c v1 v2 v3 v4 v5 v6 cut : Int} (a1 : in64 v1) (a2 : in64 v2) (a3 : in64 v3) (a4 : in64 v4) (a5 : in64 v5) (a6 : in64 v6) (h0 : 0 ≤ cut) (h1 : cut < 65536) :
    tailT (if okCode c = true then (tellB c [v1, v2, v3, v4, v5, v6], none) else ([], some 1)) c v1 v2 v3 v4 v5 v6 cut = some true := by
  unfold tailT
  by_cases hc : okCode c = true
  rotate_left
  · rw [if_neg hc, sure_at]; rfl
  rw [if_pos hc]
  simp only [Option.isNone_none, cond_true]
  have hl := tellB_len c v1 v2 v3 v4 v5 v6
  have hb := tellB_by c v1 v2 v3 v4 v5 v6
  obtain ⟨m, hm, em, ez⟩ := tmod_cut h0 h1 (L := (tellB c [v1, v2, v3, v4, v5, v6]).length) (by omega)
  rw [decide_eq_false ez, em, hear_at hb (by omega), hear_tell hc a1 a2 a3 a4 a5 a6]
  simp only [Option.bind_some, cond_false]
  rw [decide_eq_true (show 0 ≤ (m : Int) ∧ (m : Int) ≤ ((tellB c [v1, v2, v3, v4, v5, v6]).length : Int) by omega), decide_eq_true (show 0 ≤ (0 : Int) ∧ (0 : Int) ≤ (m : Int) by omega)]
  simp only [cond_true, Int.toNat_natCast]
  rw [show Int.toNat (0 : Int) = 0 from rfl, List.drop_zero, hear_at (hb.take m) (by rw [List.length_take]; omega), hear_cut (by omega), sure_at]
  simp only [Option.bind_some, beq_self_eq_true, Option.isNone_none, Bool.not_true, Bool.and_self, cond_false, num_some, bne_self_eq_false]
theorem back_holds {k : Int} {s : ByteArray} {b : List Int} {n c v1 v2 v3 v4 v5 v6 cut : Int} (hb : By b) (hn : in64 n) (a1 : in64 v1) (a2 : in64 v2) (a3 : in64 v3) (a4 : in64 v4) (a5 : in64 v5) (a6 : in64 v6) (h0 : 0 ≤ cut) (h1 : cut < 65536) :
    f_4 3000 k s b n c v1 v2 v3 v4 v5 v6 cut = some true := by
  unfold f_4
  by_cases g1 : (s.size : Int) > 400
  · rw [decide_eq_true g1, cond_true, sure_at]; rfl
  rw [decide_eq_false g1, cond_false]
  by_cases g2 : (b.length : Int) > 2000
  · rw [decide_eq_true g2, cond_true, sure_at]; rfl
  rw [decide_eq_false g2, cond_false, enc_at (by decide), tell_at (by decide)]
  simp only [Option.bind_some]
  have tl := tail_holds (c := c) (cut := cut) a1 a2 a3 a4 a5 a6 h0 h1
  generalize (if okCode c = true then (tellB c [v1, v2, v3, v4, v5, v6], (none : Option Int)) else ([], some 1)) = R at tl ⊢
  cases hB : callB k s b n with
  | none => exact tl
  | some r =>
    have C := callB_at hb hn.1 hn.2 hB
    have hl := C.len
    have h2 := C.blen
    have h3 := C.size
    obtain ⟨m, hm, em, ez⟩ := tmod_cut h0 h1 (L := r.length) (by omega)
    simp only [Option.isNone_none, cond_true]
    rw [decide_eq_false ez, em, dec_at (by decide) C.by_ (by omega), C.back]
    simp only [Option.bind_some, cond_false]
    rw [decide_eq_true (show 0 ≤ (m : Int) ∧ (m : Int) ≤ (r.length : Int) by omega), decide_eq_true (show 0 ≤ (0 : Int) ∧ (0 : Int) ≤ (m : Int) by omega)]
    simp only [cond_true, Int.toNat_natCast]
    rw [show Int.toNat (0 : Int) = 0 from rfl, List.drop_zero, dec_at (by decide) (C.by_.take m) (by rw [List.length_take]; omega), C.cut hm]
    simp only [Option.bind_some]
    rw [decide_eq_true (show (List.length ([] : List Int) + r.length) * 1 ≤ 140737488355328 by rw [List.length_nil]; omega), decide_eq_true (show (List.length ([] ++ r) + List.length ([0] : List Int)) * 1 ≤ 140737488355328 by rw [List.nil_append, List.length_singleton]; omega), List.nil_append, dec_at (by decide) (C.by_.append (By.cons (by decide) By.nil)) (by rw [List.length_append, List.length_singleton]; omega), C.more]
    simp only [cond_true, Option.bind_some, Option.isNone_none, Bool.not_true, cond_false, same_self, num_some, bne_self_eq_false]
    exact tl
end Go.Proofs.YtkdjfakjnkemiaaDoor.Mir
