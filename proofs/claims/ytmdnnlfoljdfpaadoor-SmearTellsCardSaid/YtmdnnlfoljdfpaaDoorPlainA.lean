/- Plain facts: numbers that go round, bytes of numbers. Nothing here names the program. -/
import Derived.Test.YtmdnnlfoljdfpaaDoorMirO
namespace Go.Proofs.YtmdnnlfoljdfpaaDoor.Mir
open Go Go.RowKit

theorem wu8 {n : Int} (h0 : 0 ≤ n) (h1 : n < 256) : IntKind.u8.wrap n = n := by rw [IntKind.wrap_u8]; omega
theorem wu16 {n : Int} (h0 : 0 ≤ n) (h1 : n < 65536) : IntKind.u16.wrap n = n := by rw [IntKind.wrap_u16]; omega
theorem wu64 {n : Int} (h0 : 0 ≤ n) (h1 : n < 18446744073709551616) : IntKind.u64.wrap n = n := by rw [IntKind.wrap_u64]; omega
theorem wi64 {n : Int} (h0 : -9223372036854775808 ≤ n) (h1 : n < 9223372036854775808) : IntKind.i64.wrap n = n := by rw [IntKind.wrap_i64]; omega
theorem wu64_lt (n : Int) : 0 ≤ IntKind.u64.wrap n ∧ IntKind.u64.wrap n < 18446744073709551616 := by rw [IntKind.wrap_u64]; omega
theorem wi64_u64 {n : Int} (h0 : -9223372036854775808 ≤ n) (h1 : n < 9223372036854775808) : IntKind.i64.wrap (IntKind.u64.wrap n) = n := by rw [IntKind.wrap_i64, IntKind.wrap_u64]; omega
set_option maxRecDepth 100000 in
theorem or256 (v c : Int) (hv : 0 ≤ v) (hc : 0 ≤ c) (h : c < 256) (hb : v * 256 + c < 18446744073709551616) : bits .or .u64 (v * 256) c = v * 256 + c := by
  obtain ⟨a, rfl⟩ := Int.eq_ofNat_of_zero_le hv
  obtain ⟨d, rfl⟩ := Int.eq_ofNat_of_zero_le hc
  have h' : d < 256 := by omega
  have hb' : a * 256 + d < 18446744073709551616 := by omega
  have e1 : BitVec.ofInt 64 ((a : Int) * 256) = BitVec.ofNat 64 (a * 256) := by
    rw [show ((a : Int) * 256) = ((a * 256 : Nat) : Int) by omega]; exact BitVec.ofInt_natCast _ _
  have e2 : BitVec.ofInt 64 (d : Int) = BitVec.ofNat 64 d := BitVec.ofInt_natCast _ _
  have e3 : a * 256 ||| d = a * 256 + d := by
    have := Nat.two_pow_add_eq_or_of_lt (i := 8) (b := d) h' a
    rw [show a * 256 = 2 ^ 8 * a by omega]
    exact this.symm
  show IntKind.u64.wrap (BitVec.toNat (BitVec.ofInt 64 ((a : Int) * 256) ||| BitVec.ofInt 64 (d : Int)) : Int) = _
  rw [e1, e2, BitVec.toNat_or, BitVec.toNat_ofNat, BitVec.toNat_ofNat, Nat.mod_eq_of_lt (by omega), Nat.mod_eq_of_lt (by omega), e3]
  rw [wu64 (by omega) (by omega)]
  omega
/-- Bytes. -/
def By (xs : List Int) : Prop := ∀ x ∈ xs, 0 ≤ x ∧ x < 256
theorem By.nil : By [] := fun _ h => by cases h
theorem By.cons {x : Int} {xs : List Int} (h : 0 ≤ x ∧ x < 256) (t : By xs) : By (x :: xs) := fun y hy => by
  rcases List.mem_cons.1 hy with rfl | hy
  · exact h
  · exact t y hy
theorem By.append {xs ys : List Int} (h : By xs) (k : By ys) : By (xs ++ ys) := fun x hx => (List.mem_append.1 hx).elim (h x) (k x)
theorem By.take {xs : List Int} (h : By xs) (n : Nat) : By (xs.take n) := fun x hx => h x (List.mem_of_mem_take hx)
theorem By.drop {xs : List Int} (h : By xs) (n : Nat) : By (xs.drop n) := fun x hx => h x (List.mem_of_mem_drop hx)
/-- So many bytes of a number, the lowest first. -/
def le : Nat → Int → List Int
  | 0, _ => []
  | n + 1, v => v % 256 :: le n (v / 256)
def ofLe : List Int → Int
  | [] => 0
  | c :: r => c + 256 * ofLe r
theorem le_len : ∀ (n : Nat) (v : Int), (le n v).length = n
  | 0, _ => rfl
  | n + 1, v => by simp [le, le_len n]
theorem le_by : ∀ (n : Nat) (v : Int), By (le n v)
  | 0, _ => By.nil
  | n + 1, v => By.cons (by omega) (le_by n _)
theorem ofLe_lt : ∀ {xs : List Int}, By xs → 0 ≤ ofLe xs ∧ ofLe xs < 256 ^ xs.length
  | [], _ => by simp [ofLe]
  | x :: xs, h => by
    obtain ⟨h1, h2⟩ := ofLe_lt (xs := xs) (fun y hy => h y (List.mem_cons_of_mem _ hy))
    have h3 := h x List.mem_cons_self
    simp only [ofLe, List.length_cons, Int.pow_succ]
    omega
theorem ofLe_le : ∀ (n : Nat) {v : Int}, 0 ≤ v → v < 256 ^ n → ofLe (le n v) = v
  | 0, v, h0, h1 => by simp at h1; simp [le, ofLe]; omega
  | n + 1, v, h0, h1 => by
    rw [Int.pow_succ] at h1
    simp only [le, ofLe]
    rw [ofLe_le n (by omega) (by omega)]
    omega
end Go.Proofs.YtmdnnlfoljdfpaaDoor.Mir
