/- Plain arithmetic of the numbers of 64 and 128 bits that the contracts speak of; no program in sight. -/
import Derived.WalkKit
import Derived.Deep.Draws
import Derived.StillTailTactics
namespace Go.Proofs.YtmdnnlfoljdfpaaDoor
open Go.RowKit

theorem ret_eq {a b : Value} (h : a = b) : Ending.returned a = Ending.returned b := by rw [h]
/-- The end of a walk: what is returned first, then what is asked of it. -/
theorem bp_ret {P : Program} {fn : Func} {R : Ending → World → Prop} {a : Act} {w : World} (h : ∃ v, (results fn a.tmps).run P w = .ok v w ∧ R (.returned v) w) (hd : a.defers = []) : bodyPost P fn R .ret a w := ⟨hd, h⟩

theorem below_drewN (B : Nat) (w : World) (n : Nat) : Below B w (w.drewN n) := ⟨rfl, rfl, rfl, Nat.le_refl _, fun _ _ => rfl⟩

/-- A region that draws its order, all of it but the tail read and compute alone: its world told as one draw. -/
theorem wp_region_tail_drew {P : Program} {id : Nat} {Q : Exit → Act → World → Prop} {a : Act} {w : World} {l : List Oper} (n : Nat) (hm : P.follows .mixedOrders = true) (hB : Region.lexTailB .any l.toArray n = true)
    (h : wpStill P l.toArray w.drew (fun a' => wpList P l.toArray Q (l.drop n) a' w.drew) (l.take n) a) : (Code.region id l.toArray true).wp P Q a w :=
  wp_region_still_tail n hm hB h

def in64 (v : Int) : Prop := -9223372036854775808 ≤ v ∧ v < 9223372036854775808
def inU64 (v : Int) : Prop := 0 ≤ v ∧ v < 18446744073709551616
def in128 (v : Int) : Prop := -170141183460469231731687303715884105728 ≤ v ∧ v < 170141183460469231731687303715884105728
instance (v : Int) : Decidable (in64 v) := inferInstanceAs (Decidable (_ ∧ _))
instance (v : Int) : Decidable (inU64 v) := inferInstanceAs (Decidable (_ ∧ _))
instance (v : Int) : Decidable (in128 v) := inferInstanceAs (Decidable (_ ∧ _))

/-- A number of 128 bits by its halves. -/
def wv (v : Int) : Value := .agg #[.int .i64 (v / 18446744073709551616), .int .u64 (v % 18446744073709551616)]
theorem wv_of {v h l : Int} (h1 : h = v / 18446744073709551616) (h2 : l = v % 18446744073709551616) : Value.agg #[.int .i64 h, .int .u64 l] = wv v := by
  unfold wv; rw [h1, h2]
theorem wv_hl (h l : Int) (h0 : 0 ≤ l) (h1 : l < 18446744073709551616) : Value.agg #[.int .i64 h, .int .u64 l] = wv (h * 18446744073709551616 + l) :=
  wv_of (by omega) (by omega)

/-- The signed product of two numbers by the unsigned one of their rests. -/
theorem mul_parts (a b : Int) : a % 18446744073709551616 * (b % 18446744073709551616) = a * b - (a / 18446744073709551616 * (b % 18446744073709551616) + a % 18446744073709551616 * (b / 18446744073709551616) + a / 18446744073709551616 * (b / 18446744073709551616) * 18446744073709551616) * 18446744073709551616 := by
  have h1 := Int.mul_ediv_add_emod a 18446744073709551616
  have h2 := Int.mul_ediv_add_emod b 18446744073709551616
  generalize a % 18446744073709551616 = ra at *
  generalize b % 18446744073709551616 = rb at *
  generalize a / 18446744073709551616 = qa at *
  generalize b / 18446744073709551616 = qb at *
  subst h1 h2
  grind
theorem mul_bound {a b A B : Int} (ha : -A ≤ a) (ha' : a ≤ A) (hb : -B ≤ b) (hb' : b ≤ B) : -(A * B) ≤ a * b ∧ a * b ≤ A * B := by
  have p1 : 0 ≤ (A - a) * (B - b) := Int.mul_nonneg (by omega) (by omega)
  have p2 : 0 ≤ (A + a) * (B + b) := Int.mul_nonneg (by omega) (by omega)
  have p3 : 0 ≤ (A - a) * (B + b) := Int.mul_nonneg (by omega) (by omega)
  have p4 : 0 ≤ (A + a) * (B - b) := Int.mul_nonneg (by omega) (by omega)
  constructor <;> grind
theorem mul_in128 {a b : Int} (ha : in64 a) (hb : in64 b) : in128 (a * b) := by
  have h := mul_bound (A := 9223372036854775808) (B := 9223372036854775808) ha.1 (Int.le_of_lt ha.2) hb.1 (Int.le_of_lt hb.2)
  unfold in128; omega
theorem wv_open (x : Int) (hx : in128 x) : ∃ h l : Int, wv x = .agg #[.int .i64 h, .int .u64 l] ∧ x = h * 18446744073709551616 + l ∧ -9223372036854775808 ≤ h ∧ h < 9223372036854775808 ∧ 0 ≤ l ∧ l < 18446744073709551616 := by
  unfold in128 at hx
  exact ⟨_, _, rfl, by omega, by omega, by omega, by omega, by omega⟩

theorem wf_i64 {a : Int} (h : (Lit.int .i64 a).wf = true) : in64 a := by
  simp only [Lit.wf, Bool.and_eq_true, decide_eq_true_eq] at h
  have e1 : IntKind.i64.min = -9223372036854775808 := by decide
  have e2 : IntKind.i64.max = 9223372036854775807 := by decide
  unfold in64; omega
theorem wf_u64 {a : Int} (h : (Lit.int .u64 a).wf = true) : inU64 a := by
  simp only [Lit.wf, Bool.and_eq_true, decide_eq_true_eq] at h
  have e1 : IntKind.u64.min = 0 := by decide
  have e2 : IntKind.u64.max = 18446744073709551615 := by decide
  unfold inU64; omega
theorem wf_u32 {a : Int} (h : (Lit.int .u32 a).wf = true) : 0 ≤ a ∧ a < 4294967296 := by
  simp only [Lit.wf, Bool.and_eq_true, decide_eq_true_eq] at h
  have e1 : IntKind.u32.min = 0 := by decide
  have e2 : IntKind.u32.max = 4294967295 := by decide
  omega
theorem wf_i32 {a : Int} (h : (Lit.int .i32 a).wf = true) : -2147483648 ≤ a ∧ a < 2147483648 := by
  simp only [Lit.wf, Bool.and_eq_true, decide_eq_true_eq] at h
  have e1 : IntKind.i32.min = -2147483648 := by decide
  have e2 : IntKind.i32.max = 2147483647 := by decide
  omega
theorem wf_u16 {a : Int} (h : (Lit.int .u16 a).wf = true) : 0 ≤ a ∧ a < 65536 := by
  simp only [Lit.wf, Bool.and_eq_true, decide_eq_true_eq] at h
  have e1 : IntKind.u16.min = 0 := by decide
  have e2 : IntKind.u16.max = 65535 := by decide
  omega
theorem wf_u8 {a : Int} (h : (Lit.int .u8 a).wf = true) : 0 ≤ a ∧ a < 256 := by
  simp only [Lit.wf, Bool.and_eq_true, decide_eq_true_eq] at h
  have e1 : IntKind.u8.min = 0 := by decide
  have e2 : IntKind.u8.max = 255 := by decide
  omega
/-- What of memory a walk told keeps: cells and marks below. -/
theorem bcell {W w1 : World} (hb : Below W.heap.size W w1) : (∀ b o, b < W.heap.size → w1.cell? ⟨b, o, none⟩ = W.cell? ⟨b, o, none⟩) ∧ (∀ b o, b < W.heap.size → w1.frozen? ⟨b, o, none⟩ = W.frozen? ⟨b, o, none⟩) :=
  ⟨fun b o h => hb.cell (p := ⟨b, o, none⟩) h, fun b o h => hb.frozen (p := ⟨b, o, none⟩) h⟩
theorem bcell_drew {W w1 : World} (hb : Below W.drew.heap.size W.drew w1) : (∀ b o, b < W.heap.size → w1.cell? ⟨b, o, none⟩ = W.cell? ⟨b, o, none⟩) ∧ (∀ b o, b < W.heap.size → w1.frozen? ⟨b, o, none⟩ = W.frozen? ⟨b, o, none⟩) :=
  ⟨fun b o h => hb.cell (p := ⟨b, o, none⟩) h, fun b o h => hb.frozen (p := ⟨b, o, none⟩) h⟩
end Go.Proofs.YtmdnnlfoljdfpaaDoor
