/- fusee/wide and fuseeref02.MulDiv, by their walks, as summaries. -/
import Derived.Test.YtmdnnlfoljdfpaaDoorMirY
import Derived.Test.YtmdnnlfoljdfpaaDoorWide4
import Derived.Test.YtmdnnlfoljdfpaaDoorBigF
namespace Go.Proofs.YtmdnnlfoljdfpaaDoor.Mir
open Go Go.RowKit
set_option maxRecDepth 100000

abbrev lI : List ShA → List ShA := fun l => .one (.d (.int .i64)) :: l
abbrev shE : ShA := .one (.d (.err 95))
def i64B (x : Int) : Bool := decide (-9223372036854775808 ≤ x ∧ x < 9223372036854775808)
theorem i64B_iff {x : Int} : i64B x = true ↔ in64 x := by simp [i64B, in64]
/-- A wide number that fits, or an error. -/
def fitP (s : Int) : Int × Option Int := bif i64B s then (s, none) else (0, some 2)
theorem fitP_rep {g : Gh} (s : Int) : RepV g (retV 2 (encAs 0 [.one (.d (.int .i64)), shE] (fitP s))) (fitI s) := by
  unfold fitP fitI
  by_cases h : in64 s
  · rw [if_pos h, i64B_iff.2 h]; exact ⟨_, rfl, _, _, rfl, rfl, _, _, rfl, rfl, rfl⟩
  · rw [if_neg h, Bool.eq_false_iff.2 (fun e => h (i64B_iff.1 e))]; exact ⟨_, rfl, _, _, rfl, rfl, _, _, rfl, rfl, rfl⟩
def mdF (a b c : Int) : Option (TAs [.one (.d (.int .i64)), shE]) := bif i64B a && (i64B b && i64B c) then some (bif decide (c < 1) then (0, some 1) else fitP (a * b / c)) else none
def mdS : Sum := fnSum 3 0 2 [.one (.d (.int .i64)), .one (.d (.int .i64)), .one (.d (.int .i64))] [.one (.d (.int .i64)), shE] (fun p => mdF p.1 p.2.1 p.2.2)
theorem mdS_ok : SumOk Tryd.prog laidL 49 mdS := by
  refine bridge rfl (fun _ => rfl) ?_
  rintro ⟨a, b, c⟩ r h g w vs _ ⟨_, _, rfl, ha, _, _, rfl, hb, _, _, rfl, hc, rfl⟩
  simp only [mdF] at h
  cases hk : (i64B a && (i64B b && i64B c)) with
  | false => rw [hk] at h; cases h
  | true =>
    rw [hk] at h
    obtain rfl := Option.some.inj h
    simp only [Bool.and_eq_true, i64B_iff] at hk
    cases ha; cases hb; cases hc
    refine invokes_of_calls Tryd.func49 (by kernel_rfl) (by kernel_rfl) ((wide_MulDiv a b c hk.1 hk.2.1 hk.2.2 w).mono ?_)
    rintro e w' ⟨rfl, hw⟩
    refine ⟨_, rfl, ?_, hw⟩
    unfold mulDivR
    by_cases h : c < 1
    · rw [if_pos h, decide_eq_true h]; exact ⟨_, rfl, _, _, rfl, rfl, _, _, rfl, rfl, rfl⟩
    · rw [if_neg h, decide_eq_false h]; exact fitP_rep _
def rmdF (a b c : Int) : Option (TAs [.one (.d (.int .i64)), .one (.d (.int .i64))]) := bif i64B a && (i64B b && i64B c) then some (bif decide (c < 1) then (0, 1) else bif i64B (a * b / c) then (a * b / c, 0) else (0, 2)) else none
def rmdS : Sum := fnSum 3 0 2 [.one (.d (.int .i64)), .one (.d (.int .i64)), .one (.d (.int .i64))] [.one (.d (.int .i64)), .one (.d (.int .i64))] (fun p => rmdF p.1 p.2.1 p.2.2)
theorem rmdS_ok : SumOk Tryd.prog laidL 52 rmdS := by
  refine bridge rfl (fun _ => rfl) ?_
  rintro ⟨a, b, c⟩ r h g w vs _ ⟨_, _, rfl, ha, _, _, rfl, hb, _, _, rfl, hc, rfl⟩
  simp only [rmdF] at h
  cases hk : (i64B a && (i64B b && i64B c)) with
  | false => rw [hk] at h; cases h
  | true =>
    rw [hk] at h
    obtain rfl := Option.some.inj h
    simp only [Bool.and_eq_true, i64B_iff] at hk
    cases ha; cases hb; cases hc
    refine invokes_of_calls Tryd.func52 (by kernel_rfl) (by kernel_rfl) ((ref_MulDiv a b c hk.1 hk.2.1 hk.2.2 w).mono ?_)
    rintro e w' ⟨rfl, hw⟩
    refine ⟨_, rfl, ?_, hw⟩
    unfold refP mdX
    by_cases h : c < 1
    · rw [if_pos h, decide_eq_true h]; exact ⟨_, rfl, _, _, rfl, rfl, _, _, rfl, rfl, rfl⟩
    · rw [if_neg h, decide_eq_false h]
      by_cases h2 : in64 (a * b / c)
      · rw [if_pos h2, i64B_iff.2 h2]; exact ⟨_, rfl, _, _, rfl, rfl, _, _, rfl, rfl, rfl⟩
      · rw [if_neg h2, Bool.eq_false_iff.2 (fun e => h2 (i64B_iff.1 e))]; exact ⟨_, rfl, _, _, rfl, rfl, _, _, rfl, rfl, rfl⟩
abbrev shW : ShA := .agg [.d (.int .i64), .d (.int .u64)]
def hlV (p : Int × Int) : Int := p.1 * 18446744073709551616 + p.2
def hlD (v : Int) : Int × Int := (v / 18446744073709551616, v % 18446744073709551616)
theorem hlD_hlV (v : Int) : hlV (hlD v) = v := by unfold hlV hlD; simp only; omega
theorem hl_rep {g : Gh} {p : Int × Int} {x : Value} (h2 : u64B p.2 = true) (h : RepA g (encA 0 shW p) x) : x = wv (hlV p) := by
  obtain ⟨l, rfl, _, _, rfl, hx, _, _, rfl, hy, rfl⟩ := h
  cases hx; cases hy
  exact wv_hl p.1 p.2 (u64B_iff.1 h2).1 (u64B_iff.1 h2).2
theorem rep_hl {g : Gh} (v : Int) : RepA g (encA 0 shW (hlD v)) (wv v) := ⟨_, rfl, _, _, rfl, rfl, _, _, rfl, rfl, rfl⟩
theorem hlV_in {p : Int × Int} (h1 : in64 p.1) (h2 : u64B p.2 = true) : in128 (hlV p) := by
  have := u64B_iff.1 h2
  unfold in64 at h1
  unfold in128 hlV
  omega
def wmulF (a b : Int) : Option (TAs [shW]) := bif i64B a && i64B b then some (hlD (a * b)) else none
def wmulS : Sum := fnSum 2 0 1 [.one (.d (.int .i64)), .one (.d (.int .i64))] [shW] (fun p => wmulF p.1 p.2)
theorem wmulS_ok : SumOk Tryd.prog laidL 90 wmulS := by
  refine bridge rfl (fun _ => rfl) ?_
  rintro ⟨a, b⟩ r h g w vs _ ⟨_, _, rfl, ha, _, _, rfl, hb, rfl⟩
  simp only [wmulF] at h
  cases hk : (i64B a && i64B b) with
  | false => rw [hk] at h; cases h
  | true =>
    rw [hk] at h
    obtain rfl := Option.some.inj h
    simp only [Bool.and_eq_true, i64B_iff] at hk
    cases ha; cases hb
    refine invokes_of_calls Tryd.func90 (by kernel_rfl) (by kernel_rfl) ((wide_Mul a b hk.1 hk.2 w).mono ?_)
    rintro e w' ⟨rfl, hw⟩
    exact ⟨_, rfl, rep_hl _, hw⟩
def wintF (p : TAs [shW]) : Option (TAs [.one (.d (.int .i64)), shE]) := bif i64B p.1 && u64B p.2 then some (fitP (hlV p)) else none
def wintS : Sum := fnSum 1 0 2 [shW] [.one (.d (.int .i64)), shE] wintF
theorem wintS_ok : SumOk Tryd.prog laidL 91 wintS := by
  refine bridge rfl (fun _ => rfl) ?_
  rintro p r h g w vs _ ⟨_, _, rfl, ha, rfl⟩
  simp only [wintF] at h
  cases hk : (i64B p.1 && u64B p.2) with
  | false => rw [hk] at h; cases h
  | true =>
    rw [hk] at h
    obtain rfl := Option.some.inj h
    simp only [Bool.and_eq_true, i64B_iff] at hk
    obtain rfl := hl_rep hk.2 ha
    refine invokes_of_calls Tryd.func91 (by kernel_rfl) (by kernel_rfl) ((wide_Int (hlV p) (hlV_in hk.1 hk.2) w).mono ?_)
    rintro e w' ⟨rfl, hw⟩
    exact ⟨_, rfl, fitP_rep _, hw⟩
def wdivF (p : TAs [shW, .one (.d (.int .i64))]) : Option (TAs [shW, .one (.d (.int .i64)), shE]) := bif i64B p.1.1 && (u64B p.1.2 && i64B p.2) then some (bif decide (p.2 < 1) then ((0, 0), 0, some 1) else (hlD (hlV p.1 / p.2), hlV p.1 % p.2, none)) else none
def wdivS : Sum := fnSum 2 0 3 [shW, .one (.d (.int .i64))] [shW, .one (.d (.int .i64)), shE] wdivF
theorem wdivS_ok : SumOk Tryd.prog laidL 89 wdivS := by
  refine bridge rfl (fun _ => rfl) ?_
  rintro ⟨p, d⟩ r h g w vs _ ⟨_, _, rfl, ha, _, _, rfl, hd, rfl⟩
  simp only [wdivF] at h
  cases hk : (i64B p.1 && (u64B p.2 && i64B d)) with
  | false => rw [hk] at h; cases h
  | true =>
    rw [hk] at h
    obtain rfl := Option.some.inj h
    simp only [Bool.and_eq_true, i64B_iff] at hk
    obtain rfl := hl_rep hk.2.1 ha
    cases hd
    have hin := hlV_in hk.1 hk.2.1
    by_cases h : d < 1
    · refine invokes_of_calls Tryd.func89 (by kernel_rfl) (by kernel_rfl) ((wide_Div_err (hlV p) d hin h w).mono ?_)
      rintro e w' ⟨rfl, hw⟩
      refine ⟨_, rfl, ?_, hw⟩
      rw [decide_eq_true h]
      exact ⟨_, rfl, _, _, rfl, rep_hl 0, _, _, rfl, rfl, _, _, rfl, rfl, rfl⟩
    · have hd2 := hk.2.2
      unfold in64 at hd2
      have hd1 : (1 : Int) ≤ d := Int.not_lt.1 h
      refine invokes_of_calls Tryd.func89 (by kernel_rfl) (by kernel_rfl) ((wide_Div_ok (hlV p) d hin hd1 hd2.2 w).mono ?_)
      rintro e w' ⟨rfl, hw⟩
      refine ⟨_, rfl, ?_, hw⟩
      rw [decide_eq_false h]
      exact ⟨_, rfl, _, _, rfl, rep_hl _, _, _, rfl, rfl, _, _, rfl, rfl, rfl⟩
end Go.Proofs.YtmdnnlfoljdfpaaDoor.Mir
