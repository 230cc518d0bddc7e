/- The laws CallsForms and CallsBack, of any data that a world can hold. -/
import Derived.Test.YtkdjfakjnkemiaaDoorCallsU
import Derived.Test.YtkdjfakjnkemiaaDoorMirW
namespace Go.Proofs.YtkdjfakjnkemiaaDoor
open Go Go.RowKit Mir
theorem by_of_ok {xs : List Int} (h : OkS (.sl [.int .u8]) xs) : By xs := fun x hx => by
  have : OkL [.int .u8] x := (show List.length (α := Int) xs ≤ maxLen ∧ ∀ x ∈ (xs : List Int), OkL [.int .u8] x by simpa only [OkS] using h).2 x hx
  have h2 := wf_range (show (Lit.int .u8 x).wf = true by simpa only [OkL, OkS] using this)
  have a : IntKind.u8.min = 0 := by decide
  have b : IntKind.u8.max = 255 := by decide
  omega
theorem in64_of_wf {x : Int} (h : OkS (.int .i64) x) : in64 x := wf_i64 (by simpa only [OkS] using h)
theorem laid_Q {w : World} (hL : LaidW w) : ∀ q ∈ Mir.laidL, w.cell? ⟨q.1, q.2.1, none⟩ = some q.2.2 := fun q hq => by
  obtain rfl := List.mem_singleton.1 hq
  exact hL
set_option maxRecDepth 100000 in
theorem law_CallsForms_row (w : World) (hL : LaidW w) {v0 v1 v2 : Value} {y0 : TL [.int .i64, .str, .sl [.int .u8], .int .i64]} (_ : OkL _ y0) (e0 : RepA (gW w) (.agg (encL _ y0)) v0) {y1 : TL [.int .i64, .int .i64, .int .i64, .int .i64, .int .i64, .int .i64, .int .i64]} (_ : OkL _ y1) (e1 : RepA (gW w) (.agg (encL _ y1)) v1)
    {y2 : (Sh.sl [.int .u8]).T} (k2 : OkS (.sl [.int .u8]) y2) (e2 : RepA (gW w) (.one (encS (.sl [.int .u8]) y2)) v2) :
    Calls Tryd.prog 3 #[v0, v1, v2] w fun e w' => e = .returned (.bool true) ∧ Below w.heap.size w w' := by
  obtain ⟨k, s, b, n⟩ := y0
  obtain ⟨c, a1, a2, a3, a4, a5, a6⟩ := y1
  have hr : (S_3 3000).run [.agg (encL [.int .i64, .str, .sl [.int .u8], .int .i64] (k, s, b, n)), .agg (encL [.int .i64, .int .i64, .int .i64, .int .i64, .int .i64, .int .i64, .int .i64] (c, a1, a2, a3, a4, a5, a6)), .one (encS (.sl [.int .u8]) y2)] [] = f_3 3000 k s b n c a1 a2 a3 a4 a5 a6 y2 := by kernel_rfl
  have ho : ((S_3 3000).out [.agg (encL [.int .i64, .str, .sl [.int .u8], .int .i64] (k, s, b, n)), .agg (encL [.int .i64, .int .i64, .int .i64, .int .i64, .int .i64, .int .i64, .int .i64] (c, a1, a2, a3, a4, a5, a6)), .one (encS (.sl [.int .u8]) y2)] [] true).1 = .a (.one (Mir.boolC true)) := by kernel_rfl
  exact calls_open (vs := [v0, v1, v2]) (s_3 3000) (by kernel_rfl) Tryd.func3 (by kernel_rfl) (by kernel_rfl) (hr.trans (forms_holds k s b n c a1 a2 a3 a4 a5 a6 y2 (by_of_ok k2)))
    ⟨v0, _, rfl, e0, v1, _, rfl, e1, v2, _, rfl, e2, rfl⟩ (laid_Q hL) (fun g x h => by rw [ho] at h; exact h)
set_option maxRecDepth 100000 in
theorem law_CallsBack_row (w : World) (hL : LaidW w) {v0 v1 v2 : Value} {y0 : TL [.int .i64, .str, .sl [.int .u8], .int .i64]} (k0 : OkL _ y0) (e0 : RepA (gW w) (.agg (encL _ y0)) v0) {y1 : TL [.int .i64, .int .i64, .int .i64, .int .i64, .int .i64, .int .i64, .int .i64]} (k1 : OkL _ y1) (e1 : RepA (gW w) (.agg (encL _ y1)) v1)
    {y2 : (Sh.int .u16).T} (k2 : OkS (.int .u16) y2) (e2 : RepA (gW w) (.one (encS (.int .u16) y2)) v2) :
    Calls Tryd.prog 4 #[v0, v1, v2] w fun e w' => e = .returned (.bool true) ∧ Below w.heap.size w w' := by
  obtain ⟨k, s, b, n⟩ := y0
  obtain ⟨c, a1, a2, a3, a4, a5, a6⟩ := y1
  have hr : (S_4 3000).run [.agg (encL [.int .i64, .str, .sl [.int .u8], .int .i64] (k, s, b, n)), .agg (encL [.int .i64, .int .i64, .int .i64, .int .i64, .int .i64, .int .i64, .int .i64] (c, a1, a2, a3, a4, a5, a6)), .one (encS (.int .u16) y2)] [] = f_4 3000 k s b n c a1 a2 a3 a4 a5 a6 y2 := by kernel_rfl
  have ho : ((S_4 3000).out [.agg (encL [.int .i64, .str, .sl [.int .u8], .int .i64] (k, s, b, n)), .agg (encL [.int .i64, .int .i64, .int .i64, .int .i64, .int .i64, .int .i64, .int .i64] (c, a1, a2, a3, a4, a5, a6)), .one (encS (.int .u16) y2)] [] true).1 = .a (.one (Mir.boolC true)) := by kernel_rfl
  simp only [OkL] at k0 k1
  obtain ⟨_, _, kb, kn⟩ := k0
  obtain ⟨_, q1, q2, q3, q4, q5, q6⟩ := k1
  have hc := wf_range (show (Lit.int .u16 y2).wf = true by simpa only [OkS] using k2)
  have c0 : IntKind.u16.min = 0 := by decide
  have c1 : IntKind.u16.max = 65535 := by decide
  exact calls_open (vs := [v0, v1, v2]) (s_4 3000) (by kernel_rfl) Tryd.func4 (by kernel_rfl) (by kernel_rfl) (hr.trans (back_holds (by_of_ok kb) (in64_of_wf kn) (in64_of_wf q1) (in64_of_wf q2) (in64_of_wf q3) (in64_of_wf q4) (in64_of_wf q5) (in64_of_wf q6) (by omega) (by omega)))
    ⟨v0, _, rfl, e0, v1, _, rfl, e1, v2, _, rfl, e2, rfl⟩ (laid_Q hL) (fun g x h => by rw [ho] at h; exact h)
end Go.Proofs.YtkdjfakjnkemiaaDoor
