/- The law SmearTells, of any data that a world can hold. -/
import Derived.Test.YtmdnnlfoljdfpaaDoorSmearA
import Derived.Test.YtmdnnlfoljdfpaaDoorLawSmear
namespace Go.Proofs.YtmdnnlfoljdfpaaDoor
open Go Go.RowKit Mir
set_option maxRecDepth 100000 in
theorem law_SmearTells_row (w : World) (hL : LaidW w) {v0 v1 v2 : Value} {y0 : TL smSh} (_ : OkL _ y0) (e0 : RepA (gW w) (.agg (encL _ y0)) v0) {y1 : TL tbSh} (_ : OkL _ y1) (e1 : RepA (gW w) (.agg (encL _ y1)) v1)
    {y2 : (Sh.int .i64).T} (k2 : OkS (.int .i64) y2) (e2 : RepA (gW w) (.one (encS (.int .i64) y2)) v2) :
    Calls Tryd.prog 6 #[v0, v1, v2] w fun e w' => e = .returned (.bool true) ∧ Below w.heap.size w w' := by
  obtain ⟨k, bf, af⟩ := y0
  obtain ⟨b, l, L⟩ := y1
  have hr : (S_6 3000).run [.agg (encL smSh (k, bf, af)), .agg (encL tbSh (b, l, L)), .one (encS (.int .i64) y2)] [] = f_6 3000 k bf af b l L y2 := by kernel_rfl
  have ho : ((S_6 3000).out [.agg (encL smSh (k, bf, af)), .agg (encL tbSh (b, l, L)), .one (encS (.int .i64) y2)] [] true).1 = .a (.one (Mir.boolC true)) := by kernel_rfl
  have h64 := wf_i64 (show (Lit.int .i64 y2).wf = true by simpa only [OkS] using k2)
  exact calls_open (vs := [v0, v1, v2]) (s_6 3000) (by kernel_rfl) Tryd.func6 (by kernel_rfl) (by kernel_rfl) (hr.trans (stells_holds k bf af b l L h64.1 h64.2))
    ⟨v0, _, rfl, e0, v1, _, rfl, e1, v2, _, rfl, e2, rfl⟩ (laid_Q hL) (fun g x h => by rw [ho] at h; exact h)
end Go.Proofs.YtmdnnlfoljdfpaaDoor
