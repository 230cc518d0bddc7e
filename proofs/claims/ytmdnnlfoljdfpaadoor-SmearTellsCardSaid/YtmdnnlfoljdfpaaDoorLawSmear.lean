/- The law SmearSteps, of any data that a world can hold. -/
import Derived.Test.YtmdnnlfoljdfpaaDoorSmear
import Derived.Test.YtmdnnlfoljdfpaaDoorMirW
namespace Go.Proofs.YtmdnnlfoljdfpaaDoor
open Go Go.RowKit Mir
theorem laid_Q {w : World} (hL : LaidW w) : ∀ q ∈ Mir.laidL, w.cell? ⟨q.1, q.2.1, none⟩ = some q.2.2 := fun q hq => by
  obtain rfl := List.mem_singleton.1 hq
  exact hL
abbrev smSh : List Sh := [.int .i64, .int .i64, .int .i64]
abbrev tbSh : List Sh := [.int .i64, .int .i64, .sl [.int .i64]]
set_option maxRecDepth 100000 in
theorem law_SmearSteps_row (w : World) (hL : LaidW w) {v0 v1 v2 : Value} {y0 : TL smSh} (_ : OkL _ y0) (e0 : RepA (gW w) (.agg (encL _ y0)) v0) {y1 : TL tbSh} (_ : OkL _ y1) (e1 : RepA (gW w) (.agg (encL _ y1)) v1)
    {y2 : TL [.arr .i64 2]} (_ : OkL _ y2) (e2 : RepA (gW w) (.agg (encL [.arr .i64 2] y2)) v2) :
    Calls Tryd.prog 5 #[v0, v1, v2] w fun e w' => e = .returned (.bool true) ∧ Below w.heap.size w w' := by
  obtain ⟨k, bf, af⟩ := y0
  obtain ⟨b, l, L⟩ := y1
  have hr : (S_5 3000).run [.agg (encL smSh (k, bf, af)), .agg (encL tbSh (b, l, L)), .agg (encL [.arr .i64 2] y2)] [] = f_5 3000 k bf af b l L y2 := by kernel_rfl
  have ho : ((S_5 3000).out [.agg (encL smSh (k, bf, af)), .agg (encL tbSh (b, l, L)), .agg (encL [.arr .i64 2] y2)] [] true).1 = .a (.one (Mir.boolC true)) := by kernel_rfl
  exact calls_open (vs := [v0, v1, v2]) (s_5 3000) (by kernel_rfl) Tryd.func5 (by kernel_rfl) (by kernel_rfl) (hr.trans (steps_holds k bf af b l L y2))
    ⟨v0, _, rfl, e0, v1, _, rfl, e1, v2, _, rfl, e2, rfl⟩ (laid_Q hL) (fun g x h => by rw [ho] at h; exact h)
end Go.Proofs.YtmdnnlfoljdfpaaDoor
