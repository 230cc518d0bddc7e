/- The laws ZoneTells and ZoneSpans, of any data that a world can hold. -/
import Derived.Test.YtmdnnlfoljdfpaaDoorZoneR
import Derived.Test.YtmdnnlfoljdfpaaDoorMirW
namespace Go.Proofs.YtmdnnlfoljdfpaaDoor
open Go Go.RowKit Mir
theorem laid_Q {w : World} (hL : LaidW w) : ∀ q ∈ Mir.laidL, w.cell? ⟨q.1, q.2.1, none⟩ = some q.2.2 := fun q hq => by
  obtain rfl := List.mem_singleton.1 hq
  exact hL
abbrev zoneSh : List Sh := [.str, .int .i64, .sl [.int .i64, .int .i64, .str]]
set_option maxRecDepth 100000 in
theorem law_ZoneTells_row (w : World) (hL : LaidW w) {v0 v1 : Value} {y0 : TL zoneSh} (_ : OkL _ y0) (e0 : RepA (gW w) (.agg (encL _ y0)) v0) {y1 : (Sh.int .i64).T} (_ : OkS (.int .i64) y1) (e1 : RepA (gW w) (.one (encS (.int .i64) y1)) v1) :
    Calls Tryd.prog 3 #[v0, v1] w fun e w' => e = .returned (.bool true) ∧ Below w.heap.size w w' := by
  obtain ⟨n, f, L⟩ := y0
  have hr : (S_3 3000).run [.agg (encL zoneSh (n, f, L)), .one (encS (.int .i64) y1)] [] = f_3 3000 n f L y1 := by kernel_rfl
  have ho : ((S_3 3000).out [.agg (encL zoneSh (n, f, L)), .one (encS (.int .i64) y1)] [] true).1 = .a (.one (Mir.boolC true)) := by kernel_rfl
  exact calls_open (vs := [v0, v1]) (s_3 3000) (by kernel_rfl) Tryd.func3 (by kernel_rfl) (by kernel_rfl) (hr.trans (tells_holds n f L y1))
    ⟨v0, _, rfl, e0, v1, _, rfl, e1, rfl⟩ (laid_Q hL) (fun g x h => by rw [ho] at h; exact h)
end Go.Proofs.YtmdnnlfoljdfpaaDoor
