/- The laws ZoneTells and ZoneSpans, of any data that a world can hold. -/
import Derived.Test.YtmdnnlfoljdfpaaDoorZoneR
import Derived.Test.YtmdnnlfoljdfpaaDoorMirW
namespace Go.Proofs.YtmdnnlfoljdfpaaDoor
open Go Go.RowKit Mir
theorem laid_Q {w : World} (hL : LaidW w) : ∀ q ∈ Mir.laidL, w.cell? ⟨q.1, q.2.1, none⟩ = some q.2.2 := fun q hq => by
  obtain rfl := List.mem_singleton.1 hq
  exact hL
abbrev zoneSh : List Sh := [.str, .int .i64, .sl [.int .i64, .int .i64, .str]]
set_option maxRecDepth 100000 in
theorem law_ZoneTells_row (w : World) (hL : LaidW w) {v0 v1 : Value} {y0 : TL zoneSh} (_ : OkL _ y0) (e0 : RepA (gW w) (.agg (encL _ y0)) v0) {y1 : (Sh.int .i64).T} (_ : OkS (.int .i64) y1) (e1 : RepA (gW w) (.one (encS (.int .i64) y1)) v1) :
    Calls Tryd.prog 3 #[v0, v1] w fun e w' => e = .returned (.bool true) ∧ Below w.heap.size w w' := by
  obtain ⟨n, f, L⟩ := y0
  have hr : (S_3 3000).run [.agg (encL zoneSh (n, f, L)), .one (encS (.int .i64) y1)] [] = f_3 3000 n f L y1 := by kernel_rfl
  have ho : ((S_3 3000).out [.agg (encL zoneSh (n, f, L)), .one (encS (.int .i64) y1)] [] true).1 = .a (.one (Mir.boolC true)) := by kernel_rfl
  exact calls_open (vs := [v0, v1]) (s_3 3000) (by kernel_rfl) Tryd.func3 (by kernel_rfl) (by kernel_rfl) (hr.trans (tells_holds n f L y1))
    ⟨v0, _, rfl, e0, v1, _, rfl, e1, rfl⟩ (laid_Q hL) (fun g x h => by rw [ho] at h; exact h)
set_option maxRecDepth 100000 in
theorem law_ZoneSpans_row (w : World) (hL : LaidW w) {v0 v1 v2 : Value} {y0 : TL zoneSh} (k0 : OkL _ y0) (e0 : RepA (gW w) (.agg (encL _ y0)) v0) {y1 : (Sh.int .i64).T} (_ : OkS (.int .i64) y1) (e1 : RepA (gW w) (.one (encS (.int .i64) y1)) v1)
    {y2 : (Sh.int .u32).T} (k2 : OkS (.int .u32) y2) (e2 : RepA (gW w) (.one (encS (.int .u32) y2)) v2) :
    Calls Tryd.prog 4 #[v0, v1, v2] w fun e w' => e = .returned (.bool true) ∧ Below w.heap.size w w' := by
  obtain ⟨n, f, L⟩ := y0
  have hr : (S_4 (List.length (α := Rul) L + 3000)).run [.agg (encL zoneSh (n, f, L)), .one (encS (.int .i64) y1), .one (encS (.int .u32) y2)] [] = f_4 (List.length (α := Rul) L + 3000) n f L y1 y2 := by kernel_rfl
  have ho : ((S_4 (List.length (α := Rul) L + 3000)).out [.agg (encL zoneSh (n, f, L)), .one (encS (.int .i64) y1), .one (encS (.int .u32) y2)] [] true).1 = .a (.one (Mir.boolC true)) := by kernel_rfl
  simp only [OkL] at k0
  have hlen : List.length (α := Rul) L * 32 ≤ reachBytes := (show List.length (α := Rul) L ≤ maxLen ∧ List.length (α := Rul) L * bySL [.int .i64, .int .i64, .str] ≤ reachBytes ∧ _ by simpa only [OkS] using k0.2.2).2.1
  have hlen2 : List.length (α := Rul) L ≤ 4398046511104 := by
    have : reachBytes = 140737488351232 := by decide
    omega
  have hc := wf_range (show (Lit.int .u32 y2).wf = true by simpa only [OkS] using k2)
  have c0 : IntKind.u32.min = 0 := by decide
  have c1 : IntKind.u32.max = 4294967295 := by decide
  exact calls_open (vs := [v0, v1, v2]) (s_4 (List.length (α := Rul) L + 3000)) (by kernel_rfl) Tryd.func4 (by kernel_rfl) (by kernel_rfl) (hr.trans (spans_holds n f L y1 y2 hlen2 (by omega) (by omega)))
    ⟨v0, _, rfl, e0, v1, _, rfl, e1, v2, _, rfl, e2, rfl⟩ (laid_Q hL) (fun g x h => by rw [ho] at h; exact h)
end Go.Proofs.YtmdnnlfoljdfpaaDoor
