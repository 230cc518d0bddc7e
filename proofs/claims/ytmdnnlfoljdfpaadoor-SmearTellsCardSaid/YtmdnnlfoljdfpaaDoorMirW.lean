/- A handed argument of any type, as an abstract value. Nothing here names the program. -/
import Derived.Test.YtmdnnlfoljdfpaaDoorMirO
namespace Go.Proofs.YtmdnnlfoljdfpaaDoor.Mir
open Go Go.RowKit
def aggB : Option TypeDesc → Bool
  | some (.struct _) => true
  | some (.array _ _) => true
  | _ => false
section
variable {H : Type} {enc : TypeId × Value → H} {P : Program} {w : World} {spare : Nat → Bool} {held : Bool}
theorem okWide_cs {r : Reach} {b0 : Nat} {t : TypeId} {v : Value} (ht : aggB (P.underlying t) = true) (h : Value.okWide P w r b0 t v) : ∃ cs, v = .agg cs := by
  unfold Value.okWide at h
  cases hu : P.underlying t with
  | none => rw [hu] at ht; cases ht
  | some u =>
    rw [hu] at h ht
    cases u <;> first | (obtain ⟨cs, e, _⟩ := h; exact ⟨cs, e⟩) | exact nomatch ht
theorem okWide_one {r : Reach} {b0 : Nat} {t : TypeId} {v : Value} (ht : aggB (P.underlying t) = false) (h : Value.okWide P w r b0 t v) : ∀ cs, v ≠ .agg cs := by
  rintro cs rfl
  unfold Value.okWide Cell.okWide Cell.ok at h
  cases hu : P.underlying t with
  | none => rw [hu] at h; exact h
  | some u =>
    rw [hu] at h ht
    cases u <;> first | exact h | exact nomatch ht
/-- A struct or an array by value. -/
theorem open_agg {r : Reach} {b0 : Nat} {t : TypeId} {l : List Sh} {v : Value} {d : DataW H} {p : List MemPlace} (hl : shOf P 9 t = some l) (ht : aggB (P.underlying t) = true) (hv : Value.okWide P w r b0 t v) (h : DataW.Trod enc P w 0 spare held t v d p) (hw : Wok P t d) :
    ∃ y : TL l, OkL l y ∧ RepA (gW w) (.agg (encL l y)) v := by
  obtain ⟨cs, rfl⟩ := okWide_cs ht hv
  obtain ⟨fuel, hf⟩ := h
  obtain ⟨y, h1, h2⟩ := open_sh 9 t l hl fuel _ _ hf hw
  exact ⟨y, h2, rep_agg h1⟩
/-- Any other value. -/
theorem open_cell {r : Reach} {b0 : Nat} {t : TypeId} {s : Sh} {v : Value} {d : DataW H} {p : List MemPlace} (hl : shOf P 9 t = some [s]) (ht : aggB (P.underlying t) = false) (hs : ∀ k n, s ≠ .arr k n) (hv : Value.okWide P w r b0 t v) (h : DataW.Trod enc P w 0 spare held t v d p) (hw : Wok P t d) :
    ∃ y : s.T, OkS s y ∧ RepA (gW w) (.one (encS s y)) v := by
  have hn := okWide_one ht hv
  obtain ⟨fuel, hf⟩ := h
  obtain ⟨y, h1, h2⟩ := open_sh 9 t [s] hl fuel _ _ hf hw
  obtain ⟨s', e, h3⟩ := rep_one h1 rfl hn (fun s' e k n h => hs k n ((List.cons.inj e).1.trans h))
  obtain rfl := (List.cons.inj e).1
  exact ⟨y, by simpa only [OkL] using h2, h3⟩
end
theorem wf_range {k : IntKind} {n : Int} (h : (Lit.int k n).wf = true) : k.min ≤ n ∧ n ≤ k.max := by simpa [Lit.wf] using h
end Go.Proofs.YtmdnnlfoljdfpaaDoor.Mir
