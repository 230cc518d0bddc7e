/- From what a world's memory reads as to data of a shape: any type of numbers, texts, structs, arrays and slices. Nothing here names the program. -/
import Derived.Test.YtmdnnlfoljdfpaaDoorMirX
import Derived.OpenShut
import Derived.ChangeArms
import Derived.ChangeSlices
namespace Go.Proofs.YtmdnnlfoljdfpaaDoor.Mir
open Go Go.RowKit

/-- Bytes that a shape takes, at the least. -/
def byS : Sh → Nat
  | .int k => k.bits / 8
  | .bool => 1
  | .str => 16
  | .err _ => 16
  | .sl _ => 24
  | .arr k n => n * (k.bits / 8)
def bySL : List Sh → Nat
  | [] => 0
  | s :: r => byS s + bySL r
def shOfF (P : Program) (f : TypeId → Option (List Sh)) : List Field → Nat → Option (List Sh)
  | [], _ => some []
  | fd :: r, o => if fd.offset = o then (f fd.type).bind fun l => if P.cellsOf fd.type = widSL l then (shOfF P f r (o + widSL l)).map (l ++ ·) else none else none
/-- A type's shape. -/
def shOf (P : Program) : Nat → TypeId → Option (List Sh)
  | 0, _ => none
  | n + 1, t => match P.underlying t with
    | some .bool => some [.bool]
    | some (.int k) => some [.int k]
    | some .string => some [.str]
    | some (.slice e) => (shOf P n e).bind fun l => if P.cellsOf e = widSL l ∧ 1 ≤ widSL l ∧ bySL l ≤ P.bytesOf e then some [.sl l] else none
    | some (.struct fs) => (shOfF P (shOf P n) fs.toList 0).bind fun l => if P.cellsOf t = widSL l then some l else none
    | some (.array m e) => (match P.underlying e with
      | some (.int k) => if P.cellsOf e = 1 ∧ P.cellsOf t = m then some [.arr k m] else none
      | _ => (shOf P n e).bind fun l => if P.cellsOf e = widSL l ∧ P.cellsOf t = m * widSL l then some (List.replicate m l).flatten else none)
    | _ => none
mutual
/-- Data that a world can hold. -/
def OkS : (s : Sh) → s.T → Prop
  | .int k, n => (Lit.int k n).wf = true
  | .bool, _ => True
  | .str, s => s.size ≤ maxLen
  | .err _, _ => True
  | .sl l, xs => List.length (α := TL l) xs ≤ maxLen ∧ List.length (α := TL l) xs * bySL l ≤ reachBytes ∧ ∀ x ∈ (xs : List (TL l)), OkL l x
  | .arr k _, xs => ∀ n ∈ (xs : List Int), (Lit.int k n).wf = true
def OkL : (l : List Sh) → TL l → Prop
  | [], _ => True
  | [s], x => OkS s x
  | s :: s' :: r, p => OkS s p.1 ∧ OkL (s' :: r) p.2
end
theorem rep_app {K : Nat → Nat → Option Value} : ∀ (l q : List Sh) (x : TL l) (y : TL q) (us vs : List Value), RepSL K l x us → RepSL K q y vs → OkL l x → OkL q y → ∃ z : TL (l ++ q), RepSL K (l ++ q) z (us ++ vs) ∧ OkL (l ++ q) z
  | [], q, x, y, us, vs, h, h', _, k' => by
    simp only [RepSL] at h; subst h; exact ⟨y, h', k'⟩
  | [s], [], x, y, us, vs, h, h', k, _ => by
    simp only [RepSL] at h'; subst h'; exact ⟨x, by simpa using h, k⟩
  | [s], s' :: r, x, y, us, vs, h, h', k, k' => by
    refine ⟨(x, y), ?_, ?_⟩
    · show RepSL K (s :: s' :: r) (x, y) (us ++ vs)
      simp only [RepSL] at h ⊢
      exact ⟨us, vs, rfl, h, h'⟩
    · show OkL (s :: s' :: r) (x, y)
      simp only [OkL] at k ⊢
      exact ⟨k, k'⟩
  | s :: s' :: r, q, p, y, us, vs, h, h', k, k' => by
    simp only [RepSL] at h
    simp only [OkL] at k
    obtain ⟨a, b, rfl, h1, h2⟩ := h
    obtain ⟨z, z1, z2⟩ := rep_app (s' :: r) q p.2 y b vs h2 h' k.2 k'
    refine ⟨(p.1, z), ?_, ?_⟩
    · show RepSL K (s :: s' :: (r ++ q)) (p.1, z) ((a ++ b) ++ vs)
      simp only [RepSL]
      exact ⟨a, b ++ vs, by rw [List.append_assoc], h1, z1⟩
    · show OkL (s :: s' :: (r ++ q)) (p.1, z)
      simp only [OkL]
      exact ⟨k.1, z2⟩
theorem widSL_app : ∀ l q : List Sh, widSL (l ++ q) = widSL l + widSL q
  | [], q => by simp [widSL]
  | s :: r, q => by simp only [List.cons_append, widSL, widSL_app r q]; omega
theorem widSL_rep (l : List Sh) : ∀ m : Nat, widSL (List.replicate m l).flatten = m * widSL l
  | 0 => by simp [widSL]
  | m + 1 => by rw [List.replicate_succ, List.flatten_cons, widSL_app, widSL_rep l m, Nat.succ_mul, Nat.add_comm]
def KW (w : World) : Nat → Nat → Option Value := fun β o => w.cell? ⟨β, o, none⟩
section
variable {H : Type} {enc : TypeId × Value → H} {P : Program} {w : World} {spare : Nat → Bool} {held : Bool}
def Wok (P : Program) (t : TypeId) (d : DataW H) : Prop := (d.weights P t).all (· ≤ reachBytes) = true
theorem wok_each : ∀ {ts : List TypeId} {ds : List (DataW H)}, (DataW.weightsEach P ts ds).all (· ≤ reachBytes) = true → ∀ (i : Nat) t d, ts[i]? = some t → ds[i]? = some d → Wok P t d
  | [], _, _, i, t, d, h, _ => by simp at h
  | _ :: _, [], _, i, t, d, _, h => by simp at h
  | t0 :: ts, d0 :: ds, h, i, t, d, h1, h2 => by
    simp only [DataW.weightsEach, List.all_append, Bool.and_eq_true] at h
    cases i with
    | zero =>
      simp at h1 h2
      subst h1 h2
      exact h.1
    | succ i => exact wok_each h.2 i t d (by simpa using h1) (by simpa using h2)
theorem wok_all {e : TypeId} : ∀ {ds : List (DataW H)}, (DataW.weightsAll P e ds).all (· ≤ reachBytes) = true → ∀ (i : Nat) d, ds[i]? = some d → Wok P e d
  | [], _, i, d, h => by simp at h
  | d0 :: ds, h, i, d, h2 => by
    simp only [DataW.weightsAll, List.all_append, Bool.and_eq_true] at h
    cases i with
    | zero =>
      simp at h2
      subst h2
      exact h.1
    | succ i => exact wok_all h.2 i d (by simpa using h2)
theorem fields_sh {f : TypeId → Option (List Sh)} (ih : ∀ t l, f t = some l → ∀ fuel cs (x : DataW H × List MemPlace), DataW.trod enc P w 0 spare held fuel t cs = some x → Wok P t x.1 → ∃ y : TL l, RepSL (KW w) l y cs ∧ OkL l y) (cs : List Value) :
    ∀ (fs : List Field) (o : Nat) (l : List Sh), shOfF P f fs o = some l → (∀ fd ∈ fs, ∃ m y, DataW.trod enc P w 0 spare held m fd.type ((cs.drop fd.offset).take (P.cellsOf fd.type)) = some y ∧ Wok P fd.type y.1) → ∃ y : TL l, RepSL (KW w) l y ((cs.drop o).take (widSL l)) ∧ OkL l y
  | [], o, l, h, _ => by
    simp only [shOfF, Option.some.injEq] at h
    subst h
    exact ⟨(), by simp [RepSL, widSL], trivial⟩
  | fd :: r, o, l, h, hr => by
    unfold shOfF at h
    by_cases ho : fd.offset = o
    · rw [if_pos ho] at h
      cases hf : f fd.type with
      | none => rw [hf] at h; simp at h
      | some l1 =>
        rw [hf] at h
        simp only [Option.bind_some] at h
        by_cases hc : P.cellsOf fd.type = widSL l1
        · rw [if_pos hc] at h
          cases h2 : shOfF P f r (o + widSL l1) with
          | none => rw [h2] at h; simp at h
          | some l2 =>
            rw [h2] at h
            simp only [Option.map_some, Option.some.injEq] at h
            subst h
            obtain ⟨m, y, hy, hwo⟩ := hr fd (List.mem_cons_self ..)
            obtain ⟨x1, a1, a2⟩ := ih _ _ hf _ _ _ hy hwo
            rw [ho, hc] at a1
            obtain ⟨x2, b1, b2⟩ := fields_sh ih cs r _ _ h2 (fun q hq => hr q (List.mem_cons_of_mem _ hq))
            obtain ⟨z, z1, z2⟩ := rep_app l1 l2 x1 x2 _ _ a1 b1 a2 b2
            refine ⟨z, ?_, z2⟩
            rw [widSL_app, List.take_add, List.drop_drop]
            exact z1
        · rw [if_neg hc] at h; cases h
    · rw [if_neg ho] at h; cases h
theorem array_sh {l : List Sh} (cs : List Value) : ∀ m : Nat, (∀ i, i < m → ∃ y : TL l, RepSL (KW w) l y ((cs.drop (i * widSL l)).take (widSL l)) ∧ OkL l y) → ∃ y : TL (List.replicate m l).flatten, RepSL (KW w) (List.replicate m l).flatten y (cs.take (m * widSL l)) ∧ OkL _ y
  | 0, _ => ⟨(), by simp [RepSL], trivial⟩
  | m + 1, h => by
    obtain ⟨x1, a1, a2⟩ := array_sh cs m (fun i hi => h i (by omega))
    obtain ⟨x2, b1, b2⟩ := h m (by omega)
    obtain ⟨z, z1, z2⟩ := rep_app _ _ x1 x2 _ _ a1 b1 a2 b2
    have e : (List.replicate (m + 1) l).flatten = (List.replicate m l).flatten ++ l := by
      rw [List.replicate_succ', List.flatten_append]; simp
    rw [e, Nat.succ_mul, List.take_add]
    exact ⟨z, z1, z2⟩
theorem cells_get {a : Addr} {n : Nat} {us : List Value} (h : w.cells? 0 a n = some us) : us.length = n ∧ ∀ (j : Nat) u, us[j]? = some u → w.cell? (a.add j) = some u := by
  obtain ⟨_, h1, h2⟩ := World.cells?_some h
  refine ⟨h1, fun j u hu => ?_⟩
  have hj : j < n := by have := (List.getElem?_eq_some_iff.1 hu).1; omega
  rw [h2 j hj, hu]
theorem open_sh : ∀ (n : Nat) (t : TypeId) (l : List Sh), shOf P n t = some l → ∀ (fuel : Nat) (cs : List Value) (x : DataW H × List MemPlace), DataW.trod enc P w 0 spare held fuel t cs = some x → Wok P t x.1 → ∃ y : TL l, RepSL (KW w) l y cs ∧ OkL l y := by
  intro n
  induction n with
  | zero => intro t l h; cases h
  | succ n ih =>
    intro t l h fuel cs x hx hwk
    unfold shOf at h
    cases ht : P.underlying t with
    | none => rw [ht] at h; cases h
    | some u =>
      rw [ht] at h
      cases u with
      | struct fs =>
        simp only at h
        cases h1 : shOfF P (shOf P n) fs.toList 0 with
        | none => rw [h1] at h; cases h
        | some l1 =>
          rw [h1] at h
          simp only [Option.bind_some] at h
          by_cases hc : P.cellsOf t = widSL l1
          · rw [if_pos hc] at h
            obtain rfl := Option.some.inj h
            obtain ⟨xs, m, _, hxe, hl, hxl, hf⟩ := DataW.trod_struct ht hx
            subst hxe
            unfold Wok at hwk
            simp only [DataW.weights, ht] at hwk
            obtain ⟨y, a1, a2⟩ := fields_sh ih cs fs.toList 0 l1 h1 (fun fd hfd => by
              obtain ⟨i, hi, e⟩ := List.mem_iff_getElem.mp hfd
              have e' : fs[i]? = some fd := by rw [← e]; simp at hi ⊢
              have k := hf i fd e'
              have hi' : i < xs.length := by simp at hi; omega
              exact ⟨m, xs[i], by rw [k, List.getElem?_eq_getElem hi'], wok_each hwk i _ _ (by rw [List.getElem?_map, Array.getElem?_toList, e']; rfl) (by rw [List.getElem?_map, List.getElem?_eq_getElem hi']; rfl)⟩)
            rw [List.drop_zero, List.take_of_length_le (by omega)] at a1
            exact ⟨y, a1, a2⟩
          · rw [if_neg hc] at h; cases h
      | bool =>
        obtain rfl := Option.some.inj h
        obtain ⟨b, rfl, _⟩ := DataW.trod_bool ht hx
        exact ⟨b, by simp only [RepSL, RepS], trivial⟩
      | int k =>
        obtain rfl := Option.some.inj h
        obtain ⟨m, rfl, _, hw⟩ := DataW.trod_int ht hx
        exact ⟨m, by simp only [RepSL, RepS], hw⟩
      | string =>
        obtain rfl := Option.some.inj h
        obtain ⟨m, rfl, _, hw⟩ := DataW.trod_string ht hx
        exact ⟨m, by simp only [RepSL, RepS], hw⟩
      | slice e =>
        simp only at h
        cases h1 : shOf P n e with
        | none => rw [h1] at h; cases h
        | some l1 =>
          rw [h1] at h
          simp only [Option.bind_some] at h
          by_cases hc : P.cellsOf e = widSL l1 ∧ 1 ≤ widSL l1 ∧ bySL l1 ≤ P.bytesOf e
          · rw [if_pos hc] at h
            obtain rfl := Option.some.inj h
            rcases DataW.trod_slice ht hx with ⟨rfl, _⟩ | ⟨a, len, cap, elems, rest, m, _, rfl, hxe, _, hl, hm, hlen, hel, _, _⟩
            · exact ⟨[], ⟨_, rfl, .inl ⟨rfl, none, 0, rfl⟩⟩, by unfold maxLen; simp, by simp, fun x hx => by cases hx⟩
            subst hxe
            unfold Wok at hwk
            simp only [DataW.weights, ht, List.all_cons, List.all_append, Bool.and_eq_true, decide_eq_true_eq, List.length_map] at hwk
            obtain ⟨hwk1, hwk2, _⟩ := hwk
            · have key : ∀ i, i < len → ∃ (y : TL l1) (us : List Value), us.length = widSL l1 ∧ RepSL (KW w) l1 y us ∧ OkL l1 y ∧ ∀ (j : Nat) u, us[j]? = some u → w.cell? ((a.add (i * widSL l1)).add j) = some u := fun i hi => by
                have k := hel i hi
                rw [List.getElem?_eq_getElem (by omega), hc.1] at k
                obtain ⟨us, k1, k2⟩ := Option.bind_eq_some_iff.1 k
                obtain ⟨y, y1, y2⟩ := ih e l1 h1 _ _ _ k2 (wok_all hwk2 i _ (by rw [List.getElem?_map, List.getElem?_eq_getElem (by omega)]; rfl))
                obtain ⟨c1, c2⟩ := cells_get k1
                exact ⟨y, us, c1, y1, y2, c2⟩
              let f : Nat → TL l1 := fun i => if hi : i < len then Classical.choose (key i hi) else dfltL l1
              have hf : ∀ i (hi : i < len), f i = Classical.choose (key i hi) := fun i hi => dif_pos hi
              refine ⟨(List.range len).map f, ?_, ?_⟩
              · refine ⟨_, rfl, ?_⟩
                by_cases h0 : len = 0
                · subst h0
                  exact .inl ⟨rfl, some a, cap, rfl⟩
                · obtain ⟨us0, c0, _, _, c3⟩ := Classical.choose_spec (key 0 (by omega))
                  have hspot : a.spot = none := by
                    have := c3 0 _ (List.getElem?_eq_getElem (by omega))
                    rw [Nat.zero_mul] at this
                    have e0 : (a.add 0).add 0 = a := rfl
                    rw [e0] at this
                    cases hs : a.spot with
                    | none => rfl
                    | some q =>
                      exfalso
                      unfold World.cell? at this
                      rw [hs] at this
                      split at this <;> simp at this
                  refine .inr ⟨a.block, a.off, cap, ?_, ?_, fun i y hy => ?_⟩
                  · have : a = ⟨a.block, a.off, none⟩ := by cases a; simp at hspot; simp [hspot]
                    rw [List.length_map, List.length_range, ← this]
                  · rw [List.length_map, List.length_range]; exact hl
                  · rw [List.getElem?_map] at hy
                    obtain ⟨i', hi', rfl⟩ := Option.map_eq_some_iff.1 hy
                    obtain ⟨hil, rfl⟩ := List.getElem?_eq_some_iff.1 hi'
                    rw [List.length_range] at hil
                    rw [List.getElem_range, hf i hil]
                    obtain ⟨us, d0, d1, _, d3⟩ := Classical.choose_spec (key i hil)
                    refine ⟨us, d0, d1, fun j u hu => ?_⟩
                    have := d3 j u hu
                    show w.cell? ⟨a.block, a.off + (i * widSL l1 + j), none⟩ = some u
                    have e : (a.add (i * widSL l1)).add j = ⟨a.block, a.off + (i * widSL l1 + j), none⟩ := by
                      cases a
                      simp only at hspot
                      subst hspot
                      rw [add_off, add_off, Nat.add_assoc]
                    rw [← e]; exact this
              · refine ⟨by rw [List.length_map, List.length_range]; omega, ?_, fun x hx => ?_⟩
                · rw [List.length_map, List.length_range]
                  exact Nat.le_trans (Nat.mul_le_mul (by omega) hc.2.2) hwk1
                obtain ⟨i, hi, rfl⟩ := List.mem_map.1 hx
                have hi := List.mem_range.1 hi
                rw [hf i hi]
                obtain ⟨_, _, _, h3, _⟩ := Classical.choose_spec (key i hi)
                exact h3
          · rw [if_neg hc] at h; cases h
      | array m e =>
        obtain ⟨xs, q, _, hxe, hl, hxl, hf⟩ := DataW.trod_array ht hx
        subst hxe
        unfold Wok at hwk
        simp only [DataW.weights, ht] at hwk
        have gen : ((shOf P n e).bind fun l => if P.cellsOf e = widSL l ∧ P.cellsOf t = m * widSL l then some (List.replicate m l).flatten else none) = some l → ∃ y : TL l, RepSL (KW w) l y cs ∧ OkL l y := fun h => by
          cases h1 : shOf P n e with
          | none => rw [h1] at h; cases h
          | some l1 =>
            rw [h1] at h
            simp only [Option.bind_some] at h
            by_cases hc : P.cellsOf e = widSL l1 ∧ P.cellsOf t = m * widSL l1
            · rw [if_pos hc] at h
              obtain rfl := Option.some.inj h
              obtain ⟨y, a1, a2⟩ := array_sh (w := w) (l := l1) cs m (fun i hi => by
                have k := hf i hi
                rw [hc.1] at k
                exact ih e l1 h1 _ _ xs[i] (by rw [k, List.getElem?_eq_getElem (by omega)]) (wok_all hwk i _ (by rw [List.getElem?_map, List.getElem?_eq_getElem (by omega)]; rfl)))
              rw [List.take_of_length_le (by omega)] at a1
              exact ⟨y, a1, a2⟩
            · rw [if_neg hc] at h; cases h
        simp only at h
        split at h
        · rename_i k he
          by_cases hc : P.cellsOf e = 1 ∧ P.cellsOf t = m
          · rw [if_pos hc] at h
            obtain rfl := Option.some.inj h
            have key : ∀ i, i < m → ∃ z, cs[i]? = some (.int k z) ∧ (Lit.int k z).wf = true := fun i hi => by
              have hk := hf i hi
              rw [hc.1, Nat.mul_one, List.getElem?_eq_getElem (by omega)] at hk
              obtain ⟨z, z1, _, z3⟩ := DataW.trod_int he hk
              refine ⟨z, ?_, z3⟩
              have : ((cs.drop i).take 1)[0]? = some (.int k z) := by rw [z1]; rfl
              rw [List.getElem?_take, if_pos (by omega), List.getElem?_drop] at this
              exact this
            let g : Nat → Int := fun i => if hi : i < m then Classical.choose (key i hi) else 0
            have hg : ∀ i (hi : i < m), g i = Classical.choose (key i hi) := fun i hi => dif_pos hi
            refine ⟨(List.range m).map g, ⟨by rw [List.length_map, List.length_range], ?_⟩, fun z hz => ?_⟩
            · apply List.ext_getElem?
              intro i
              rw [List.map_map, List.getElem?_map]
              by_cases hi : i < m
              · rw [List.getElem?_range hi]
                simp only [Option.map_some, Function.comp_apply]
                rw [hg i hi]
                exact (Classical.choose_spec (key i hi)).1
              · rw [List.getElem?_eq_none (by omega), List.getElem?_eq_none (by rw [List.length_range]; omega)]
                rfl
            · obtain ⟨i, hi, rfl⟩ := List.mem_map.1 hz
              have hi := List.mem_range.1 hi
              rw [hg i hi]
              exact (Classical.choose_spec (key i hi)).2
          · rw [if_neg hc] at h; cases h
        · exact gen h
      | _ => cases h
/-- The caller's view: all that lies in memory is known. -/
def gW (w : World) : Gh := { K := KW w, j := fun _ => none, th := fun _ _ => none }
/-- A value of a shape, as an abstract value. -/
theorem rep_one {l : List Sh} {y : TL l} {v : Value} (h : RepSL (KW w) l y v.cells.toList) (hl : l.length = 1) (hv : ∀ cs, v ≠ .agg cs) (ha : ∀ s, l = [s] → ∀ k n, s ≠ .arr k n) : ∃ s, ∃ e : l = [s], RepA (gW w) (.one (encS s (e ▸ y : TL [s]))) v := by
  match l, hl with
  | [s], _ =>
    refine ⟨s, rfl, ?_⟩
    have hr := encS_rep (g := gW w) (s := s) (x := y) (vs := v.cells.toList) (by have h2 := h; simp only [RepSL] at h2; exact h2)
    have hc : isArr (encS s y) = false := by
      cases s <;> first | rfl | exact absurd rfl (ha _ rfl _ _)
    obtain ⟨x, e1, e2⟩ := repl_one hc hr
    have hx : v.cells = #[v] := by
      cases v <;> first | rfl | exact absurd rfl (hv _)
    rw [hx] at e1
    obtain rfl := (List.cons.inj e1).1
    exact e2
theorem rep_agg {l : List Sh} {y : TL l} {cs : Array Value} (h : RepSL (KW w) l y (Value.agg cs).cells.toList) : RepA (gW w) (.agg (encL l y)) (.agg cs) :=
  ⟨cs.toList, by simp, encL_rep (g := gW w) h⟩
/-- A function that is handed no pointer: its summary, as a contract. -/
theorem calls_open {f : FuncId} {fn : Func} {S : Sum} {xs : List A} {vs : List Value} {r : S.ρ} {v : Value} {laid : List (Nat × Nat × Value)} (hS : SumOk P laid f S) (htin : specsL S.tin = []) (hf : P.funcs[f]? = some fn) (hname : (fn.name == "runtime.NumGoroutine") = false) (hb : fn.body.isNone = false)
    (hr : S.run xs [] = some r) (hA : RepAs (gW w) xs vs) (hl : ∀ q ∈ laid, w.cell? ⟨q.1, q.2.1, none⟩ = some q.2.2) (hv : ∀ g x, RepV g (S.out xs [] r).1 x → x = v) :
    Calls P f vs.toArray w fun e w' => e = .returned v ∧ Below w.heap.size w w' := by
  have hI := hS xs [] r hr (gW w) w vs (fun q hq => hl q hq) (fun _ _ _ e => e) hA ⟨fun i cs e => (by simp at e), fun i k β e => (by cases e), fun n β e => (by cases e)⟩
    (noTks (fun _ _ => rfl) (fun p => by unfold tinQ; rw [htin]; rfl))
  have hcf : (callFunc f vs.toArray).run P w = .ok (.enter f vs.toArray) w := by
    unfold callFunc
    rw [Sem.run_bind, run_program]
    simp only [Result.andThen_ok, hf, hname, hb, Bool.false_eq_true, if_false]
    rfl
  unfold Invokes at hI
  rw [hcf] at hI
  refine Calls.mono hI ?_
  rintro e w' ⟨x, rfl, g', E⟩
  rw [hv g' x E.rep]
  refine ⟨rfl, E.only.os, E.only.tape, E.only.output, E.only.size, fun k hk => E.only.block k hk ?_⟩
  rintro (⟨i, hi, _⟩ | ⟨n, e, cap, h⟩)
  · simp at hi
  · cases h
end
end Go.Proofs.YtmdnnlfoljdfpaaDoor.Mir
