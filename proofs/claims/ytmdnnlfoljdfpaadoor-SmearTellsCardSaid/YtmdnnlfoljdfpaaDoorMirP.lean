/- The mirror's data: cells read as data of a shape, and laid out again. Nothing here names the program. -/
import Derived.Test.YtmdnnlfoljdfpaaDoorMirA
namespace Go.Proofs.YtmdnnlfoljdfpaaDoor.Mir
open Go

def castL {l l' : List Sh} (h : shEqL l l' = true) (xs : List (TL l)) : List (TL l') := (shEqL_eq h) ▸ xs
def decS : (s : Sh) → C → Option s.T
  | .int k, c => match c with
    | .lit (.int k' n) => bif decide (k' = k) then some n else none
    | _ => none
  | .bool, c => match c with
    | .lit (.bool b) => some b
    | _ => none
  | .str, c => match c with
    | .lit (.string s) => some s
    | _ => none
  | .err t, c => match c with
    | .err t' e => bif Nat.beq t' t then some e else none
    | .lit .nilIface => some none
    | _ => none
  | .sl l, c => match c with
    | .sl _ l' xs => if h : shEqL l' l = true then some (castL h xs) else none
    | .lit (.slice none 0 0) => some []
    | _ => none
  | .arr k n, c => match c with
    | .arr k' n' xs => bif decide (k' = k) && Nat.beq n' n then some xs else none
    | _ => none
def encS : (s : Sh) → s.T → C
  | .int k, n => Mir.int k n
  | .bool, b => boolC b
  | .str, s => .lit (.string s)
  | .err t, e => .err t e
  | .sl l, xs => .sl none l xs
  | .arr k n, xs => .arr k n xs
def decL : (l : List Sh) → List C → Option (TL l)
  | [], cs => match cs with
    | [] => some ()
    | _ => none
  | [s], cs => match cs with
    | [c] => decS s c
    | _ => none
  | s :: s' :: r, cs => match cs with
    | c :: cs' => (match decS s c with
      | some x => (match decL (s' :: r) cs' with
        | some y => some (x, y)
        | none => none)
      | none => none)
    | [] => none
def encL : (l : List Sh) → TL l → List C
  | [], _ => []
  | [s], x => [encS s x]
  | s :: s' :: r, p => encS s p.1 :: encL (s' :: r) p.2
section
variable {g : Gh}
theorem repl_one {c : C} {vs : List Value} (hc : isArr c = false) (h : RepL g [c] vs) : ∃ x, vs = [x] ∧ RepC g c x := by
  cases c <;> first
    | (obtain ⟨x, r, rfl, h2, rfl⟩ := h; exact ⟨x, rfl, h2⟩)
    | cases hc
theorem one_repl {c : C} {x : Value} (h : RepC g c x) : RepL g [c] [x] := by
  cases c <;> first
    | exact ⟨x, [], rfl, h, rfl⟩
    | exact h.elim
theorem castL_rep {K : Nat → Nat → Option Value} {l l' : List Sh} (h : shEqL l l' = true) {xs : List (TL l)} {v : Value} (hr : RowS K (widSL l) (RepSL K l) xs v) : RowS K (widSL l') (RepSL K l') (castL h xs) v := by
  have e := shEqL_eq h
  subst e
  exact hr
theorem castL_len {l l' : List Sh} (h : shEqL l l' = true) (xs : List (TL l)) : (castL h xs).length = xs.length := by
  have e := shEqL_eq h
  subst e
  rfl
theorem decS_wid {s : Sh} {c : C} {x : s.T} (h : decS s c = some x) : wid c = widS s ∧ isArr c = isArr (encS s x) := by
  cases s <;> simp only [decS] at h
  · split at h
    · exact ⟨rfl, rfl⟩
    · cases h
  · split at h
    · exact ⟨rfl, rfl⟩
    · cases h
  · split at h
    · exact ⟨rfl, rfl⟩
    · cases h
  · split at h
    · exact ⟨rfl, rfl⟩
    · exact ⟨rfl, rfl⟩
    · cases h
  · split at h
    · exact ⟨rfl, rfl⟩
    · exact ⟨rfl, rfl⟩
    · cases h
  · rename_i k n
    split at h
    · rename_i k' n' xs
      cases hb : (decide (k' = k) && Nat.beq n' n) with
      | false => rw [hb] at h; cases h
      | true =>
        simp only [Bool.and_eq_true] at hb
        obtain rfl := Nat.eq_of_beq_eq_true hb.2
        exact ⟨rfl, rfl⟩
    · cases h
theorem decS_rep {s : Sh} {c : C} {x : s.T} (h : decS s c = some x) {vs : List Value} (hv : RepL g [c] vs) : RepS g.K s x vs := by
  cases s <;> simp only [decS] at h
  · rename_i k
    split at h
    · rename_i k' n
      by_cases e : k' = k
      · subst e
        simp only [decide_true, cond_true, Option.some.injEq] at h
        subst h
        obtain ⟨v, rfl, rfl⟩ := repl_one rfl hv
        simp only [RepS]
      · simp only [e, decide_false, cond_false] at h; cases h
    · cases h
  · split at h
    · obtain rfl := Option.some.inj h
      obtain ⟨v, rfl, rfl⟩ := repl_one rfl hv
      simp only [RepS]
    · cases h
  · split at h
    · obtain rfl := Option.some.inj h
      obtain ⟨v, rfl, rfl⟩ := repl_one rfl hv
      simp only [RepS]
    · cases h
  · rename_i t
    split at h
    · rename_i t' e
      cases hb : Nat.beq t' t with
      | false => rw [hb] at h; cases h
      | true =>
        rw [hb] at h
        obtain rfl := Nat.eq_of_beq_eq_true hb
        obtain rfl := Option.some.inj h
        obtain ⟨v, rfl, rfl⟩ := repl_one rfl hv
        simp only [RepS]
    · obtain rfl := Option.some.inj h
      obtain ⟨v, rfl, rfl⟩ := repl_one rfl hv
      simp only [RepS, errV]
    · cases h
  · rename_i l
    split at h
    · rename_i tk l' xs
      split at h
      · rename_i he
        obtain rfl := Option.some.inj h
        obtain ⟨v, rfl, h1, _⟩ := repl_one rfl hv
        simp only [RepS]
        exact ⟨v, rfl, castL_rep he h1⟩
      · cases h
    · obtain rfl := Option.some.inj h
      obtain ⟨v, rfl, h1⟩ := repl_one rfl hv
      simp only [RepS]
      exact ⟨v, rfl, .inl ⟨rfl, none, 0, h1⟩⟩
    · cases h
  · rename_i k n
    split at h
    · rename_i k' n' xs
      cases hb : (decide (k' = k) && Nat.beq n' n) with
      | false => rw [hb] at h; cases h
      | true =>
        rw [hb] at h
        simp only [Bool.and_eq_true] at hb
        obtain rfl := of_decide_eq_true hb.1
        obtain rfl := Nat.eq_of_beq_eq_true hb.2
        obtain rfl := Option.some.inj h
        obtain ⟨r, h1, h2, h3⟩ := hv
        simp only [RepL] at h3
        subst h3
        simp only [RepS]
        exact ⟨h1, by simpa using h2⟩
    · cases h
theorem encS_rep {s : Sh} {x : s.T} {vs : List Value} (h : RepS g.K s x vs) : RepL g [encS s x] vs := by
  cases s <;> simp only [RepS] at h
  · subst h; exact one_repl rfl
  · subst h; exact one_repl rfl
  · subst h; exact one_repl rfl
  · subst h; exact one_repl rfl
  · obtain ⟨v, rfl, h1⟩ := h
    exact one_repl ⟨h1, fun _ _ e => by cases e⟩
  · exact ⟨[], h.1, by simp [h.2], rfl⟩
theorem decL_rep : ∀ {l : List Sh} {cs : List C} {x : TL l}, decL l cs = some x → ∀ {vs : List Value}, RepL g cs vs → RepSL g.K l x vs
  | [], cs, x, h, vs, hv => by
    simp only [decL] at h
    split at h
    · simpa only [RepSL, RepL] using hv
    · cases h
  | [s], cs, x, h, vs, hv => by
    simp only [decL] at h
    split at h
    · simp only [RepSL]; exact decS_rep h hv
    · cases h
  | s :: s' :: r, cs, x, h, vs, hv => by
    simp only [decL] at h
    split at h
    · rename_i c cs'
      split at h
      · rename_i y e1
        split at h
        · rename_i z e2
          obtain rfl := Option.some.inj h
          obtain ⟨ys, q, rfl, _, h2, h3⟩ := hv.cons
          simp only [RepSL]
          exact ⟨ys, q, rfl, decS_rep e1 h2, decL_rep e2 h3⟩
        · cases h
      · cases h
    · cases h
theorem encL_rep : ∀ {l : List Sh} {x : TL l} {vs : List Value}, RepSL g.K l x vs → RepL g (encL l x) vs
  | [], x, vs, h => by simpa only [RepSL, encL, RepL] using h
  | [s], x, vs, h => by
    simp only [RepSL] at h
    exact encS_rep h
  | s :: s' :: r, p, vs, h => by
    simp only [RepSL] at h
    obtain ⟨a, b, rfl, h1, h2⟩ := h
    exact RepL.mk (encS_rep h1) (encL_rep h2)
theorem encS_wid (s : Sh) (x : s.T) : wid (encS s x) = widS s := by cases s <;> rfl
theorem encL_wid : ∀ (l : List Sh) (x : TL l), widL (encL l x) = widSL l
  | [], x => rfl
  | [s], x => by simp [encL, widL, widSL, encS_wid]
  | s :: s' :: r, p => by simp only [encL, widL, widSL]; rw [encS_wid, encL_wid (s' :: r)]; rfl
theorem decL_wid : ∀ {l : List Sh} {cs : List C} {x : TL l}, decL l cs = some x → widL cs = widSL l
  | [], cs, x, h => by
    simp only [decL] at h
    split at h
    · rfl
    · cases h
  | [s], cs, x, h => by
    simp only [decL] at h
    split at h
    · simp [widL, widSL, (decS_wid h).1]
    · cases h
  | s :: s' :: r, cs, x, h => by
    simp only [decL] at h
    split at h
    · split at h
      · rename_i y e1
        split at h
        · rename_i z e2
          simp only [widL, (decS_wid e1).1, decL_wid e2]; rfl
        · cases h
      · cases h
    · cases h
theorem RepSL.len {l : List Sh} {x : TL l} {vs : List Value} {K : Nat → Nat → Option Value} (h : RepSL K l x vs) : vs.length = widSL l := by
  have := (encL_rep (g := ⟨K, fun _ => none, fun _ _ => none⟩) h).length
  rw [this, encL_wid]
end
end Go.Proofs.YtmdnnlfoljdfpaaDoor.Mir
