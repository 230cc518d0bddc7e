/- The mirror's shapes: abstract values as plain data and back. Nothing here names the program. -/
import Derived.Test.YtmdnnlfoljdfpaaDoorMirI
namespace Go.Proofs.YtmdnnlfoljdfpaaDoor.Mir
open Go Go.RowKit

/-- A leaf: data; a slice that comes with its ticket (its elements' type and size); a pointer to a named block; a function that is known. -/
inductive Lf where
  | d (s : Sh)
  | slt (l : List Sh) (E sz : Nat)
  | ptr (n off : Nat)
  | fnv (f : FuncId)
@[reducible] def Lf.T : Lf → Type
  | .d s => s.T
  | .slt l _ _ => List (TL l)
  | .ptr _ _ => Unit
  | .fnv _ => Unit
def decF (p : Nat) : (s : Lf) → C → Option s.T
  | .d s, c => decS s c
  | .slt l _ _, c => match c with
    | .sl (some (n, v)) l' xs => if h : shEqL l' l = true then (bif Nat.beq n (2 * p + 1) && Nat.beq v 0 then some (castL h xs) else none) else none
    | _ => none
  | .ptr n off, c => match c with
    | .ptr n' off' => bif Nat.beq n' n && Nat.beq off' off then some () else none
    | _ => none
  | .fnv f, c => match c with
    | .lit (.func (.func f') a b) => bif Nat.beq a.size 0 && Nat.beq b.size 0 && Nat.beq f' f then some () else none
    | _ => none
def encF (p : Nat) : (s : Lf) → s.T → C
  | .d s, x => encS s x
  | .slt l _ _, xs => .sl (some (2 * p + 1, 0)) l xs
  | .ptr n off, _ => .ptr n off
  | .fnv f, _ => .lit (.func (.func f) #[] #[])
inductive ShA where
  | one (s : Lf)
  | agg (l : List Lf)
@[reducible] def TF : List Lf → Type
  | [] => Unit
  | s :: r => match r with
    | [] => s.T
    | _ :: _ => s.T × TF r
@[reducible] def ShA.T : ShA → Type
  | .one s => s.T
  | .agg l => TF l
@[reducible] def TAs : List ShA → Type
  | [] => Unit
  | s :: r => match r with
    | [] => s.T
    | _ :: _ => s.T × TAs r
/-- Tickets of a leaf. -/
def cntF : Lf → Nat
  | .slt .. => 1
  | _ => 0
def cntFL : List Lf → Nat
  | [] => 0
  | s :: r => cntF s + cntFL r
def cntA : ShA → Nat
  | .one s => cntF s
  | .agg l => cntFL l
def decFL : (p : Nat) → (l : List Lf) → List C → Option (TF l)
  | _, [], cs => match cs with
    | [] => some ()
    | _ => none
  | p, [s], cs => match cs with
    | [c] => decF p s c
    | _ => none
  | p, s :: s' :: r, cs => match cs with
    | c :: cs' => (match decF p s c with
      | some x => (match decFL (p + cntF s) (s' :: r) cs' with
        | some y => some (x, y)
        | none => none)
      | none => none)
    | [] => none
def encFL : (p : Nat) → (l : List Lf) → TF l → List C
  | _, [], _ => []
  | p, [s], x => [encF p s x]
  | p, s :: s' :: r, q => encF p s q.1 :: encFL (p + cntF s) (s' :: r) q.2
def decA (p : Nat) : (s : ShA) → A → Option s.T
  | .one s, a => match a with
    | .one c => bif isArr c then none else decF p s c
    | .agg _ => none
  | .agg l, a => match a with
    | .agg cs => decFL p l cs
    | .one _ => none
def encA (p : Nat) : (s : ShA) → s.T → A
  | .one s, x => .one (encF p s x)
  | .agg l, x => .agg (encFL p l x)
def decAs : (p : Nat) → (l : List ShA) → List A → Option (TAs l)
  | _, [], cs => match cs with
    | [] => some ()
    | _ => none
  | p, [s], cs => match cs with
    | [c] => decA p s c
    | _ => none
  | p, s :: s' :: r, cs => match cs with
    | c :: cs' => (match decA p s c with
      | some x => (match decAs (p + cntA s) (s' :: r) cs' with
        | some y => some (x, y)
        | none => none)
      | none => none)
    | [] => none
def encAs : (p : Nat) → (l : List ShA) → TAs l → List A
  | _, [], _ => []
  | p, [s], x => [encA p s x]
  | p, s :: s' :: r, q => encA p s q.1 :: encAs (p + cntA s) (s' :: r) q.2
def tsF : Lf → Option (Nat × Nat × List Sh)
  | .slt l E sz => some (E, sz, l)
  | _ => none
def tsOf : ShA → Tks
  | .one s => [tsF s]
  | .agg l => l.map tsF
/-- The tickets' cells, at a begin. -/
def tkCells : Nat → List (Nat × Nat × List Sh) → List (Nat × List C)
  | _, [] => []
  | p, t :: r => (2 * p + 1, [.tkt true 0 t.1 t.2.1]) :: tkCells (p + 1) r

section
theorem decF_rep {p : Nat} {s : Lf} {c : C} {q : s.T} (h : decF p s c = some q) : isArr c = isArr (encF p s q) ∧ ∀ (g : Gh) (xs : List Value), RepL g [c] xs → RepL g [encF p s q] xs := by
  cases s with
  | d s => exact ⟨(decS_wid h).2, fun g xs hx => encS_rep (decS_rep h hx)⟩
  | slt l E sz =>
    simp only [decF] at h
    split at h
    · rename_i n v l' xs
      split at h
      · rename_i he
        cases hb : (Nat.beq n (2 * p + 1) && Nat.beq v 0) with
        | false => rw [hb] at h; cases h
        | true =>
          rw [hb] at h
          obtain rfl := Option.some.inj h
          simp only [Bool.and_eq_true] at hb
          obtain rfl := Nat.eq_of_beq_eq_true hb.1
          obtain rfl := Nat.eq_of_beq_eq_true hb.2
          refine ⟨rfl, fun g ys hy => ?_⟩
          obtain ⟨y, rfl, hz⟩ := repl_one rfl hy
          exact one_repl ⟨castL_rep he hz.1, by rw [castL_len]; exact hz.2⟩
      · cases h
    · cases h
  | ptr n off =>
    simp only [decF] at h
    split at h
    · rename_i n' off'
      cases hb : (Nat.beq n' n && Nat.beq off' off) with
      | false => rw [hb] at h; cases h
      | true =>
        simp only [Bool.and_eq_true] at hb
        obtain rfl := Nat.eq_of_beq_eq_true hb.1
        obtain rfl := Nat.eq_of_beq_eq_true hb.2
        exact ⟨rfl, fun g xs hx => hx⟩
    · cases h
  | fnv f =>
    simp only [decF] at h
    split at h
    · rename_i f' u v
      cases hb : (Nat.beq u.size 0 && Nat.beq v.size 0 && Nat.beq f' f) with
      | false => rw [hb] at h; cases h
      | true =>
        simp only [Bool.and_eq_true] at hb
        obtain rfl := Nat.eq_of_beq_eq_true hb.2
        obtain rfl := Array.eq_empty_of_size_eq_zero (Nat.eq_of_beq_eq_true hb.1.1)
        obtain rfl := Array.eq_empty_of_size_eq_zero (Nat.eq_of_beq_eq_true hb.1.2)
        exact ⟨rfl, fun g xs hx => hx⟩
    · cases h
theorem decFL_rep : ∀ {l : List Lf} {cs : List C} {p : Nat} {q : TF l}, decFL p l cs = some q → ∀ (g : Gh) (xs : List Value), RepL g cs xs → RepL g (encFL p l q) xs
  | [], cs, p, q, h, g, xs, hx => by
    simp only [decFL] at h
    split at h
    · exact hx
    · cases h
  | [s], cs, p, q, h, g, xs, hx => by
    simp only [decFL] at h
    split at h
    · exact (decF_rep h).2 g xs hx
    · cases h
  | s :: s' :: r, cs, p, q, h, g, xs, hx => by
    simp only [decFL] at h
    split at h
    · rename_i c cs'
      split at h
      · rename_i x e1
        split at h
        · rename_i y e2
          obtain rfl := Option.some.inj h
          obtain ⟨ys, z, rfl, _, h2, h3⟩ := hx.cons
          exact RepL.mk ((decF_rep e1).2 g _ h2) (decFL_rep e2 g _ h3)
        · cases h
      · cases h
    · cases h
theorem decA_rep {p : Nat} {s : ShA} {a : A} {q : s.T} (h : decA p s a = some q) : (∀ (g : Gh) (x : Value), RepA g a x → RepA g (encA p s q) x) ∧ ∀ cs, a = .agg cs → ∃ cs', encA p s q = .agg cs' := by
  cases s with
  | one s =>
    cases a with
    | one c =>
      simp only [decA] at h
      cases ha : isArr c with
      | true => rw [ha] at h; cases h
      | false =>
        rw [ha] at h
        obtain ⟨h1, h2⟩ := decF_rep h
        refine ⟨fun g x hx => ?_, fun cs e => by cases e⟩
        obtain ⟨y, e, hy⟩ := repl_one (h1 ▸ ha) (h2 g [x] (one_repl hx))
        obtain rfl := (List.cons.inj e).1
        exact hy
    | agg cs => cases h
  | agg l =>
    cases a with
    | one c => cases h
    | agg cs =>
      refine ⟨fun g x hx => ?_, fun _ _ => ⟨_, rfl⟩⟩
      obtain ⟨vs, rfl, h2⟩ := hx
      exact ⟨vs, rfl, decFL_rep (by simpa only [decA] using h) g _ h2⟩
/-- What was decoded, one by one. -/
theorem decAs_get : ∀ {l : List ShA} {as : List A} {p : Nat} {q : TAs l}, decAs p l as = some q → (encAs p l q).length = as.length ∧ ∀ (i : Nat) (a : A), as[i]? = some a → ∃ a', (encAs p l q)[i]? = some a' ∧ (∀ (g : Gh) (x : Value), RepA g a x → RepA g a' x) ∧ ∀ cs, a = .agg cs → ∃ cs', a' = .agg cs'
  | [], as, p, q, h => by
    simp only [decAs] at h
    split at h
    · exact ⟨rfl, fun i a e => by simp at e⟩
    · cases h
  | [s], as, p, q, h => by
    simp only [decAs] at h
    split at h
    · rename_i c
      refine ⟨rfl, fun i a e => ?_⟩
      cases i with
      | zero =>
        simp at e; subst e
        exact ⟨_, rfl, decA_rep h⟩
      | succ i => simp at e
    · cases h
  | s :: s' :: r, as, p, q, h => by
    simp only [decAs] at h
    split at h
    · rename_i c cs'
      split at h
      · rename_i x e1
        split at h
        · rename_i y e2
          obtain rfl := Option.some.inj h
          obtain ⟨h1, h2⟩ := decAs_get e2
          refine ⟨by simp only [encAs, List.length_cons]; rw [h1], fun i a e => ?_⟩
          cases i with
          | zero =>
            simp at e; subst e
            exact ⟨_, rfl, decA_rep e1⟩
          | succ i => simp at e; simpa [encAs] using h2 i a e
        · cases h
      · cases h
    · cases h
theorem tkCells_odd : ∀ (p : Nat) (l : List (Nat × Nat × List Sh)), ∀ x ∈ tkCells p l, x.1 % 2 = 1
  | _, [], x, h => by cases h
  | p, s :: r, x, h => by
    simp only [tkCells] at h
    rcases List.mem_cons.1 h with rfl | h
    · simp only; omega
    · exact tkCells_odd _ r x h
theorem tkCells_get : ∀ (p : Nat) (l : List (Nat × Nat × List Sh)) (n : Nat), (∃ (q E sz : Nat) (t : List Sh), n = 2 * (p + q) + 1 ∧ l[q]? = some (E, sz, t) ∧ memL (tkCells p l) n = some [.tkt true 0 E sz]) ∨
    (memL (tkCells p l) n = none ∧ ∀ (q E sz : Nat) (t : List Sh), l[q]? = some (E, sz, t) → n ≠ 2 * (p + q) + 1)
  | p, [], n => .inr ⟨rfl, fun q _ _ _ e => by simp at e⟩
  | p, (E0, sz0, t0) :: r, n => by
    by_cases hn : n = 2 * p + 1
    · subst hn
      exact .inl ⟨0, E0, sz0, t0, rfl, rfl, by simp [tkCells, memL, over]⟩
    · have hm : memL (tkCells p ((E0, sz0, t0) :: r)) n = memL (tkCells (p + 1) r) n := by
        have hb : Nat.beq n (2 * p + 1) = false := by cases hb : Nat.beq n (2 * p + 1) with | false => rfl | true => exact absurd (Nat.eq_of_beq_eq_true hb) hn
        simp only [tkCells, memL, over, hb, cond_false]
      rcases tkCells_get (p + 1) r n with ⟨q, E, sz, t, h1, h2, h3⟩ | ⟨h1, h2⟩
      · exact .inl ⟨q + 1, E, sz, t, by omega, by simpa using h2, hm.trans h3⟩
      · refine .inr ⟨hm.trans h1, fun q E sz t e => ?_⟩
        cases q with
        | zero => omega
        | succ q => have := h2 q E sz t (by simpa using e); omega
end
end Go.Proofs.YtmdnnlfoljdfpaaDoor.Mir
