/- A mirror of the code's own run: shapes of data, abstract cells, values and memory; what they stand for in a world. Nothing here names the program. -/
import Derived.WalkKit
import Derived.Orders
import Derived.LoopN
namespace Go.Proofs.YtmdnnlfoljdfpaaDoor.Mir
open Go

/-! ### shapes of data -/
inductive Sh where
  | int (k : IntKind)
  | bool
  | str
  | err (t : TypeId)
  | sl (l : List Sh)
  | arr (k : IntKind) (n : Nat)
mutual
@[reducible] def Sh.T : Sh → Type
  | .int _ => Int
  | .bool => Bool
  | .str => ByteArray
  | .err _ => Option Int
  | .sl l => List (TL l)
  | .arr _ _ => List Int
@[reducible] def TL : List Sh → Type
  | [] => Unit
  | s :: r => match r with
    | [] => s.T
    | _ :: _ => s.T × TL r
end
mutual
def dfltS : (s : Sh) → s.T
  | .int _ => (0 : Int)
  | .bool => false
  | .str => ByteArray.empty
  | .err _ => none
  | .sl _ => []
  | .arr _ n => List.replicate n 0
def dfltL : (l : List Sh) → TL l
  | [] => ()
  | [s] => dfltS s
  | s :: s' :: r => (dfltS s, dfltL (s' :: r))
end
mutual
def shEqS : Sh → Sh → Bool
  | .int k, .int k' => decide (k = k')
  | .bool, .bool => true
  | .str, .str => true
  | .err t, .err t' => Nat.beq t t'
  | .sl l, .sl l' => shEqL l l'
  | .arr k n, .arr k' n' => decide (k = k') && Nat.beq n n'
  | _, _ => false
def shEqL : List Sh → List Sh → Bool
  | [], [] => true
  | s :: r, s' :: r' => shEqS s s' && shEqL r r'
  | _, _ => false
end
mutual
theorem shEqS_eq : ∀ {s s' : Sh}, shEqS s s' = true → s = s'
  | .int k, s', h => by cases s' <;> simp_all [shEqS]
  | .bool, s', h => by cases s' <;> simp_all [shEqS]
  | .str, s', h => by cases s' <;> simp_all [shEqS]
  | .err t, s', h => by cases s' <;> simp_all [shEqS]
  | .arr k n, s', h => by cases s' <;> simp_all [shEqS]
  | .sl l, .sl l', h => congrArg Sh.sl (shEqL_eq (by simpa [shEqS] using h))
  | .sl l, .int _, h => by simp [shEqS] at h
  | .sl l, .bool, h => by simp [shEqS] at h
  | .sl l, .str, h => by simp [shEqS] at h
  | .sl l, .err _, h => by simp [shEqS] at h
  | .sl l, .arr _ _, h => by simp [shEqS] at h
theorem shEqL_eq : ∀ {s s' : List Sh}, shEqL s s' = true → s = s'
  | [], [], _ => rfl
  | [], _ :: _, h => by simp [shEqL] at h
  | _ :: _, [], h => by simp [shEqL] at h
  | s :: r, s' :: r', h => by
    simp only [shEqL, Bool.and_eq_true] at h
    rw [shEqS_eq h.1, shEqL_eq h.2]
end
def widS : Sh → Nat
  | .arr _ n => n
  | _ => 1
def widSL : List Sh → Nat
  | [] => 0
  | s :: r => widS s + widSL r

/-! ### abstract cells -/
/-- A cell (or, 'arr', a row of cells): what is known of it. -/
inductive C where
  | junk
  | lit (v : Value)
  | err (t : TypeId) (e : Option Int)
  | ptr (n off : Nat)
  | pel (n off len : Nat) (i : Int)
  | kpd (l : List Sh) (x : TL l) (off : Nat)
  | ifp (t : TypeId) (n off : Nat)
  | sl (tk : Option (Nat × Nat)) (l : List Sh) (xs : List (TL l))
  | arr (k : IntKind) (n : Nat) (xs : List Int)
  | tkt (alive : Bool) (ver E sz : Nat)
/-- A value: of one cell, or a struct's or an array's cells. -/
inductive A where
  | one (c : C)
  | agg (cs : List C)
/-- What a temporary holds: a value, or a call's several results. -/
inductive V where
  | a (x : A)
  | tup (l : List A)

abbrev int (k : IntKind) (n : Int) : C := .lit (.int k n)
abbrev boolC (b : Bool) : C := .lit (.bool b)
def undefV : V := .a (.one (.lit undef))

/-! ### what they stand for -/
/-- Where a ticket's row lies: nowhere yet (nil); a row that is full; a block of one's own, known up to e elements, with room for cap. -/
inductive Tk where
  | none
  | full
  | own (β e cap : Nat)
/-- What is known beside the world: the known cells (they stay), where the named blocks lie, where a ticket's row lies. -/
structure Gh where
  K : Nat → Nat → Option Value
  j : Nat → Option Nat
  th : Nat → Nat → Option Tk
def errV (t : TypeId) : Option Int → Value
  | none => .nilIface
  | some n => .iface t (.int .i64 n)
/-- A slice whose elements are known, each of 'size' cells. -/
def RowS {α : Type} (K : Nat → Nat → Option Value) (size : Nat) (R : α → List Value → Prop) (xs : List α) (v : Value) : Prop :=
  (xs = [] ∧ ∃ a c, v = .slice a 0 c) ∨ ∃ β off cap, v = .slice (some ⟨β, off, none⟩) xs.length cap ∧ xs.length ≤ cap ∧
    ∀ i x, xs[i]? = some x → ∃ us, us.length = size ∧ R x us ∧ ∀ j u, us[j]? = some u → K β (off + (i * size + j)) = some u
mutual
def RepS (K : Nat → Nat → Option Value) : (s : Sh) → s.T → List Value → Prop
  | .int k, n, vs => vs = [.int k n]
  | .bool, b, vs => vs = [.bool b]
  | .str, s, vs => vs = [.string s]
  | .err t, e, vs => vs = [errV t e]
  | .sl l, xs, vs => ∃ v, vs = [v] ∧ RowS K (widSL l) (RepSL K l) xs v
  | .arr k n, xs, vs => List.length (α := Int) xs = n ∧ vs = List.map (Value.int k) xs
def RepSL (K : Nat → Nat → Option Value) : (l : List Sh) → TL l → List Value → Prop
  | [], _, vs => vs = []
  | [s], x, vs => RepS K s x vs
  | s :: s' :: r, p, vs => ∃ a b, vs = a ++ b ∧ RepS K s p.1 a ∧ RepSL K (s' :: r) p.2 b
end
/-- A slice with a ticket. -/
def TkOf (g : Gh) (tk : Option (Nat × Nat)) (len : Nat) (x : Value) : Prop :=
  ∀ n ver, tk = some (n, ver) → ∃ τ, g.th n ver = some τ ∧ (match τ with
    | .none => len = 0 ∧ x = .slice none 0 0
    | .full => ∃ a, x = .slice a len len
    | .own β e cap => e = len ∧ x = .slice (some ⟨β, 0, none⟩) len cap)
def RepC (g : Gh) : C → Value → Prop
  | .junk, _ => True
  | .lit v, x => x = v
  | .err t e, x => x = errV t e
  | .ptr n off, x => ∃ β, g.j n = some β ∧ x = .pointer (some ⟨β, off, none⟩)
  | .pel n off len i, x => ∃ β, g.j n = some β ∧ 0 ≤ i ∧ i < len ∧ x = .pointer (some ⟨β, off + i.toNat, none⟩)
  | .kpd l y off, x => ∃ β o us, x = .pointer (some ⟨β, o + off, none⟩) ∧ RepSL g.K l y us ∧ ∀ (j : Nat) u, us[j]? = some u → g.K β (o + j) = some u
  | .ifp t n off, x => ∃ β, g.j n = some β ∧ x = .iface t (.pointer (some ⟨β, off, none⟩))
  | .sl tk l xs, x => RowS g.K (widSL l) (RepSL g.K l) xs x ∧ TkOf g tk xs.length x
  | .arr .., _ => False
  | .tkt .., _ => False
def wid : C → Nat
  | .arr _ n _ => n
  | _ => 1
def isArr : C → Bool
  | .arr .. => true
  | _ => false
/-- Abstract cells over cells. -/
def RepL (g : Gh) : List C → List Value → Prop
  | [], vs => vs = []
  | .arr k n xs :: cs, vs => ∃ r, xs.length = n ∧ vs = xs.map (Value.int k) ++ r ∧ RepL g cs r
  | c :: cs, vs => ∃ x r, vs = x :: r ∧ RepC g c x ∧ RepL g cs r
def RepA (g : Gh) : A → Value → Prop
  | .one c, x => RepC g c x
  | .agg cs, x => ∃ vs : List Value, x = .agg vs.toArray ∧ RepL g cs vs
def RepAs (g : Gh) : List A → List Value → Prop
  | [], vs => vs = []
  | a :: as, vs => ∃ x r, vs = x :: r ∧ RepA g a x ∧ RepAs g as r
def RepV (g : Gh) : V → Value → Prop
  | .a x, v => RepA g x v
  | .tup l, v => ∃ vs : List Value, v = .tuple vs.toArray ∧ RepAs g l vs

/-- More is known. -/
structure Gh.le (g g' : Gh) : Prop where
  K : ∀ β o v, g.K β o = some v → g'.K β o = some v
  j : ∀ n β, g.j n = some β → g'.j n = some β
  th : ∀ n v τ, g.th n v = some τ → g'.th n v = some τ
theorem Gh.le.refl (g : Gh) : g.le g := ⟨fun _ _ _ h => h, fun _ _ h => h, fun _ _ _ h => h⟩
theorem Gh.le.trans {a b c : Gh} (h : a.le b) (k : b.le c) : a.le c :=
  ⟨fun _ _ _ e => k.K _ _ _ (h.K _ _ _ e), fun _ _ e => k.j _ _ (h.j _ _ e), fun _ _ _ e => k.th _ _ _ (h.th _ _ _ e)⟩
theorem RowS.mono {α : Type} {K K' : Nat → Nat → Option Value} {size : Nat} {R R' : α → List Value → Prop} {xs : List α} {v : Value} (hK : ∀ β o v, K β o = some v → K' β o = some v) (hR : ∀ x us, R x us → R' x us)
    (h : RowS K size R xs v) : RowS K' size R' xs v := by
  rcases h with h | ⟨β, off, cap, h1, h2, h3⟩
  · exact .inl h
  · refine .inr ⟨β, off, cap, h1, h2, fun i x hx => ?_⟩
    obtain ⟨us, k1, k2, k3⟩ := h3 i x hx
    exact ⟨us, k1, hR _ _ k2, fun j u hu => hK _ _ _ (k3 j u hu)⟩
mutual
theorem RepS.mono {K K' : Nat → Nat → Option Value} (hK : ∀ β o v, K β o = some v → K' β o = some v) : ∀ {s : Sh} {x : s.T} {vs : List Value}, RepS K s x vs → RepS K' s x vs
  | .int _, _, _, h => h
  | .bool, _, _, h => h
  | .str, _, _, h => h
  | .err _, _, _, h => h
  | .arr _ _, _, _, h => h
  | .sl l, xs, vs, h => by
    simp only [RepS] at h ⊢
    obtain ⟨v, h1, h2⟩ := h
    exact ⟨v, h1, h2.mono hK (fun x us => RepSL.mono hK)⟩
theorem RepSL.mono {K K' : Nat → Nat → Option Value} (hK : ∀ β o v, K β o = some v → K' β o = some v) : ∀ {l : List Sh} {x : TL l} {vs : List Value}, RepSL K l x vs → RepSL K' l x vs
  | [], _, _, h => h
  | [s], x, vs, h => by
    simp only [RepSL] at h ⊢
    exact RepS.mono hK h
  | s :: s' :: r, p, vs, h => by
    simp only [RepSL] at h ⊢
    obtain ⟨a, b, h1, h2, h3⟩ := h
    exact ⟨a, b, h1, RepS.mono hK h2, RepSL.mono hK h3⟩
end
section
variable {g g' : Gh}
theorem TkOf.le (ht : ∀ n v τ, g.th n v = some τ → g'.th n v = some τ) {tk : Option (Nat × Nat)} {n : Nat} {x : Value} (h : TkOf g tk n x) : TkOf g' tk n x :=
  fun m ver e => let ⟨τ, h1, h2⟩ := h m ver e; ⟨τ, ht _ _ _ h1, h2⟩
/-- What keeps a cell's meaning: the known cells, the tickets, and its own names. -/
theorem keep_C (hK : ∀ β o v, g.K β o = some v → g'.K β o = some v) (ht : ∀ n v τ, g.th n v = some τ → g'.th n v = some τ) {c : C} {x : Value} (hj : ∀ n β, (c = .junk → False) → g.j n = some β → ((∃ o, c = .ptr n o) ∨ (∃ o l i, c = .pel n o l i) ∨ ∃ t o, c = .ifp t n o) → g'.j n = some β) (h : RepC g c x) : RepC g' c x := by
  cases c with
  | junk => trivial
  | lit v => exact h
  | err t e => exact h
  | ptr n o => obtain ⟨β, h1, h2⟩ := h; exact ⟨β, hj n β (fun e => by cases e) h1 (.inl ⟨o, rfl⟩), h2⟩
  | pel n o l i => obtain ⟨β, h1, h2⟩ := h; exact ⟨β, hj n β (fun e => by cases e) h1 (.inr (.inl ⟨o, l, i, rfl⟩)), h2⟩
  | ifp t n o => obtain ⟨β, h1, h2⟩ := h; exact ⟨β, hj n β (fun e => by cases e) h1 (.inr (.inr ⟨t, o, rfl⟩)), h2⟩
  | kpd l y off => obtain ⟨β, o, us, h1, h2, h3⟩ := h; exact ⟨β, o, us, h1, h2.mono hK, fun j u e => hK _ _ _ (h3 j u e)⟩
  | sl tk l xs => exact ⟨h.1.mono hK (fun x us => RepSL.mono hK), h.2.le ht⟩
  | arr k n xs => exact h.elim
  | tkt => exact h.elim
theorem RepC.le (hg : g.le g') {c : C} {x : Value} (h : RepC g c x) : RepC g' c x := keep_C hg.K hg.th (fun n β _ e _ => hg.j n β e) h
theorem RepL.le (hg : g.le g') : ∀ {cs : List C} {vs : List Value}, RepL g cs vs → RepL g' cs vs
  | [], vs, h => h
  | c :: cs, vs, h => by
    cases c <;> simp only [RepL] at h ⊢ <;> first
      | (obtain ⟨r, h1, h2, h3⟩ := h; exact ⟨r, h1, h2, h3.le hg⟩)
      | (obtain ⟨x, r, h1, h2, h3⟩ := h; exact ⟨x, r, h1, h2.le hg, h3.le hg⟩)
theorem RepA.le (hg : g.le g') {a : A} {x : Value} (h : RepA g a x) : RepA g' a x := by
  cases a with
  | one c => exact RepC.le hg h
  | agg cs => obtain ⟨vs, h1, h2⟩ := h; exact ⟨vs, h1, h2.le hg⟩
theorem RepAs.le (hg : g.le g') : ∀ {as : List A} {vs : List Value}, RepAs g as vs → RepAs g' as vs
  | [], _, h => h
  | _ :: _, _, ⟨x, r, h1, h2, h3⟩ => ⟨x, r, h1, h2.le hg, h3.le hg⟩
theorem RepV.le (hg : g.le g') {v : V} {x : Value} (h : RepV g v x) : RepV g' v x := by
  cases v with
  | a c => exact RepA.le hg h
  | tup cs => obtain ⟨vs, h1, h2⟩ := h; exact ⟨vs, h1, h2.le hg⟩
end

/-! ### cells by their places -/
def widL : List C → Nat
  | [] => 0
  | c :: cs => wid c + widL cs
def dropC : List C → Nat → Option (List C)
  | [], off => bif Nat.beq off 0 then some [] else none
  | c :: cs, off => bif Nat.beq off 0 then some (c :: cs) else bif Nat.ble (wid c) off then dropC cs (off - wid c) else none
def takeC : List C → Nat → Option (List C)
  | [], n => bif Nat.beq n 0 then some [] else none
  | c :: cs, n => bif Nat.beq n 0 then some [] else bif Nat.ble (wid c) n then (match takeC cs (n - wid c) with | some r => some (c :: r) | none => none) else none
def subC (cs : List C) (off n : Nat) : Option (List C) := match dropC cs off with | some ds => takeC ds n | none => none
def replC : List C → List C → Option (List C)
  | cs, [] => some cs
  | [], _ :: _ => none
  | c :: cs, d :: ds => bif Nat.beq (wid c) (wid d) then (match replC cs ds with | some r => some (d :: r) | none => none) else none
def putC : List C → Nat → List C → Option (List C)
  | [], off, ds => bif Nat.beq off 0 then replC [] ds else none
  | c :: cs, off, ds => bif Nat.beq off 0 then replC (c :: cs) ds else bif Nat.ble (wid c) off then (match putC cs (off - wid c) ds with | some r => some (c :: r) | none => none) else none
section
variable {g : Gh}
theorem RepL.cons {c : C} {cs : List C} {vs : List Value} (h : RepL g (c :: cs) vs) : ∃ xs r, vs = xs ++ r ∧ xs.length = wid c ∧ RepL g [c] xs ∧ RepL g cs r := by
  cases c <;> simp only [RepL] at h <;> first
    | (obtain ⟨r, h1, h2, h3⟩ := h; exact ⟨_, r, h2, by simp [wid, h1], by simp [RepL, h1], h3⟩)
    | (obtain ⟨x, r, h1, h2, h3⟩ := h; exact ⟨[x], r, h1, rfl, by simpa [RepL] using h2, h3⟩)
theorem RepL.mk {c : C} {cs : List C} {xs r : List Value} (h : RepL g [c] xs) (h' : RepL g cs r) : RepL g (c :: cs) (xs ++ r) := by
  cases c <;> simp only [RepL] at h ⊢ <;> first
    | (obtain ⟨q, h1, h2, rfl⟩ := h; exact ⟨r, h1, by simp [h2], h'⟩)
    | (obtain ⟨x, q, h1, h2, rfl⟩ := h; exact ⟨x, r, by simp [h1], h2, h'⟩)
theorem RepL.length : ∀ {cs : List C} {vs : List Value}, RepL g cs vs → vs.length = widL cs
  | [], vs, h => by simp only [RepL] at h; simp [h, widL]
  | c :: cs, vs, h => by
    obtain ⟨xs, r, rfl, h1, _, h2⟩ := h.cons
    simp [widL, h1, h2.length]
theorem RepL.append : ∀ {cs ds : List C} {vs us : List Value}, RepL g cs vs → RepL g ds us → RepL g (cs ++ ds) (vs ++ us)
  | [], ds, vs, us, h, h' => by simp only [RepL] at h; subst h; simpa using h'
  | c :: cs, ds, vs, us, h, h' => by
    obtain ⟨xs, r, rfl, h1, h2, h3⟩ := h.cons
    rw [List.cons_append, List.append_assoc]
    exact h2.mk (h3.append h')
theorem RepL.dropC : ∀ {cs : List C} {vs : List Value} {off : Nat} {ds : List C}, RepL g cs vs → dropC cs off = some ds → ∃ a b, vs = a ++ b ∧ a.length = off ∧ RepL g ds b
  | [], vs, off, ds, h, e => by
    unfold Mir.dropC at e
    cases hb : Nat.beq off 0 with
    | true => rw [hb] at e; simp at e; subst e; exact ⟨[], vs, rfl, (Nat.eq_of_beq_eq_true hb).symm, h⟩
    | false => rw [hb] at e; simp at e
  | c :: cs, vs, off, ds, h, e => by
    unfold Mir.dropC at e
    cases hb : Nat.beq off 0 with
    | true => rw [hb] at e; simp at e; subst e; exact ⟨[], vs, rfl, (Nat.eq_of_beq_eq_true hb).symm, h⟩
    | false =>
      rw [hb] at e
      cases hl : Nat.ble (wid c) off with
      | false => rw [hl] at e; simp at e
      | true =>
        rw [hl] at e
        simp only [cond_true, cond_false] at e
        obtain ⟨xs, r, rfl, h1, h2, h3⟩ := h.cons
        obtain ⟨a, b, rfl, h4, h5⟩ := h3.dropC e
        have := Nat.le_of_ble_eq_true hl
        exact ⟨xs ++ a, b, by simp, by simp [h1, h4]; omega, h5⟩
theorem RepL.takeC : ∀ {cs : List C} {vs : List Value} {n : Nat} {ds : List C}, RepL g cs vs → takeC cs n = some ds → ∃ a b, vs = a ++ b ∧ a.length = n ∧ RepL g ds a
  | [], vs, n, ds, h, e => by
    unfold Mir.takeC at e
    cases hb : Nat.beq n 0 with
    | true => rw [hb] at e; simp at e; subst e; exact ⟨[], vs, rfl, (Nat.eq_of_beq_eq_true hb).symm, rfl⟩
    | false => rw [hb] at e; simp at e
  | c :: cs, vs, n, ds, h, e => by
    unfold Mir.takeC at e
    cases hb : Nat.beq n 0 with
    | true => rw [hb] at e; simp at e; subst e; exact ⟨[], vs, rfl, (Nat.eq_of_beq_eq_true hb).symm, rfl⟩
    | false =>
      rw [hb] at e
      cases hl : Nat.ble (wid c) n with
      | false => rw [hl] at e; simp at e
      | true =>
        rw [hl] at e
        simp only [cond_true, cond_false] at e
        obtain ⟨xs, r, rfl, h1, h2, h3⟩ := h.cons
        cases ht : Mir.takeC cs (n - wid c) with
        | none => rw [ht] at e; cases e
        | some q =>
          rw [ht] at e
          obtain rfl := Option.some.inj e
          obtain ⟨a, b, rfl, h4, h5⟩ := h3.takeC ht
          have := Nat.le_of_ble_eq_true hl
          exact ⟨xs ++ a, b, by simp, by simp [h1, h4]; omega, h2.mk h5⟩
theorem RepL.subC {cs : List C} {vs : List Value} {off n : Nat} {ds : List C} (h : RepL g cs vs) (e : subC cs off n = some ds) :
    ∃ a b c, vs = a ++ (b ++ c) ∧ a.length = off ∧ b.length = n ∧ RepL g ds b := by
  unfold Mir.subC at e
  cases hd : Mir.dropC cs off with
  | none => rw [hd] at e; cases e
  | some q =>
    rw [hd] at e
    obtain ⟨a, b, rfl, h1, h2⟩ := h.dropC hd
    obtain ⟨c, d, rfl, h3, h4⟩ := h2.takeC e
    exact ⟨a, c, d, rfl, h1, h3, h4⟩
theorem RepL.replC : ∀ {cs ds es : List C} {vs us : List Value}, RepL g cs vs → RepL g ds us → replC cs ds = some es → us.length ≤ vs.length ∧ RepL g es (us ++ vs.drop us.length)
  | cs, [], es, vs, us, h, h', e => by
    simp only [RepL] at h'; subst h'
    have : es = cs := by cases cs <;> simpa [Mir.replC] using e.symm
    subst this
    exact ⟨by simp, by simpa using h⟩
  | [], _ :: _, es, vs, us, h, h', e => by cases e
  | c :: cs, d :: ds, es, vs, us, h, h', e => by
    simp only [Mir.replC] at e
    cases hb : Nat.beq (wid c) (wid d) with
    | false => rw [hb] at e; cases e
    | true =>
      rw [hb] at e
      have hw := Nat.eq_of_beq_eq_true hb
      cases ht : Mir.replC cs ds with
      | none => rw [ht] at e; cases e
      | some q =>
        rw [ht] at e
        obtain rfl := Option.some.inj e
        obtain ⟨xs, r, rfl, h1, h2, h3⟩ := h.cons
        obtain ⟨ys, t, rfl, h4, h5, h6⟩ := h'.cons
        obtain ⟨k1, k2⟩ := h3.replC h6 ht
        refine ⟨by simp; omega, ?_⟩
        have hl : ys.length = xs.length := by omega
        have := h5.mk k2
        have hd : List.drop (xs.length + t.length) xs = [] := List.drop_of_length_le (by omega)
        simpa [List.drop_append, hl, hd] using this
theorem RepL.putC : ∀ {cs ds es : List C} {vs us : List Value} {off : Nat}, RepL g cs vs → RepL g ds us → putC cs off ds = some es → off + us.length ≤ vs.length ∧ RepL g es (vs.take off ++ us ++ vs.drop (off + us.length))
  | [], ds, es, vs, us, off, h, h', e => by
    unfold Mir.putC at e
    cases hb : Nat.beq off 0 with
    | true =>
      rw [hb] at e
      obtain rfl : off = 0 := Nat.eq_of_beq_eq_true hb
      obtain ⟨h1, h2⟩ := h.replC h' e
      exact ⟨by omega, by simpa using h2⟩
    | false => rw [hb] at e; simp at e
  | c :: cs, ds, es, vs, us, off, h, h', e => by
    unfold Mir.putC at e
    cases hb : Nat.beq off 0 with
    | true =>
      rw [hb] at e
      obtain rfl : off = 0 := Nat.eq_of_beq_eq_true hb
      obtain ⟨h1, h2⟩ := h.replC h' e
      exact ⟨by omega, by simpa using h2⟩
    | false =>
      rw [hb] at e
      cases hl : Nat.ble (wid c) off with
      | false => rw [hl] at e; simp at e
      | true =>
        rw [hl] at e
        simp only [cond_true, cond_false] at e
        obtain ⟨xs, r, rfl, h1, h2, h3⟩ := h.cons
        cases ht : Mir.putC cs (off - wid c) ds with
        | none => rw [ht] at e; cases e
        | some q =>
          rw [ht] at e
          obtain rfl := Option.some.inj e
          obtain ⟨k1, k2⟩ := h3.putC h' ht
          have := Nat.le_of_ble_eq_true hl
          refine ⟨by simp; omega, ?_⟩
          have k3 := h2.mk k2
          have e1 : (xs ++ r).take off = xs ++ r.take (off - wid c) := by rw [List.take_append, List.take_of_length_le (by omega), h1]
          have e2 : (xs ++ r).drop (off + us.length) = r.drop (off - wid c + us.length) := by
            rw [List.drop_append, List.drop_of_length_le (by omega), List.nil_append, h1]; congr 1; omega
          rw [e1, e2]
          simpa using k3
end
end Go.Proofs.YtmdnnlfoljdfpaaDoor.Mir
