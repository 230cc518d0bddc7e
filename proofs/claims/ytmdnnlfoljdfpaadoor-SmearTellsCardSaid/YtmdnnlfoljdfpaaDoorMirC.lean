/- The mirror's operations are right: what the machine does at an operation is what the mirror says. Nothing here names the program. -/
import Derived.Test.YtmdnnlfoljdfpaaDoorMirB
namespace Go.Proofs.YtmdnnlfoljdfpaaDoor.Mir
open Go Go.RowKit

/-- Nothing of what was there has turned, but for the blocks of M. -/
structure Only (M : Nat → Prop) (w w' : World) : Prop where
  os : w'.os = w.os
  tape : w'.tape = w.tape
  output : w'.output = w.output
  size : w.heap.size ≤ w'.heap.size
  block : ∀ k, k < w.heap.size → ¬ M k → w'.heap[k]? = w.heap[k]?
theorem Only.refl (M : Nat → Prop) (w : World) : Only M w w := ⟨rfl, rfl, rfl, Nat.le_refl _, fun _ _ _ => rfl⟩
theorem Only.trans {M : Nat → Prop} {a b c : World} (h : Only M a b) (k : Only M b c) : Only M a c :=
  ⟨k.os.trans h.os, k.tape.trans h.tape, k.output.trans h.output, Nat.le_trans h.size k.size, fun i hi hm => (k.block i (Nat.lt_of_lt_of_le hi h.size) hm).trans (h.block i hi hm)⟩
theorem Only.mono {M M' : Nat → Prop} {a b : World} (h : Only M a b) (hm : ∀ k, k < a.heap.size → M k → M' k) : Only M' a b :=
  ⟨h.os, h.tape, h.output, h.size, fun i hi k => h.block i hi (fun hk => k (hm i hi hk))⟩
theorem Only.drew {M : Nat → Prop} {a b : World} (h : Only M a b) : Only M a b.drew := ⟨h.os, h.tape, h.output, h.size, h.block⟩

structure Base where
  w0 : World
  M : Nat → Prop
  T : Nat → Prop
  K0 : Nat → Nat → Option Value
  j0 : Nat → Option Nat
/-- A ticket's own block. -/
structure OwnIn (g : Gh) (w : World) (β e cap E sz : Nat) : Prop where
  row : ∃ cur fz, w.heap[β]? = some (.cells cur E fz) ∧ (fz.2 = fz.1 ∨ cur.size ≤ fz.1) ∧ cur.size = cap * sz
  room : e ≤ cap
  most : cap ≤ maxLen
  dark : ∀ o, e * sz ≤ o → g.K β o = none
  mine : ∀ m, g.j m ≠ some β
structure OwnAt (g : Gh) (b : Base) (w : World) (β e cap E sz : Nat) : Prop extends OwnIn g w β e cap E sz where
  new : b.T β ∨ b.w0.heap.size ≤ β
structure Con (b : Base) (N : Nat) (g : Gh) (fr : Nat → V) (mem : Nat → Option (List C)) (a : Act) (w : World) : Prop where
  rep : ∀ t, RepV g (fr t) (a.tmps.getD t undef)
  defers : a.defers = []
  siz : N ≤ a.tmps.size
  known : ∀ β o v, g.K β o = some v → w.cell? ⟨β, o, none⟩ = some v
  blk : ∀ n cs, n % 2 = 0 → mem n = some cs → ∃ β vs ty, g.j n = some β ∧ w.heap[β]? = some (.cells vs ty (0, 0)) ∧ RepL g cs vs.toList ∧ (∀ o, g.K β o = none) ∧ (b.M β ∨ b.w0.heap.size ≤ β)
  inj : ∀ n m β, g.j n = some β → g.j m = some β → n = m
  dom : ∀ n, mem n = none ∨ n % 2 = 1 → g.j n = none
  tkt : ∀ n cs, n % 2 = 1 → mem n = some cs → ∃ al v E sz, cs = [.tkt al v E sz] ∧ (al = true → ∃ τ, g.th n v = some τ ∧ ∀ β e cap, τ = .own β e cap → OwnAt g b w β e cap E sz)
  tdom : ∀ n v τ, g.th n v = some τ → n % 2 = 1 ∧ ∃ al v' E sz, mem n = some [.tkt al v' E sz] ∧ v ≤ v'
  tinj : ∀ n m v v' E E' sz sz' β e e' cap cap', mem n = some [.tkt true v E sz] → mem m = some [.tkt true v' E' sz'] → g.th n v = some (.own β e cap) → g.th m v' = some (.own β e' cap') → n = m
  old : ∀ β o v, b.K0 β o = some v → g.K β o = some v
  new : ∀ β o v, g.K β o = some v → b.K0 β o = some v ∨ b.T β ∨ b.w0.heap.size ≤ β
  out : ∀ n β, b.j0 n = some β → g.j n = some β
  only : Only (fun β => b.M β ∨ b.T β) b.w0 w
  todd : ∀ n v τ, g.th n v = some τ → v % 2 = 1 → ∃ β e cap, τ = .own β e cap
def apFr (dst : Option Nat) (v : V) (fr : Nat → V) : Nat → V :=
  match dst with
  | none => fr
  | some t => fun u => bif Nat.beq u t then v else fr u
def over : List (Nat × List C) → (Nat → Option (List C)) → Nat → Option (List C)
  | [], mem, n => mem n
  | (m, cs) :: r, mem, n => bif Nat.beq n m then some cs else over r mem n

theorem getD_put {a : Act} {dst : Option Nat} {x : Value} {N : Nat} (hs : N ≤ a.tmps.size) (hd : ∀ t, dst = some t → t < N) (u : Nat) :
    (a.put dst x).tmps.getD u undef = match dst with | some t => if u = t then x else a.tmps.getD u undef | none => a.tmps.getD u undef := by
  cases dst with
  | none => rfl
  | some t =>
    have := hd t rfl
    simp only [Act.put, Array.getD_eq_getD_getElem?, Array.getElem?_setIfInBounds]
    by_cases h : u = t
    · subst h
      rw [if_pos rfl, if_pos (by omega)]; simp
    · rw [if_neg (fun e => h e.symm), if_neg h]
theorem RepV.eval {g : Gh} {fr : Nat → V} {a : Act} (h : ∀ t, RepV g (fr t) (a.tmps.getD t undef)) : ∀ x : Operand, RepV g (ev fr x) (a.eval x)
  | .tmp t => h t
  | .const _ => rfl
  | .global _ => rfl
  | .func _ => rfl
section
variable {P : Program} {b : Base} {N : Nat} {g : Gh} {fr : Nat → V} {mem : Nat → Option (List C)} {a : Act} {w : World}
theorem Con.put {dst : Option Nat} {v : V} {x : Value} (h : Con b N g fr mem a w) (hd : ∀ t, dst = some t → t < N) (hv : RepV g v x) : Con b N g (apFr dst v fr) mem (a.put dst x) w := by
  refine { h with rep := fun u => ?_, defers := ?_, siz := ?_ }
  · rw [getD_put h.siz hd]
    cases dst with
    | none => exact h.rep u
    | some t =>
      simp only [apFr]
      by_cases e : u = t
      · subst e; simpa using hv
      · have : Nat.beq u t = false := by cases hb : Nat.beq u t with | false => rfl | true => exact absurd (Nat.eq_of_beq_eq_true hb) e
        rw [this, if_neg e]; exact h.rep u
  · cases dst <;> exact h.defers
  · cases dst with
    | none => exact h.siz
    | some t => simpa [Act.put] using h.siz
theorem OwnAt.drew {β e cap E sz : Nat} (h : OwnAt g b w β e cap E sz) : OwnAt g b w.drew β e cap E sz := ⟨⟨h.row, h.room, h.most, h.dark, h.mine⟩, h.new⟩
theorem Con.drew (h : Con b N g fr mem a w) : Con b N g fr mem a w.drew := by
  have ht : ∀ n cs, n % 2 = 1 → mem n = some cs → ∃ al v E sz, cs = [.tkt al v E sz] ∧ (al = true → ∃ τ, g.th n v = some τ ∧ ∀ β e cap, τ = .own β e cap → OwnAt g b w.drew β e cap E sz) := fun n cs e1 e2 => by
    obtain ⟨al, v, E, sz, k1, k2⟩ := h.tkt n cs e1 e2
    refine ⟨al, v, E, sz, k1, fun ha => ?_⟩
    obtain ⟨τ, k3, k4⟩ := k2 ha
    exact ⟨τ, k3, fun β e cap ht => (k4 β e cap ht).drew⟩
  exact { h with known := h.known, blk := h.blk, only := h.only.drew, tkt := ht }
theorem over_one (n : Nat) (cs : List C) (m : Nat) : over [(n, cs)] mem m = if m = n then some cs else mem m := by
  simp only [over]
  by_cases e : m = n
  · subst e; simp
  · have : Nat.beq m n = false := by cases hb : Nat.beq m n with | false => rfl | true => exact absurd (Nat.eq_of_beq_eq_true hb) e
    rw [this, if_neg e]; rfl
theorem over_two {n m : Nat} (hne : n ≠ m) (cs ds : List C) : over [(n, cs), (m, ds)] mem = over [(m, ds)] (over [(n, cs)] mem) := by
  funext k
  rw [over_one, over_one]
  show (bif Nat.beq k n then some cs else over [(m, ds)] mem k) = _
  rw [over_one]
  by_cases e : k = n
  · subst e; simp [hne]
  · have : Nat.beq k n = false := by cases hb : Nat.beq k n with | false => rfl | true => exact absurd (Nat.eq_of_beq_eq_true hb) e
    rw [this, if_neg e]; rfl
theorem Con.blk_lt (h : Con b N g fr mem a w) {n β : Nat} (hj : g.j n = some β) : β < w.heap.size := by
  cases hm : mem n with
  | none => rw [h.dom n (.inl hm)] at hj; cases hj
  | some cs =>
    have h2 : n % 2 = 0 := by
      rcases Nat.mod_two_eq_zero_or_one n with e | e
      · exact e
      · rw [h.dom n (.inr e)] at hj; cases hj
    obtain ⟨β', vs, ty, k1, k2, _⟩ := h.blk n cs h2 hm
    obtain rfl := Option.some.inj (hj.symm.trans k1)
    exact (Array.getElem?_eq_some_iff.1 k2).1
theorem OwnIn.lt {β e cap E sz : Nat} (h : OwnIn g w β e cap E sz) : β < w.heap.size := by
  obtain ⟨cur, fz, h1, _⟩ := h.row
  exact (Array.getElem?_eq_some_iff.1 h1).1
/-- A new block of one's own. -/
theorem Con.alloc (h : Con b N g fr mem a w) {n : Nat} {cs : List C} {vs : Array Value} {ty : TypeId} (h2 : n % 2 = 0) (hn : mem n = none) (hr : RepL g cs vs.toList) :
    ∃ g', g.le g' ∧ g'.j n = some w.heap.size ∧ Con b N g' fr (over [(n, cs)] mem) a (w.alloc (.cells vs ty)) := by
  have hle : g.le { g with j := fun m => if m = n then some w.heap.size else g.j m } := by
    refine ⟨fun _ _ _ e => e, fun m β e => ?_, fun _ _ _ e => e⟩
    show (if m = n then _ else _) = _
    have : m ≠ n := fun e' => by subst e'; rw [h.dom m (.inl hn)] at e; cases e
    rw [if_neg this]; exact e
  refine ⟨{ g with j := fun m => if m = n then some w.heap.size else g.j m }, hle, by simp, ?_⟩
  have hmem : ∀ m cs', over [(n, cs)] mem m = some cs' → m % 2 = 1 → mem m = some cs' := fun m cs' e e1 => by
    rw [over_one, if_neg (by omega)] at e; exact e
  refine ⟨fun t => (h.rep t).le hle, h.defers, h.siz, fun β o v e => ?_, fun m ds e2 e => ?_, fun m1 m2 β k1 k2 => ?_, fun m e => ?_, fun m cs' e1 e => ?_, fun m v τ e => ?_, fun m1 m2 v v' E E' sz sz' β e e' cap cap' q1 q2 q3 q4 => ?_, h.old, h.new, fun m β e => hle.j _ _ (h.out m β e), ?_, h.todd⟩
  · have := h.known β o v e
    rw [World.cell?_alloc_lt _ _ _ (block_lt_of_cell this)]; exact this
  · rw [over_one] at e
    by_cases em : m = n
    · subst em
      rw [if_pos rfl] at e
      obtain rfl := Option.some.inj e
      refine ⟨w.heap.size, vs, ty, by simp, heap_alloc_new w _, hr.le hle, fun o => ?_, .inr ?_⟩
      · cases hk : g.K w.heap.size o with
        | none => rfl
        | some v => exact absurd (block_lt_of_cell (h.known _ _ _ hk)) (Nat.lt_irrefl _)
      · exact h.only.size
    · rw [if_neg em] at e
      obtain ⟨β, vs', ty', k1, k2, k3, k4, k5⟩ := h.blk m ds e2 e
      exact ⟨β, vs', ty', hle.j _ _ k1, by rw [Below.heap_alloc _ _ _ (h.blk_lt k1)]; exact k2, k3.le hle, k4, k5⟩
  · simp only at k1 k2
    by_cases em : m1 = n <;> by_cases em' : m2 = n
    · rw [em, em']
    · rw [if_pos em] at k1
      rw [if_neg em'] at k2
      have := h.blk_lt k2; obtain rfl := Option.some.inj k1; omega
    · rw [if_pos em'] at k2
      rw [if_neg em] at k1
      have := h.blk_lt k1; obtain rfl := Option.some.inj k2; omega
    · rw [if_neg em] at k1
      rw [if_neg em'] at k2
      exact h.inj m1 m2 β k1 k2
  · have em : m ≠ n := fun em => by
      subst em
      rcases e with e | e
      · rw [over_one, if_pos rfl] at e; cases e
      · omega
    show (if m = n then _ else _) = _
    rw [if_neg em]
    refine h.dom m (e.imp (fun e => ?_) id)
    rw [over_one, if_neg em] at e; exact e
  · obtain ⟨al, v, E, sz, k1, k2⟩ := h.tkt m cs' e1 (hmem m cs' e e1)
    refine ⟨al, v, E, sz, k1, fun ha => ?_⟩
    obtain ⟨τ, k3, k4⟩ := k2 ha
    refine ⟨τ, k3, fun β e cap ht => ?_⟩
    have O := k4 β e cap ht
    refine ⟨⟨?_, O.room, O.most, O.dark, fun q hq => ?_⟩, O.new⟩
    · obtain ⟨cur, fz, r1, r2⟩ := O.row
      exact ⟨cur, fz, by rw [Below.heap_alloc _ _ _ O.lt]; exact r1, r2⟩
    · simp only at hq
      by_cases em : q = n
      · rw [if_pos em] at hq; have := O.lt; obtain rfl := Option.some.inj hq; omega
      · rw [if_neg em] at hq; exact O.mine q hq
  · obtain ⟨e1, al, v', E, sz, k1, k2⟩ := h.tdom m v τ e
    refine ⟨e1, al, v', E, sz, ?_, k2⟩
    rw [over_one, if_neg (by omega)]; exact k1
  · have o1 := (h.tdom _ _ _ q3).1
    have o2 := (h.tdom _ _ _ q4).1
    exact h.tinj m1 m2 v v' E E' sz sz' β e e' cap cap' (hmem _ _ q1 o1) (hmem _ _ q2 o2) q3 q4
  · exact h.only.trans ⟨rfl, rfl, rfl, by simp, fun k hk _ => Below.heap_alloc w _ k hk⟩
/-- A block of one's own, written. -/
theorem Con.write (h : Con b N g fr mem a w) {n β : Nat} {cs : List C} {vs us : Array Value} {ty : TypeId} (hn : mem n ≠ none) (hj : g.j n = some β) (hb : w.heap[β]? = some (.cells vs ty (0, 0))) (hr : RepL g cs us.toList) :
    Con b N g fr (over [(n, cs)] mem) a (w.setRow β us) := by
  obtain ⟨q, hq⟩ : ∃ q, mem n = some q := Option.ne_none_iff_exists'.1 hn
  have h2 : n % 2 = 0 := by
    rcases Nat.mod_two_eq_zero_or_one n with e | e
    · exact e
    · rw [h.dom n (.inr e)] at hj; cases hj
  obtain ⟨β', vs', ty', k1, k2, k3, k4, k5⟩ := h.blk n q h2 hq
  obtain rfl := Option.some.inj (hj.symm.trans k1)
  have hmem : ∀ m cs', over [(n, cs)] mem m = some cs' → m % 2 = 1 → mem m = some cs' := fun m cs' e e1 => by
    rw [over_one, if_neg (by omega)] at e; exact e
  refine ⟨h.rep, h.defers, h.siz, fun β' o v e => ?_, fun m ds e2 e => ?_, h.inj, fun m e => ?_, fun m cs' e1 e => ?_, fun m v τ e => ?_, fun m1 m2 v v' E E' sz sz' β' e e' cap cap' q1 q2 q3 q4 => ?_, h.old, h.new, h.out, ?_, h.todd⟩
  · have e' := h.known β' o v e
    have : β' ≠ β := fun e2 => by subst e2; rw [k4] at e; cases e
    rw [← e']
    simp only [World.cell?]
    rw [setRow_other w β β' us this]
  · rw [over_one] at e
    by_cases em : m = n
    · subst em
      rw [if_pos rfl] at e
      obtain rfl := Option.some.inj e
      exact ⟨β, us, ty, hj, setRow_heap w β vs us ty _ hb, hr, k4, k5⟩
    · rw [if_neg em] at e
      obtain ⟨β', vs2, ty2, q1, q2, q3⟩ := h.blk m ds e2 e
      have : β' ≠ β := fun e2 => em (h.inj m n β (e2 ▸ q1) hj)
      exact ⟨β', vs2, ty2, q1, by rw [setRow_other w β β' us this]; exact q2, q3⟩
  · have em : m ≠ n ∨ m % 2 = 1 := by
      rcases e with e | e
      · refine .inl fun em => ?_
        rw [over_one, if_pos em] at e; cases e
      · exact .inr e
    by_cases em' : m = n
    · rcases em with em | em
      · exact absurd em' em
      · omega
    · refine h.dom m (e.imp (fun e => ?_) id)
      rw [over_one, if_neg em'] at e; exact e
  · obtain ⟨al, v, E, sz, r1, r2⟩ := h.tkt m cs' e1 (hmem m cs' e e1)
    refine ⟨al, v, E, sz, r1, fun ha => ?_⟩
    obtain ⟨τ, r3, r4⟩ := r2 ha
    refine ⟨τ, r3, fun β' e cap ht => ?_⟩
    have O := r4 β' e cap ht
    refine { O with row := ?_ }
    obtain ⟨cur, fz, s1, s2⟩ := O.row
    have : β' ≠ β := fun e2 => O.mine n (e2 ▸ hj)
    exact ⟨cur, fz, by rw [setRow_other w β β' us this]; exact s1, s2⟩
  · obtain ⟨e1, al, v', E, sz, r1, r2⟩ := h.tdom m v τ e
    refine ⟨e1, al, v', E, sz, ?_, r2⟩
    rw [over_one, if_neg (by omega)]; exact r1
  · have o1 := (h.tdom _ _ _ q3).1
    have o2 := (h.tdom _ _ _ q4).1
    exact h.tinj m1 m2 v v' E E' sz sz' β' e e' cap cap' (hmem _ _ q1 o1) (hmem _ _ q2 o2) q3 q4
  · refine ⟨h.only.os, h.only.tape, h.only.output, by simpa using h.only.size, fun k hk hm => ?_⟩
    have : k ≠ β := fun e => by
      subst e
      rcases k5 with k5 | k5
      · exact hm (.inl k5)
      · omega
    rw [setRow_other w β k us this]
    exact h.only.block k hk hm
/-- A ticket, used up. -/
theorem Con.kill (h : Con b N g fr mem a w) {n v E sz : Nat} {al : Bool} (hn : mem n = some [.tkt al v E sz]) (h1 : n % 2 = 1) : Con b N g fr (over [(n, [.tkt false v E sz])] mem) a w := by
  have hmem : ∀ m cs', over [(n, [.tkt false v E sz])] mem m = some cs' → m ≠ n → mem m = some cs' := fun m cs' e e1 => by
    rw [over_one, if_neg e1] at e; exact e
  refine { h with blk := fun m ds e2 e => h.blk m ds e2 (hmem m ds e (by omega)), dom := fun m e => ?_, tkt := fun m cs' e1 e => ?_, tdom := fun m v' τ e => ?_, tinj := fun m1 m2 v v' E E' sz sz' β' e e' cap cap' q1 q2 q3 q4 => ?_ }
  · refine h.dom m (e.imp (fun e => ?_) id)
    rw [over_one] at e
    by_cases em : m = n
    · rw [if_pos em] at e; cases e
    · rwa [if_neg em] at e
  · by_cases em : m = n
    · subst em
      rw [over_one, if_pos rfl] at e
      obtain rfl := Option.some.inj e
      exact ⟨false, v, E, sz, rfl, fun h => by cases h⟩
    · exact h.tkt m cs' e1 (hmem m cs' e em)
  · obtain ⟨e1, al', v2, E2, sz2, k1, k2⟩ := h.tdom m v' τ e
    refine ⟨e1, ?_⟩
    by_cases em : m = n
    · subst em
      rw [hn] at k1
      injection k1 with k1
      injection k1 with k1 _
      injection k1 with _ k1 _ _
      subst k1
      exact ⟨false, v, E, sz, by rw [over_one, if_pos rfl], k2⟩
    · exact ⟨al', v2, E2, sz2, by rw [over_one, if_neg em]; exact k1, k2⟩
  · have z1 : m1 ≠ n := fun em => by rw [over_one, if_pos em] at q1; cases q1
    have z2 : m2 ≠ n := fun em => by rw [over_one, if_pos em] at q2; cases q2
    exact h.tinj m1 m2 v v' E E' sz sz' β' e e' cap cap' (hmem _ _ q1 z1) (hmem _ _ q2 z2) q3 q4
/-- More cells are known, of a block that nobody else holds; the world has turned there alone. -/
theorem Con.know (h : Con b N g fr mem a w) {w' : World} {β : Nat} {us : List Value}
    (hos : w'.os = w.os) (htp : w'.tape = w.tape) (hou : w'.output = w.output) (hsz : w.heap.size ≤ w'.heap.size) (hh : ∀ k, k < w.heap.size → k ≠ β → w'.heap[k]? = w.heap[k]?)
    (hcells : ∀ o v, us[o]? = some v → w'.cell? ⟨β, o, none⟩ = some v) (hold : ∀ o v, g.K β o = some v → us[o]? = some v)
    (hj : ∀ m, g.j m ≠ some β) (hnew : b.T β ∨ b.w0.heap.size ≤ β)
    (hfree : ∀ n v E sz e cap, mem n = some [.tkt true v E sz] → g.th n v ≠ some (.own β e cap)) :
    ∃ g', g.le g' ∧ g'.j = g.j ∧ g'.th = g.th ∧ (∀ o v, us[o]? = some v → g'.K β o = some v) ∧ (∀ o, us.length ≤ o → g'.K β o = none) ∧ Con b N g' fr mem a w' := by
  let K' : Nat → Nat → Option Value := fun β' o => if β' = β then us[o]? else g.K β' o
  have hK' : ∀ o, K' β o = us[o]? := fun o => if_pos rfl
  have hKo : ∀ β' o, β' ≠ β → K' β' o = g.K β' o := fun β' o e => if_neg e
  have hle : g.le { g with K := K' } := ⟨fun β' o v e => by
    show K' β' o = some v
    by_cases eb : β' = β
    · subst eb; rw [hK']; exact hold o v e
    · rw [hKo _ _ eb]; exact e, fun _ _ e => e, fun _ _ _ e => e⟩
  refine ⟨{ g with K := K' }, hle, rfl, rfl, fun o v e => (hK' o).trans e, fun o e => (hK' o).trans (List.getElem?_eq_none e), ?_⟩
  refine ⟨fun t => (h.rep t).le hle, h.defers, h.siz, fun β' o v e => ?_, fun m ds e2 e => ?_, h.inj, h.dom, fun m cs' e1 e => ?_, h.tdom, h.tinj, fun β' o v e => hle.K _ _ _ (h.old _ _ _ e), fun β' o v e => ?_, h.out, ?_, h.todd⟩
  · have e : K' β' o = some v := e
    by_cases eb : β' = β
    · subst eb; rw [hK'] at e; exact hcells o v e
    · rw [hKo _ _ eb] at e
      have := h.known β' o v e
      rw [← this]
      simp only [World.cell?]
      rw [hh β' (block_lt_of_cell this) eb]
  · obtain ⟨β', vs, ty, k1, k2, k3, k4, k5⟩ := h.blk m ds e2 e
    have eb : β' ≠ β := fun eb => hj m (eb ▸ k1)
    refine ⟨β', vs, ty, k1, by rw [hh β' (h.blk_lt k1) eb]; exact k2, k3.le hle, fun o => ?_, k5⟩
    show K' β' o = none
    rw [hKo _ _ eb]; exact k4 o
  · obtain ⟨al, v, E, sz, k1, k2⟩ := h.tkt m cs' e1 e
    refine ⟨al, v, E, sz, k1, fun ha => ?_⟩
    obtain ⟨τ, k3, k4⟩ := k2 ha
    refine ⟨τ, k3, fun β' e' cap ht => ?_⟩
    have O := k4 β' e' cap ht
    have eb : β' ≠ β := fun eb => by
      subst eb; subst ht; subst ha
      rw [k1] at e
      exact hfree m v E sz e' cap e k3
    refine ⟨⟨?_, O.room, O.most, fun o ho => ?_, O.mine⟩, O.new⟩
    · obtain ⟨cur, fz, r1, r2⟩ := O.row
      exact ⟨cur, fz, by rw [hh β' O.lt eb]; exact r1, r2⟩
    · show K' β' o = none
      rw [hKo _ _ eb]; exact O.dark o ho
  · have e : K' β' o = some v := e
    by_cases eb : β' = β
    · subst eb; exact .inr hnew
    · rw [hKo _ _ eb] at e; exact h.new β' o v e
  · refine ⟨hos.trans h.only.os, htp.trans h.only.tape, hou.trans h.only.output, Nat.le_trans h.only.size hsz, fun k hk hm => ?_⟩
    have : k ≠ β := fun e => by
      subst e
      rcases hnew with k5 | k5
      · exact hm (.inr k5)
      · omega
    rw [hh k (Nat.lt_of_lt_of_le hk h.only.size) this]
    exact h.only.block k hk hm
/-- A new ticket. -/
theorem Con.ticket (h : Con b N g fr mem a w) {n v E sz : Nat} {τ : Tk} (h1 : n % 2 = 1) (hn : mem n = none ∨ ∃ al v' E' sz', mem n = some [.tkt al v' E' sz'] ∧ v' < v)
    (ho : v % 2 = 1 → ∃ β e cap, τ = .own β e cap) (hτ : ∀ β e cap, τ = .own β e cap → OwnAt g b w β e cap E sz) (hfree : ∀ β e cap, τ = .own β e cap → ∀ m v E sz e' cap', m ≠ n → mem m = some [.tkt true v E sz] → g.th m v ≠ some (.own β e' cap')) :
    ∃ g', g.le g' ∧ g'.j = g.j ∧ g'.K = g.K ∧ g'.th n v = some τ ∧ Con b N g' fr (over [(n, [.tkt true v E sz])] mem) a w := by
  have hnone : g.th n v = none := by
    cases ht : g.th n v with
    | none => rfl
    | some τ' =>
      obtain ⟨_, al, v', E', sz', k1, k2⟩ := h.tdom n v τ' ht
      rcases hn with e1 | ⟨al2, v2, E2, sz2, e1, e2⟩
      · rw [e1] at k1; cases k1
      · rw [e1] at k1
        injection k1 with k1
        injection k1 with k1 _
        injection k1 with _ k1 _ _
        omega
  have hle : g.le { g with th := fun m v' => if m = n ∧ v' = v then some τ else g.th m v' } := ⟨fun _ _ _ e => e, fun _ _ e => e, fun m v' τ' e => by
    show (if m = n ∧ v' = v then _ else _) = _
    rw [if_neg (fun e' => by rw [e'.1, e'.2, hnone] at e; cases e)]; exact e⟩
  have hmem : ∀ m cs', over [(n, [.tkt true v E sz])] mem m = some cs' → m ≠ n → mem m = some cs' := fun m cs' e e1 => by
    rw [over_one, if_neg e1] at e; exact e
  have tho : ∀ m v', m ≠ n → (if m = n ∧ v' = v then some τ else g.th m v') = g.th m v' := fun m v' e => if_neg (fun e' => e e'.1)
  refine ⟨{ g with th := fun m v' => if m = n ∧ v' = v then some τ else g.th m v' }, hle, rfl, rfl, by simp, ?_⟩
  refine ⟨fun t => (h.rep t).le hle, h.defers, h.siz, h.known, fun m ds e2 e => ?_, h.inj, fun m e => ?_, fun m cs' e1 e => ?_, fun m v' τ' e => ?_, fun m1 m2 v1 v2 E1 E2 sz1 sz2 β e e' cap cap' q1 q2 q3 q4 => ?_, h.old, h.new, h.out, h.only, fun m v' τ' e ho' => ?_⟩
  · obtain ⟨β, vs, ty, k1, k2, k3, k4, k5⟩ := h.blk m ds e2 (hmem m ds e (by omega))
    exact ⟨β, vs, ty, k1, k2, k3.le hle, k4, k5⟩
  · refine h.dom m (e.imp (fun e => ?_) id)
    rw [over_one] at e
    by_cases em : m = n
    · rw [if_pos em] at e; cases e
    · rwa [if_neg em] at e
  · by_cases em : m = n
    · subst em
      rw [over_one, if_pos rfl] at e
      obtain rfl := Option.some.inj e
      refine ⟨true, v, E, sz, rfl, fun _ => ⟨τ, by simp, fun β e cap ht => ?_⟩⟩
      have O := hτ β e cap ht
      exact ⟨⟨O.row, O.room, O.most, O.dark, O.mine⟩, O.new⟩
    · obtain ⟨al, v', E', sz', k1, k2⟩ := h.tkt m cs' e1 (hmem m cs' e em)
      refine ⟨al, v', E', sz', k1, fun ha => ?_⟩
      obtain ⟨τ', k3, k4⟩ := k2 ha
      refine ⟨τ', (tho m v' em).trans k3, fun β e cap ht => ?_⟩
      have O := k4 β e cap ht
      exact ⟨⟨O.row, O.room, O.most, O.dark, O.mine⟩, O.new⟩
  · by_cases em : m = n
    · subst em
      refine ⟨h1, true, v, E, sz, by rw [over_one, if_pos rfl], ?_⟩
      simp only at e
      by_cases ev' : v' = v
      · omega
      · rw [if_neg (fun e' => ev' e'.2)] at e
        obtain ⟨_, al, v2, E2, sz2, k1, k2⟩ := h.tdom m v' τ' e
        rcases hn with e1 | ⟨al2, v3, E3, sz3, e1, e2⟩
        · rw [e1] at k1; cases k1
        · rw [e1] at k1
          injection k1 with k1
          injection k1 with k1 _
          injection k1 with _ k1 _ _
          omega
    · simp only at e
      rw [tho m v' em] at e
      obtain ⟨e1, al, v2, E2, sz2, k1, k2⟩ := h.tdom m v' τ' e
      exact ⟨e1, al, v2, E2, sz2, by rw [over_one, if_neg em]; exact k1, k2⟩
  · simp only at q3 q4
    by_cases em1 : m1 = n <;> by_cases em2 : m2 = n
    · rw [em1, em2]
    · exfalso
      subst em1
      rw [over_one, if_pos rfl] at q1
      injection q1 with q1
      injection q1 with q1 _
      injection q1 with _ q1 _ _
      subst q1
      rw [if_pos ⟨rfl, rfl⟩] at q3
      rw [tho m2 v2 em2] at q4
      exact hfree β e cap (Option.some.inj q3) m2 v2 E2 sz2 e' cap' em2 (hmem _ _ q2 em2) q4
    · exfalso
      subst em2
      rw [over_one, if_pos rfl] at q2
      injection q2 with q2
      injection q2 with q2 _
      injection q2 with _ q2 _ _
      subst q2
      rw [if_pos ⟨rfl, rfl⟩] at q4
      rw [tho m1 v1 em1] at q3
      exact hfree β e' cap' (Option.some.inj q4) m1 v1 E1 sz1 e cap em1 (hmem _ _ q1 em1) q3
    · rw [tho m1 v1 em1] at q3
      rw [tho m2 v2 em2] at q4
      exact h.tinj m1 m2 v1 v2 E1 E2 sz1 sz2 β e e' cap cap' (hmem _ _ q1 em1) (hmem _ _ q2 em2) q3 q4
  · simp only at e
    by_cases em : m = n ∧ v' = v
    · rw [if_pos em] at e
      obtain rfl := Option.some.inj e
      obtain ⟨rfl, rfl⟩ := em
      exact ho ho'
    · rw [if_neg em] at e
      exact h.todd m v' τ' e ho'
end
end Go.Proofs.YtmdnnlfoljdfpaaDoor.Mir
