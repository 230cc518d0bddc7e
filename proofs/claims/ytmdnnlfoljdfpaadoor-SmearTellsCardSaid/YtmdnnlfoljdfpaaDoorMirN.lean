/- The mirror's '==' on structs and arrays. Nothing here names the program. -/
import Derived.Test.YtmdnnlfoljdfpaaDoorMirM
namespace Go.Proofs.YtmdnnlfoljdfpaaDoor.Mir
open Go Go.RowKit

def eqC : C → C → Option Bool
  | .lit (.int k a), .lit (.int k' b) => bif decide (k = k') then some (a == b) else none
  | .lit (.bool a), .lit (.bool b) => some (a == b)
  | .lit (.string a), .lit (.string b) => some (a.toList == b.toList)
  | .arr k n xs, .arr k' n' ys => bif decide (k = k') && Nat.beq n n' then some (xs == ys) else none
  | _, _ => none
def eqL : List C → List C → Option Bool
  | [], [] => some true
  | [c], [d] => eqC c d
  | c :: c' :: cs, d :: d' :: ds => match eqC c d, eqL (c' :: cs) (d' :: ds) with
    | some a, some b => some (a && b)
    | _, _ => none
  | _, _ => none
def leafEq : Value → Value → Bool
  | .int _ a, .int _ b => a == b
  | .bool a, .bool b => a == b
  | .string a, .string b => a.toList == b.toList
  | _, _ => false
def all2 : List Value → List Value → Bool
  | [], [] => true
  | a :: as, b :: bs => leafEq a b && all2 as bs
  | _, _ => false
def Fit1 : Sh → List Value → Prop
  | .int k, us => ∃ n, us = [.int k n]
  | .bool, us => ∃ b, us = [.bool b]
  | .str, us => ∃ s, us = [.string s]
  | .arr k n, us => ∃ xs : List Int, xs.length = n ∧ us = xs.map (Value.int k)
  | _, _ => False
def Fit : List Sh → List Value → Prop
  | [], us => us = []
  | s :: r, us => ∃ a b, us = a ++ b ∧ Fit1 s a ∧ Fit r b
def eqShF (P : Program) (f : TypeId → Option (List Sh)) : List Field → Nat → Option (List Sh)
  | [], _ => some []
  | fd :: r, o => if fd.name = "_" then none else if fd.offset = o then (match f fd.type, P.info? fd.type with
    | some l, some i => if i.size = widSL l then (match eqShF P f r (o + widSL l) with | some q => some (l ++ q) | none => none) else none
    | _, _ => none) else none
def eqSh (P : Program) : Nat → TypeId → Option (List Sh)
  | 0, _ => none
  | d + 1, t => match P.underlying t with
    | some .bool => some [.bool]
    | some (.int k) => some [.int k]
    | some .string => some [.str]
    | some (.array n e) => (match P.underlying e, P.info? e with
      | some (.int k), some i => if i.size = 1 then some [.arr k n] else none
      | _, _ => none)
    | some (.struct fs) => if P.stoodInHeld t then none else eqShF P (eqSh P d) fs.toList 0
    | _ => none
theorem Fit1.len {s : Sh} {us : List Value} (h : Fit1 s us) : us.length = widS s := by
  cases s <;> simp only [Fit1] at h <;> first
    | (obtain ⟨n, rfl⟩ := h; rfl)
    | (obtain ⟨xs, h1, rfl⟩ := h; simp [widS, h1])
    | exact h.elim
theorem Fit.len : ∀ {l : List Sh} {us : List Value}, Fit l us → us.length = widSL l
  | [], us, h => by simp only [Fit] at h; simp [h, widSL]
  | s :: r, us, ⟨a, b, h1, h2, h3⟩ => by subst h1; simp [widSL, h2.len, h3.len]
theorem Fit.split : ∀ {l q : List Sh} {us : List Value}, Fit (l ++ q) us → ∃ a b, us = a ++ b ∧ Fit l a ∧ Fit q b
  | [], q, us, h => ⟨[], us, rfl, rfl, h⟩
  | s :: r, q, us, ⟨a, b, h1, h2, h3⟩ => by
    obtain ⟨c, d, h4, h5, h6⟩ := h3.split
    subst h4; subst h1
    exact ⟨a ++ c, d, by simp, ⟨a, c, rfl, h2, h5⟩, h6⟩
theorem all2_append : ∀ {a c b d : List Value}, a.length = c.length → all2 (a ++ b) (c ++ d) = (all2 a c && all2 b d)
  | [], [], b, d, _ => by simp [all2]
  | [], _ :: _, _, _, h => by simp at h
  | _ :: _, [], _, _, h => by simp at h
  | x :: a, y :: c, b, d, h => by
    simp only [List.cons_append, all2]
    rw [all2_append (by simpa using h), Bool.and_assoc]
theorem all2_ints (k k' : IntKind) : ∀ {xs ys : List Int}, xs.length = ys.length → all2 (xs.map (Value.int k)) (ys.map (Value.int k')) = (xs == ys)
  | [], [], _ => rfl
  | [], _ :: _, h => by simp at h
  | _ :: _, [], h => by simp at h
  | x :: xs, y :: ys, h => by
    simp only [List.map_cons, all2, leafEq]
    rw [all2_ints k k' (by simpa using h)]
    rfl
section
variable {P : Program} {w : World}
/-- A value of a type, out of its cells. -/
def valD (t : TypeId) (P : Program) (us : List Value) : Value := match P.underlying t with
  | some (.struct _) => .agg us.toArray
  | some (.array _ _) => .agg us.toArray
  | _ => us.headD .nilIface
theorem part_at {t : TypeId} {i : TypeInfo} {l : List Sh} (hi : P.info? t = some i) (hu : (P.underlying t).isSome = true) (hs : i.size = widSL l) (a b c : List Value) (hb : Fit l b) (hn : (∀ fs, P.underlying t ≠ some (.struct fs)) → (∀ n e, P.underlying t ≠ some (.array n e)) → b.length = 1) :
    (part t (a ++ (b ++ c)).toArray a.length).run P w = .ok (valD t P b) w := by
  obtain ⟨d, hd⟩ := Option.isSome_iff_exists.1 hu
  have hl := hb.len
  have agg : (isAgg t).run P w = .ok (match d with | .struct _ | .array _ _ => true | _ => false) w := by
    unfold isAgg
    rw [Sem.run_bind, run_underlying hd]
    simp only [Result.andThen_ok]
    cases d <;> rfl
  have ext : (a ++ (b ++ c)).toArray.extract a.length (a.length + i.size) = b.toArray := by rw [hs, ← hl, extract_mid]
  unfold part
  rw [Sem.run_bind, agg]
  simp only [Result.andThen_ok]
  cases d with
  | struct fs => simp only [if_true, Sem.run_bind, sizeOf, typeInfo, run_program, hi, Sem.run_pure, Result.andThen_ok, valD, hd, ext]
  | array n e => simp only [if_true, Sem.run_bind, sizeOf, typeInfo, run_program, hi, Sem.run_pure, Result.andThen_ok, valD, hd, ext]
  | _ =>
    have h1 := hn (fun fs h => by rw [hd] at h; cases h) (fun n e h => by rw [hd] at h; cases h)
    obtain ⟨x, rfl⟩ := List.length_eq_one_iff.1 h1
    have := get_mid a c x
    simp only [Bool.false_eq_true, if_false, this, Sem.run_pure, valD, hd, List.headD_cons]
theorem eqSh_one {d : Nat} {t : TypeId} {l : List Sh} (h : eqSh P d t = some l) : (P.underlying t).isSome = true ∧ ((∀ fs, P.underlying t ≠ some (.struct fs)) → (∀ n e, P.underlying t ≠ some (.array n e)) → ∀ us, Fit l us → us.length = 1) := by
  cases d with
  | zero => cases h
  | succ d =>
    unfold eqSh at h
    split at h <;> rename_i hu
    · obtain rfl := Option.some.inj h
      exact ⟨by rw [hu]; rfl, fun _ _ us hf => hf.len⟩
    · obtain rfl := Option.some.inj h
      exact ⟨by rw [hu]; rfl, fun _ _ us hf => hf.len⟩
    · obtain rfl := Option.some.inj h
      exact ⟨by rw [hu]; rfl, fun _ _ us hf => hf.len⟩
    · exact ⟨by rw [hu]; rfl, fun _ h2 => (h2 _ _ hu).elim⟩
    · exact ⟨by rw [hu]; rfl, fun h1 => (h1 _ hu).elim⟩
    · cases h
theorem arr_eq (D : Nat) {t e : TypeId} {n : Nat} {k : IntKind} {i : TypeInfo} {xs ys : List Int} (ht : P.underlying t = some (.array n e)) (he : P.underlying e = some (.int k)) (hi : P.info? e = some i) (hs : i.size = 1)
    (hx : xs.length = n) (hy : ys.length = n) : (Op.equalIn (D + 2) t (.agg (xs.map (Value.int k)).toArray) (.agg (ys.map (Value.int k)).toArray)).run P w = .ok (xs == ys) w := by
  have hp : ∀ (xs : List Int) (j : Nat), j < xs.length → (part e (xs.map (Value.int k)).toArray j).run P w = .ok (.int k (xs.getD j 0)) w := by
    intro xs j hj
    simp only [part, isAgg, Sem.run_bind, run_underlying he, Result.andThen_ok, Sem.run_pure, Bool.false_eq_true, if_false]
    simp [hj, List.getD_eq_getElem?_getD]
  have hq : ∀ a b : Int, (Op.equalIn (D + 1) e (.int k a) (.int k b)).run P w = .ok (a == b) w := fun a b => run_equalIn_int w D e k k a b he
  have hsz : (sizeOf e).run P w = .ok 1 w := by simp [sizeOf, typeInfo, hi, hs]
  rw [Op.equalIn]
  simp only [Sem.run_bind, run_underlying ht, Result.andThen_ok, hsz]
  rw [Std.Legacy.Range.forIn_eq_forIn_range']
  simp only [Std.Legacy.Range.size]
  have key : ∀ l : List Nat, (∀ i ∈ l, i < n) → (Sem.run P (forIn l ((none : Option Bool), ()) fun i (_ : Option Bool × Unit) => do
            let a ← part e (xs.map (Value.int k)).toArray (i * 1)
            let b ← part e (ys.map (Value.int k)).toArray (i * 1)
            let c ← Op.equalIn (D + 1) e a b
            if (!c) = true then pure (ForInStep.done (some false, ())) else pure (ForInStep.yield (none, ()))) w) = .ok (if l.all (fun i => xs.getD i 0 == ys.getD i 0) then (none, ()) else (some false, ())) w := by
    intro l
    induction l with
    | nil => intro _; simp
    | cons j l ih =>
      intro hl
      have hj := hl j (by simp)
      simp only [List.forIn_cons, Sem.run_bind, Nat.mul_one, hp xs j (by omega), hp ys j (by omega), Result.andThen_ok, hq]
      cases hfg : (xs.getD j 0 == ys.getD j 0)
      · have hall : (j :: l).all (fun i => xs.getD i 0 == ys.getD i 0) = false := by rw [List.all_cons, hfg]; rfl
        rw [hall]; rfl
      · simp only [Bool.not_true, Bool.false_eq_true, if_false, Sem.run_pure, Result.andThen_ok, List.all_cons, hfg, Bool.true_and]
        simpa using ih (fun i hi => hl i (by simp [hi]))
  rw [key _ (by simp [List.mem_range'])]
  simp only [Result.andThen_ok]
  have e1 : (List.range' 0 (n - 0) 1).all (fun i => xs.getD i 0 == ys.getD i 0) = (xs == ys) := by
    rw [Nat.sub_zero, Bool.eq_iff_iff, List.all_eq_true, beq_iff_eq]
    constructor
    · intro h
      apply List.ext_getElem (by omega)
      intro i h1 h2
      have := eq_of_beq (h i (by simp [List.mem_range'_1]; omega))
      simpa [List.getD_eq_getElem?_getD, h1, h2] using this
    · rintro rfl i _
      simp
  have e2 : (n - 0 + 1 - 1) / 1 = n - 0 := by simp
  rw [e2, e1]
  cases (xs == ys) <;> rfl
theorem eq_ok : ∀ (d : Nat) (t : TypeId) (l : List Sh), eqSh P d t = some l → ∀ (D : Nat), d < D → ∀ us vs, Fit l us → Fit l vs → (Op.equalIn D t (valD t P us) (valD t P vs)).run P w = .ok (all2 us vs) w := by
  intro d
  induction d with
  | zero => intro t l h; cases h
  | succ d ih =>
    intro t l h D hD us vs hu hv
    obtain ⟨D, rfl⟩ : ∃ q, D = q + 1 := ⟨D - 1, by omega⟩
    unfold eqSh at h
    split at h <;> rename_i hut
    · obtain rfl := Option.some.inj h
      obtain ⟨_, _, rfl, ⟨x, rfl⟩, rfl⟩ := hu
      obtain ⟨_, _, rfl, ⟨y, rfl⟩, rfl⟩ := hv
      simp only [valD, hut]
      simpa [all2, leafEq] using run_equalIn_bool w D t x y hut
    · rename_i k
      obtain rfl := Option.some.inj h
      obtain ⟨_, _, rfl, ⟨x, rfl⟩, rfl⟩ := hu
      obtain ⟨_, _, rfl, ⟨y, rfl⟩, rfl⟩ := hv
      simp only [valD, hut]
      simpa [all2, leafEq] using run_equalIn_int w D t k k x y hut
    · obtain rfl := Option.some.inj h
      obtain ⟨_, _, rfl, ⟨x, rfl⟩, rfl⟩ := hu
      obtain ⟨_, _, rfl, ⟨y, rfl⟩, rfl⟩ := hv
      simp only [valD, hut]
      simpa [all2, leafEq] using run_equalIn_string w D t x y hut
    · rename_i n e
      split at h
      · rename_i k i he hi
        split at h
        · rename_i hs
          obtain rfl := Option.some.inj h
          obtain ⟨_, _, rfl, ⟨xs, hx, rfl⟩, rfl⟩ := hu
          obtain ⟨_, _, rfl, ⟨ys, hy, rfl⟩, rfl⟩ := hv
          simp only [valD, hut, List.append_nil]
          obtain ⟨D, rfl⟩ : ∃ q, D = q + 1 := ⟨D - 1, by omega⟩
          rw [arr_eq D hut he hi hs hx hy, all2_ints k k (by omega)]
        · cases h
      · cases h
    · rename_i fs
      split at h
      · cases h
      · rename_i hst
        have hst' : P.stoodInHeld t = false := by simpa using hst
        have hfo : P.underlying t = some (.struct (P.fieldsOf t)) := by rw [hut]; simp [Program.fieldsOf, hut]
        have hfs : P.fieldsOf t = fs := by simp [Program.fieldsOf, hut]
        simp only [valD, hut]
        rw [run_equalIn_struct w D t us.toArray vs.toArray hfo hst', hfs]
        have key : ∀ (fl : List Field) (o : Nat) (l : List Sh), eqShF P (eqSh P d) fl o = some l → ∀ (a b : List Value), a.length = o → b.length = o → ∀ us vs, Fit l us → Fit l vs →
            (Op.eqFields D (a ++ us).toArray (b ++ vs).toArray fl).run P w = .ok (all2 us vs) w := by
          intro fl
          induction fl with
          | nil =>
            intro o l h a b _ _ us vs hu hv
            obtain rfl := (Option.some.inj h).symm
            obtain rfl : us = [] := hu
            obtain rfl : vs = [] := hv
            rfl
          | cons fd r ihf =>
            intro o l h a b ha hb us vs hu hv
            unfold eqShF at h
            split at h
            · cases h
            · rename_i hn
              split at h
              · rename_i ho
                split at h
                · rename_i l1 i e1 e2
                  split at h
                  · rename_i hs
                    split at h
                    · rename_i q e3
                      obtain rfl := (Option.some.inj h).symm
                      obtain ⟨u1, u2, rfl, f1, f2⟩ := hu.split
                      obtain ⟨v1, v2, rfl, g1, g2⟩ := hv.split
                      obtain ⟨s1, s2⟩ := eqSh_one e1
                      have p1 := part_at (w := w) e2 s1 hs a u1 u2 f1 (fun h1 h2 => s2 h1 h2 _ f1)
                      have p2 := part_at (w := w) e2 s1 hs b v1 v2 g1 (fun h1 h2 => s2 h1 h2 _ g1)
                      rw [ha] at p1
                      rw [hb] at p2
                      unfold Op.eqFields
                      rw [if_pos hn, ho, Sem.run_bind, p1]
                      simp only [Result.andThen_ok]
                      rw [Sem.run_bind, p2]
                      simp only [Result.andThen_ok]
                      rw [Sem.run_bind, ih fd.type l1 e1 D (by omega) u1 v1 f1 g1]
                      simp only [Result.andThen_ok]
                      rw [all2_append (by rw [f1.len, g1.len])]
                      cases all2 u1 v1 with
                      | false => rfl
                      | true =>
                        simp only [Bool.not_true, Bool.false_eq_true, if_false, Bool.true_and]
                        have := ihf (o + widSL l1) q e3 (a ++ u1) (b ++ v1) (by simp [ha, f1.len]) (by simp [hb, g1.len]) u2 v2 f2 g2
                        simpa using this
                    · cases h
                  · cases h
                · cases h
              · cases h
        have := key fs.toList 0 l h [] [] rfl rfl us vs hu hv
        simpa using this
    · cases h
theorem eqC_fit {g : Gh} {c d : C} {r : Bool} {us vs : List Value} (h : eqC c d = some r) (hu : RepL g [c] us) (hv : RepL g [d] vs) : us.length = vs.length ∧ all2 us vs = r := by
  unfold eqC at h
  split at h
  · rename_i k a k' b
    cases hk : decide (k = k') with
    | false => rw [hk] at h; cases h
    | true =>
      rw [hk] at h
      obtain rfl := Option.some.inj h
      obtain ⟨_, _, rfl, rfl, rfl⟩ := hu
      obtain ⟨_, _, rfl, rfl, rfl⟩ := hv
      simp [all2, leafEq]
  · obtain rfl := Option.some.inj h
    obtain ⟨_, _, rfl, rfl, rfl⟩ := hu
    obtain ⟨_, _, rfl, rfl, rfl⟩ := hv
    simp [all2, leafEq]
  · obtain rfl := Option.some.inj h
    obtain ⟨_, _, rfl, rfl, rfl⟩ := hu
    obtain ⟨_, _, rfl, rfl, rfl⟩ := hv
    simp [all2, leafEq]
  · rename_i k n xs k' n' ys
    cases hk : (decide (k = k') && Nat.beq n n') with
    | false => rw [hk] at h; cases h
    | true =>
      rw [hk] at h
      simp only [Bool.and_eq_true] at hk
      obtain rfl := Option.some.inj h
      obtain rfl := Nat.eq_of_beq_eq_true hk.2
      obtain ⟨r1, h1, rfl, h2⟩ := hu
      obtain ⟨r2, h3, rfl, h4⟩ := hv
      simp only [RepL] at h2 h4
      subst h2; subst h4
      simp only [List.append_nil]
      exact ⟨by simp [h1, h3], all2_ints k k' (by omega)⟩
  · cases h
theorem eqL_fit {g : Gh} : ∀ {cs ds : List C} {r : Bool} {us vs : List Value}, eqL cs ds = some r → RepL g cs us → RepL g ds vs → all2 us vs = r
  | [], [], r, us, vs, h, hu, hv => by
    simp only [RepL] at hu hv; subst hu; subst hv
    exact Option.some.inj h
  | [c], [d], r, us, vs, h, hu, hv => (eqC_fit h hu hv).2
  | c :: c' :: cs, d :: d' :: ds, r, us, vs, h, hu, hv => by
    unfold eqL at h
    split at h
    · rename_i x y e1 e2
      obtain rfl := Option.some.inj h
      obtain ⟨u1, u2, rfl, _, f1, f2⟩ := hu.cons
      obtain ⟨v1, v2, rfl, _, g1, g2⟩ := hv.cons
      obtain ⟨h1, h2⟩ := eqC_fit e1 f1 g1
      rw [all2_append h1, h2, eqL_fit e2 f2 g2]
    · cases h
  | [], _ :: _, _, _, _, h, _, _ => by simp [eqL] at h
  | _ :: _, [], _, _, _, h, _, _ => by simp [eqL] at h
  | [_], _ :: _ :: _, _, _, _, h, _, _ => by simp [eqL] at h
  | _ :: _ :: _, [_], _, _, _, h, _, _ => by simp [eqL] at h
/-- The shapes that two rows of cells have. -/
def shC : C → Option Sh
  | .lit (.int k _) => some (.int k)
  | .lit (.bool _) => some .bool
  | .lit (.string _) => some .str
  | .arr k n _ => some (.arr k n)
  | _ => none
def shEq : Sh → Sh → Bool
  | .int k, .int k' => decide (k = k')
  | .bool, .bool => true
  | .str, .str => true
  | .arr k n, .arr k' n' => decide (k = k') && Nat.beq n n'
  | _, _ => false
def fitsL : List C → List Sh → Bool
  | [], [] => true
  | c :: cs, s :: ss => (match shC c with | some s' => shEq s' s | none => false) && fitsL cs ss
  | _, _ => false
theorem fitsL_fit {g : Gh} : ∀ {cs : List C} {l : List Sh} {us : List Value}, fitsL cs l = true → RepL g cs us → Fit l us
  | [], [], us, _, h => h
  | [], _ :: _, _, h, _ => by cases h
  | _ :: _, [], _, h, _ => by cases h
  | c :: cs, s :: ss, us, h, hu => by
    simp only [fitsL, Bool.and_eq_true] at h
    obtain ⟨u1, u2, rfl, _, f1, f2⟩ := hu.cons
    refine ⟨u1, u2, rfl, ?_, fitsL_fit h.2 f2⟩
    have h1 := h.1
    split at h1
    · rename_i s' e
      unfold shC at e
      split at e
      · obtain rfl := Option.some.inj e
        cases s <;> simp only [shEq] at h1 <;> try cases h1
        obtain rfl := of_decide_eq_true h1
        obtain ⟨_, _, rfl, rfl, rfl⟩ := f1
        exact ⟨_, rfl⟩
      · obtain rfl := Option.some.inj e
        cases s <;> simp only [shEq] at h1 <;> try cases h1
        obtain ⟨_, _, rfl, rfl, rfl⟩ := f1
        exact ⟨_, rfl⟩
      · obtain rfl := Option.some.inj e
        cases s <;> simp only [shEq] at h1 <;> try cases h1
        obtain ⟨_, _, rfl, rfl, rfl⟩ := f1
        exact ⟨_, rfl⟩
      · obtain rfl := Option.some.inj e
        cases s <;> simp only [shEq] at h1 <;> try cases h1
        simp only [Bool.and_eq_true] at h1
        obtain rfl := of_decide_eq_true h1.1
        obtain rfl := Nat.eq_of_beq_eq_true h1.2
        obtain ⟨r1, q1, rfl, q2⟩ := f1
        simp only [RepL] at q2
        subst q2
        exact ⟨_, q1, by simp⟩
      · cases e
    · cases h1
/-- '==' at a type: its shapes, and the cells of both fit. -/
def eqQ (l : List Sh) (xs ys : List C) : Option Bool := bif fitsL xs l && fitsL ys l then eqL xs ys else none
theorem eqQ_ok {t : TypeId} {l : List Sh} {d : Nat} (hs : eqSh P d t = some l) (hd : d < 10000) (hg : P.eqGuardType P.depth t = false) (ha : (match P.underlying t with | some (.struct _) | some (.array _ _) => true | _ => false) = true) : EqOk P t (eqQ l) := by
  intro g xs ys b us vs w h hu hv
  refine ⟨hg, ?_⟩
  unfold eqQ at h
  cases hk : (fitsL xs l && fitsL ys l) with
  | false => rw [hk] at h; cases h
  | true =>
    rw [hk] at h
    simp only [Bool.and_eq_true] at hk
    have := eq_ok (P := P) (w := w) d t l hs 10000 hd us vs (fitsL_fit hk.1 hu) (fitsL_fit hk.2 hv)
    rw [eqL_fit h hu hv] at this
    have e : ∀ us : List Value, valD t P us = .agg us.toArray := fun us => by
      unfold valD
      split at ha
      · rfl
      · rfl
      · cases ha
    rw [e, e] at this
    exact this
end
end Go.Proofs.YtmdnnlfoljdfpaaDoor.Mir
