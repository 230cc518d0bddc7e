/- The mirror's operations are right: those that only reckon. Nothing here names the program. -/
import Derived.Test.YtmdnnlfoljdfpaaDoorMirC
namespace Go.Proofs.YtmdnnlfoljdfpaaDoor.Mir
open Go Go.RowKit

def concL : List C → Option (List Value)
  | [] => some []
  | .lit v :: r => (concL r).map (v :: ·)
  | .arr k n xs :: r => if xs.length = n then (concL r).map (xs.map (Value.int k) ++ ·) else none
  | .err _ none :: r => (concL r).map (Value.nilIface :: ·)
  | _ :: _ => none
theorem rep_conc (g : Gh) : ∀ {cs : List C} {vs : List Value}, concL cs = some vs → RepL g cs vs
  | [], vs, h => (Option.some.inj h).symm
  | c :: cs, vs, h => by
    unfold concL at h
    split at h
    · rename_i e; cases e
    · rename_i v r e
      obtain ⟨rfl, rfl⟩ := List.cons.inj e
      obtain ⟨us, h1, rfl⟩ := Option.map_eq_some_iff.1 h
      exact ⟨_, us, rfl, rfl, rep_conc g h1⟩
    · rename_i k n xs r e
      obtain ⟨rfl, rfl⟩ := List.cons.inj e
      split at h
      · rename_i hl
        obtain ⟨us, h1, rfl⟩ := Option.map_eq_some_iff.1 h
        exact ⟨us, hl, rfl, rep_conc g h1⟩
      · cases h
    · rename_i t r e
      obtain ⟨rfl, rfl⟩ := List.cons.inj e
      obtain ⟨us, h1, rfl⟩ := Option.map_eq_some_iff.1 h
      exact ⟨_, us, rfl, rfl, rep_conc g h1⟩
    · cases h
/-- The table of types is the program's. -/
structure TyOk (P : Program) (ty : TypeId → Option TI) : Prop where
  und : ∀ t i, ty t = some i → P.underlying t = some i.desc
  fields : ∀ t i fs, ty t = some i → i.desc = .struct fs → ∀ f ∈ fs.toList, (P.info? f.type).isSome = true
  inf : ∀ t i, ty t = some i → ∃ f z, P.info? t = some f ∧ f.size = i.size ∧ f.bytes = i.bytes ∧ f.zero = some z ∧ concL i.zero = some z.cells.toList
def EqOk (P : Program) (t : TypeId) (q : List C → List C → Option Bool) : Prop :=
  ∀ g xs ys b us vs w, q xs ys = some b → RepL g xs us → RepL g ys vs → P.eqGuardType P.depth t = false ∧ (Op.equal t (.agg us.toArray) (.agg vs.toArray)).run P w = .ok b w

/-- It reckons: the result, and nothing else. -/
def Pure (P : Program) (w : World) (g : Gh) (d : Delta) (s : Sem Value) : Prop := ∃ x, s.run P w = .ok x w ∧ RepV g d.v x ∧ d.wr = []
section
variable {P : Program} {w : World} {g : Gh} {d : Delta}
theorem pval_inv {v : V} (h : (pval v).run some = some d) : d = ⟨v, [], []⟩ := (Option.some.inj h).symm
theorem test_inv {b : Bool} {p q : Pl} (h : (Pl.test b p q).run some = some d) : (b = true ∧ p.run some = some d) ∨ (b = false ∧ q.run some = some d) := by
  cases b
  · exact .inr ⟨rfl, h⟩
  · exact .inl ⟨rfl, h⟩
theorem no_inv (h : (Pl.no).run some = some d) : False := by cases h
theorem Pure.of {v : V} {s : Sem Value} {x : Value} (h : (pval v).run some = some d) (hs : s.run P w = .ok x w) (hv : RepV g v x) : Pure P w g d s := by
  rw [pval_inv h]; exact ⟨x, hs, hv, rfl⟩
theorem pintBin_ok {op : BinOp} {t : TypeId} {k : IntKind} {a b : Int} (h : (pintBin op k a b).run some = some d) (hop : op ≠ .shl ∧ op ≠ .shr) : Pure P w g d (binOp op t (.int k a) (.int k b)) := by
  have hk : ∀ s : Sem Value, (if k ≠ k then stuck "BinOp: operands of different kinds" else s) = s := fun s => by simp
  cases op with
  | add => refine Pure.of h ?_ rfl; simp only [binOp, hk]; rfl
  | sub => refine Pure.of h ?_ rfl; simp only [binOp, hk]; rfl
  | mul => refine Pure.of h ?_ rfl; simp only [binOp, hk]; rfl
  | quo =>
    rcases test_inv h with ⟨_, h⟩ | ⟨hb, h⟩
    · exact (no_inv h).elim
    · refine Pure.of h ?_ rfl
      simp only [binOp, hk, Op.intDiv]
      rw [if_neg (of_decide_eq_false hb)]; rfl
  | rem =>
    rcases test_inv h with ⟨_, h⟩ | ⟨hb, h⟩
    · exact (no_inv h).elim
    · refine Pure.of h ?_ rfl
      simp only [binOp, hk, Op.intDiv]
      rw [if_neg (of_decide_eq_false hb)]; rfl
  | and => refine Pure.of h ?_ rfl; simp only [binOp, hk]; rfl
  | or => refine Pure.of h ?_ rfl; simp only [binOp, hk]; rfl
  | xor => refine Pure.of h ?_ rfl; simp only [binOp, hk]; rfl
  | andNot => refine Pure.of h ?_ rfl; simp only [binOp, hk]; rfl
  | eql => refine Pure.of h ?_ rfl; simp only [binOp, hk]; rfl
  | neq => refine Pure.of h ?_ rfl; simp only [binOp, hk]; rfl
  | lss => refine Pure.of h ?_ rfl; simp only [binOp, hk]; rfl
  | leq => refine Pure.of h ?_ rfl; simp only [binOp, hk]; rfl
  | gtr => refine Pure.of h ?_ rfl; simp only [binOp, hk]; rfl
  | geq => refine Pure.of h ?_ rfl; simp only [binOp, hk]; rfl
  | shl => exact absurd rfl hop.1
  | shr => exact absurd rfl hop.2
theorem pshift_ok {op : BinOp} {t : TypeId} {k k' : IntKind} {a b : Int} (h : (pshift op k a b).run some = some d) : Pure P w g d (binOp op t (.int k a) (.int k' b)) := by
  cases op with
  | shl =>
    rcases test_inv h with ⟨_, h⟩ | ⟨hb, h⟩
    · exact (no_inv h).elim
    · have hb' : ¬ b < 0 := of_decide_eq_false hb
      refine Pure.of h ?_ rfl
      simp only [binOp]
      rw [shift_shl_any _ _ _ _ (by omega)]; rfl
  | shr =>
    rcases test_inv h with ⟨_, h⟩ | ⟨hb, h⟩
    · exact (no_inv h).elim
    · have hb' : ¬ b < 0 := of_decide_eq_false hb
      refine Pure.of h ?_ rfl
      simp only [binOp]
      rw [shift_shr_any _ _ _ _ (by omega)]; rfl
  | _ => exact (no_inv h).elim
theorem pstrBin_ok {op : BinOp} {t : TypeId} {a b : ByteArray} (h : (pstrBin op a b).run some = some d) : Pure P w g d (binOp op t (.string a) (.string b)) := by
  cases op with
  | add =>
    rcases test_inv h with ⟨_, h⟩ | ⟨hb, h⟩
    · exact (no_inv h).elim
    · have hb' := of_decide_eq_false hb
      refine Pure.of h ?_ rfl
      simp only [binOp]
      rw [run_string_add_sum _ _ _ (by omega)]
  | eql => refine Pure.of h ?_ rfl; simp only [binOp]; rfl
  | neq => refine Pure.of h ?_ rfl; simp only [binOp]; rfl
  | lss => refine Pure.of h ?_ rfl; simp only [binOp]; rfl
  | leq => refine Pure.of h ?_ rfl; simp only [binOp]; rfl
  | gtr => refine Pure.of h ?_ rfl; simp only [binOp]; rfl
  | geq => refine Pure.of h ?_ rfl; simp only [binOp]; rfl
  | _ => exact (no_inv h).elim
theorem eqGuard_int (op : BinOp) (t : TypeId) (x y : Operand) (k k' : IntKind) (a b : Int) : (eqGuard op t x y (.int k a) (.int k' b)).run P w = .ok () w := by cases op <;> rfl
theorem eqGuard_str (op : BinOp) (t : TypeId) (x y : Operand) (a b : ByteArray) : (eqGuard op t x y (.string a) (.string b)).run P w = .ok () w := by cases op <;> rfl
theorem eqGuard_bool (op : BinOp) (t : TypeId) (x y : Operand) (a b : Bool) : (eqGuard op t x y (.bool a) (.bool b)).run P w = .ok () w := by cases op <;> rfl
theorem eqGuard_nil (op : BinOp) (t : TypeId) (x y : Operand) (v : Value) (hy : isNilC y = true) : (eqGuard op t x y v .nilIface).run P w = .ok () w := by
  cases y with
  | const u => cases op <;> cases v <;> simp [eqGuard]
  | _ => cases hy
theorem equal_nil {ms : Array (String × TypeId)} {t et : TypeId} (h : P.underlying t = some (.interface ms)) (e : Option Int) : (Op.equal t (errV et e) .nilIface).run P w = .ok e.isNone w := by
  have e1 : Op.equal t (errV et e) .nilIface = Op.equalIn (9999 + 1) t (errV et e) .nilIface := rfl
  rw [e1]
  unfold Op.equalIn
  rw [Sem.run_bind, run_underlying h]
  cases e <;> rfl
theorem eqGuard_ptr_nil (op : BinOp) (t : TypeId) (x y : Operand) (a : Addr) : (eqGuard op t x y (.pointer (some a)) (.pointer none)).run P w = .ok () w := by cases op <;> rfl
theorem equal_ptr_nil {t e : TypeId} {a : Addr} (h : P.underlying t = some (.pointer e)) : (Op.equal t (.pointer (some a)) (.pointer none)).run P w = .ok false w := by
  have e1 : Op.equal t (.pointer (some a)) (.pointer none) = Op.equalIn (9999 + 1) t (.pointer (some a)) (.pointer none) := rfl
  rw [e1]
  unfold Op.equalIn
  rw [Sem.run_bind, run_underlying h]
  rfl
variable {X : Ctx}
theorem pbin_ok (hT : TyOk P X.ty) (hE : ∀ t q, X.eqs t = some q → EqOk P t q) {op : BinOp} {t : TypeId} {ox oy : Operand} {x y : V} {vx vy : Value} (hx : RepV g x vx) (hy : RepV g y vy)
    (h : (pbin X op t ox oy x y).run some = some d) : Pure P w g d (do eqGuard op t ox oy vx vy; binOp op t vx vy) := by
  unfold pbin at h
  split at h
  · obtain rfl : vx = _ := hx
    obtain rfl : vy = _ := hy
    rename_i k a k' b
    have key : ∀ s, Pure P w g d s → Pure P w g d (do eqGuard op t ox oy (.int k a) (.int k' b); s) := fun s ⟨x, h1, h2⟩ => ⟨x, by rw [Sem.run_bind, eqGuard_int]; exact h1, h2⟩
    refine key _ ?_
    split at h
    · exact pshift_ok h
    · exact pshift_ok h
    · rename_i n1 n2
      by_cases e : k = k'
      · subst e
        simp only [decide_true, cond_true] at h
        exact pintBin_ok h ⟨n1, n2⟩
      · simp only [e, decide_false, cond_false] at h
        exact (no_inv h).elim
  · obtain rfl : vx = _ := hx
    obtain rfl : vy = _ := hy
    obtain ⟨x, h1, h2⟩ := pstrBin_ok (P := P) (w := w) (g := g) (t := t) h
    exact ⟨x, by rw [Sem.run_bind, eqGuard_str]; exact h1, h2⟩
  · obtain rfl : vx = _ := hx
    obtain rfl : vy = _ := hy
    split at h
    · rename_i e1
      refine Pure.of h ?_ rfl
      rw [Sem.run_bind, eqGuard_bool]
      exact run_eql_bool w t _ _ (hT.und _ _ e1)
    · rename_i e1
      refine Pure.of h ?_ rfl
      rw [Sem.run_bind, eqGuard_bool]
      exact run_neq_bool w t _ _ (hT.und _ _ e1)
    · exact (no_inv h).elim
  · rename_i et e
    obtain rfl : vx = errV et e := hx
    obtain rfl : vy = _ := hy
    cases hn : isNilC oy with
    | false => rw [hn] at h; exact (no_inv h).elim
    | true =>
      rw [hn] at h
      simp only [cond_true] at h
      split at h
      · rename_i e1
        refine Pure.of h ?_ rfl
        rw [Sem.run_bind, eqGuard_nil _ _ _ _ _ hn]
        have := equal_nil (P := P) (w := w) (et := et) (hT.und _ _ e1) e
        simp only [Result.andThen_ok, binOp]
        cases e <;> simp only [errV] at this ⊢ <;> (rw [Sem.run_bind, this]; rfl)
      · rename_i e1
        refine Pure.of h ?_ rfl
        rw [Sem.run_bind, eqGuard_nil _ _ _ _ _ hn]
        have := equal_nil (P := P) (w := w) (et := et) (hT.und _ _ e1) e
        simp only [Result.andThen_ok, binOp]
        cases e <;> simp only [errV] at this ⊢ <;> (rw [Sem.run_bind, this]; rfl)
      · exact (no_inv h).elim
  · obtain rfl : vx = _ := hx
    obtain rfl : vy = _ := hy
    cases hn : isNilC oy with
    | false => rw [hn] at h; exact (no_inv h).elim
    | true =>
      rw [hn] at h
      simp only [cond_true] at h
      split at h
      · rename_i e1
        refine Pure.of h ?_ rfl
        rw [Sem.run_bind, eqGuard_nil _ _ _ _ _ hn]
        have := equal_nil (P := P) (w := w) (et := 0) (hT.und _ _ e1) none
        simp only [Result.andThen_ok, binOp]
        simp only [errV] at this
        rw [Sem.run_bind, this]; rfl
      · rename_i e1
        refine Pure.of h ?_ rfl
        rw [Sem.run_bind, eqGuard_nil _ _ _ _ _ hn]
        have := equal_nil (P := P) (w := w) (et := 0) (hT.und _ _ e1) none
        simp only [Result.andThen_ok, binOp]
        simp only [errV] at this
        rw [Sem.run_bind, this]; rfl
      · exact (no_inv h).elim
  · obtain ⟨β, hj, rfl⟩ := hx
    obtain rfl : vy = _ := hy
    split at h
    · rename_i e1
      refine Pure.of h ?_ rfl
      have := fun a => equal_ptr_nil (P := P) (w := w) (a := a) (hT.und _ _ e1)
      rw [Sem.run_bind, eqGuard_ptr_nil]
      simp only [Result.andThen_ok, binOp]
      rw [Sem.run_bind, this]; rfl
    · rename_i e1
      refine Pure.of h ?_ rfl
      have := fun a => equal_ptr_nil (P := P) (w := w) (a := a) (hT.und _ _ e1)
      rw [Sem.run_bind, eqGuard_ptr_nil]
      simp only [Result.andThen_ok, binOp]
      rw [Sem.run_bind, this]; rfl
    · exact (no_inv h).elim
  · obtain ⟨us, rfl, hx⟩ := hx
    obtain ⟨vs, rfl, hy⟩ := hy
    split at h
    · rename_i q e1
      split at h
      · rename_i b e2
        obtain ⟨k1, k2⟩ := hE _ _ e1 g _ _ _ _ _ w e2 hx hy
        refine Pure.of h ?_ rfl
        rw [Sem.run_bind, run_eqGuard_agg w _ _ _ _ _ _ k1]
        simp only [Result.andThen_ok, binOp, Sem.run_bind, k2, Sem.run_pure]
      · exact (no_inv h).elim
    · rename_i q e1
      split at h
      · rename_i b e2
        obtain ⟨k1, k2⟩ := hE _ _ e1 g _ _ _ _ _ w e2 hx hy
        refine Pure.of h ?_ rfl
        rw [Sem.run_bind, run_eqGuard_agg w _ _ _ _ _ _ k1]
        simp only [Result.andThen_ok, binOp, Sem.run_bind, k2, Sem.run_pure]
      · exact (no_inv h).elim
    · exact (no_inv h).elim
  · exact (no_inv h).elim
theorem punary_ok {op : UnOp} {x : V} {vx : Value} (hx : RepV g x vx) (h : (punary op x).run some = some d) : Pure P w g d (Op.unary op vx) := by
  unfold punary at h
  split at h
  · obtain rfl : vx = _ := hx
    split at h
    · exact Pure.of h (by simp [Op.unary, Op.intArith]) rfl
    · exact Pure.of h (by simp [Op.unary, Op.intBits]; rfl) rfl
    · exact (no_inv h).elim
  · obtain rfl : vx = _ := hx
    split at h
    · exact Pure.of h (by simp [Op.unary]) rfl
    · exact (no_inv h).elim
  · exact (no_inv h).elim
theorem add_off (β o n : Nat) : (⟨β, o, none⟩ : Addr).add n = ⟨β, o + n, none⟩ := by
  unfold Addr.add; split
  · rename_i h; rw [h]; rfl
  · rfl
theorem bytes_fold : ∀ (xs : List Int) (r : ByteArray), xs.foldl (fun r n => r.push (UInt8.ofNat n.toNat)) r = ⟨r.data ++ (xs.map fun n => UInt8.ofNat n.toNat).toArray⟩
  | [], r => by simp
  | n :: xs, r => by
    simp only [List.foldl_cons]
    rw [bytes_fold xs]
    simp [ByteArray.push]
theorem row_bytes {hc : ∀ β o v, g.K β o = some v → w.cell? ⟨β, o, none⟩ = some v} {s t e : TypeId} (hs : P.underlying s = some (.slice e)) (ht : P.underlying t = some .string) (he : P.underlying e = some (.int .u8))
    {xs : List (TL [.int .u8])} {v : Value} (hr : RowS g.K (widSL [.int .u8]) (RepSL g.K [.int .u8]) xs v) : (convert s t v).run P w = .ok (.string (bytesS xs)) w := by
  rcases hr with ⟨rfl, ad, c0, rfl⟩ | ⟨β, off, cap, rfl, _, hk⟩
  · rw [run_convert_bytes_string w s t e ad 0 c0 hs he ht]
    cases ad with
    | none =>
      simp [Conv.bytesToString]
      rfl
    | some ad =>
      have hl := run_loadCells_list (P := P) w ad [] (fun j v hj => by simp at hj)
      exact (run_bytesToString w ad _ c0 [] hl).trans (by rw [bytes_fold]; rfl)
  · rw [run_convert_bytes_string w s t e _ _ _ hs he ht]
    have hl := run_loadCells_list (P := P) w ⟨β, off, none⟩ (List.map (Value.int .u8) xs) (fun j v hj => by
      rw [List.getElem?_map] at hj
      obtain ⟨x, hx, rfl⟩ := Option.map_eq_some_iff.1 hj
      obtain ⟨us, k1, k2, k3⟩ := hk j x hx
      simp only [RepSL, RepS] at k2
      subst k2
      have := k3 0 _ rfl
      rw [add_off]
      have e2 : off + (j * widSL [.int .u8] + 0) = off + j := by simp [widSL, widS]
      rw [e2] at this
      exact hc _ _ _ this)
    rw [List.length_map] at hl
    rw [run_bytesToString w ⟨β, off, none⟩ _ cap xs hl, bytes_fold]
    have he0 : ByteArray.empty.data = #[] := rfl
    rw [he0]
    simp [bytesS]
theorem pconvert_ok (hT : TyOk P X.ty) (hc : ∀ β o v, g.K β o = some v → w.cell? ⟨β, o, none⟩ = some v) {s t : TypeId} {x : V} {vx : Value} (hx : RepV g x vx) (h : (pconvert X s t x).run some = some d) : Pure P w g d (convert s t vx) := by
  unfold pconvert at h
  split at h
  · rename_i e1 e2
    obtain rfl : vx = _ := hx
    have h1 := hT.und _ _ e1
    have h2 := hT.und _ _ e2
    exact Pure.of h (by simp [convert, run_underlying h1, run_underlying h2, Conv.intToInt]) rfl
  · rename_i e1 e2
    obtain rfl : vx = _ := hx
    have h1 := hT.und _ _ e1
    have h2 := hT.und _ _ e2
    refine Pure.of h ?_ rfl
    simp only [convert, Sem.run_bind, run_underlying h1, run_underlying h2, Result.andThen_ok]
    rfl
  · rename_i e1 e2
    obtain ⟨hr, _⟩ := hx
    split at h
    · rename_i e3
      split at h
      · rename_i he
        exact Pure.of h (row_bytes (hc := hc) (hT.und _ _ e1) (hT.und _ _ e2) (hT.und _ _ e3) (castL_rep he hr)) rfl
      · exact (no_inv h).elim
    · exact (no_inv h).elim
  · rename_i e1 e2
    obtain rfl : vx = _ := hx
    split at h
    · rename_i e3
      exact Pure.of h (row_bytes (hc := hc) (xs := []) (hT.und _ _ e1) (hT.und _ _ e2) (hT.und _ _ e3) (.inl ⟨rfl, none, 0, rfl⟩)) rfl
    · exact (no_inv h).elim
  · exact (no_inv h).elim
theorem piface_ok (hT : TyOk P X.ty) {t : TypeId} {x : V} {vx : Value} (hx : RepV g x vx) (h : (piface X t x).run some = some d) : Pure P w g d (Instr.makeInterface t vx) := by
  unfold piface at h
  split at h
  · rename_i e1
    obtain rfl : vx = _ := hx
    have h1 := hT.und _ _ e1
    refine Pure.of h (x := .iface t (.int .i64 _)) ?_ rfl
    simp only [Instr.makeInterface, Sem.run_bind, run_underlying h1]; rfl
  · rename_i e1
    obtain ⟨β, k1, rfl⟩ := hx
    have h1 := hT.und _ _ e1
    exact Pure.of h (by simp [Instr.makeInterface, run_underlying h1]) ⟨β, k1, rfl⟩
  · exact (no_inv h).elim
theorem RepAs.get : ∀ {l : List A} {vs : List Value} {i : Nat} {a : A}, RepAs g l vs → l[i]? = some a → ∃ x, vs[i]? = some x ∧ RepA g a x
  | [], _, i, a, _, e => by simp at e
  | b :: l, _, 0, a, ⟨x, r, h1, h2, _⟩, e => by simp at e; subst e; subst h1; exact ⟨x, rfl, h2⟩
  | b :: l, _, i + 1, a, ⟨x, r, h1, _, h3⟩, e => by
    simp at e
    obtain ⟨y, k1, k2⟩ := h3.get e
    subst h1
    exact ⟨y, by simpa using k1, k2⟩
theorem pextract_ok {x : V} {vx : Value} {i : Nat} (hx : RepV g x vx) (h : (pextract x i).run some = some d) : Pure P w g d (Instr.extract vx i) := by
  unfold pextract at h
  split at h
  · obtain ⟨vs, rfl, hx⟩ := hx
    split at h
    · rename_i a e
      obtain ⟨y, k1, k2⟩ := hx.get e
      exact Pure.of h (by simp [Instr.extract, k1]) k2
    · exact (no_inv h).elim
  · exact (no_inv h).elim
theorem run_isAgg (hT : TyOk P X.ty) {t : TypeId} {i : TI} (h : X.ty t = some i) (w : World) : (isAgg t).run P w = .ok (aggD i.desc) w := by
  unfold isAgg
  rw [Sem.run_bind, run_underlying (hT.und _ _ h)]
  simp only [Result.andThen_ok]
  cases i.desc <;> rfl
theorem run_sizeOf (hT : TyOk P X.ty) {t : TypeId} {i : TI} (h : X.ty t = some i) (w : World) : (sizeOf t).run P w = .ok i.size w := by
  obtain ⟨f, z, h1, h2, _⟩ := hT.inf _ _ h
  simp [sizeOf, typeInfo, h1, h2]
theorem run_zero (hT : TyOk P X.ty) {t : TypeId} {i : TI} (h : X.ty t = some i) (w : World) : ∃ z, (zeroValue t).run P w = .ok z w ∧ concL i.zero = some z.cells.toList := by
  obtain ⟨f, z, h1, h2, h3, h4, h5⟩ := hT.inf _ _ h
  exact ⟨z, by simp [zeroValue, typeInfo, h1, h4], h5⟩
theorem extract_mid (a b c : List Value) : (a ++ (b ++ c)).toArray.extract a.length (a.length + b.length) = b.toArray := by
  simp [List.extract_toArray, List.extract_eq_take_drop]
theorem get_mid (a c : List Value) (x : Value) : (a ++ ([x] ++ c)).toArray[a.length]? = some x := by simp
theorem part_ok (hT : TyOk P X.ty) {t : TypeId} {i : TI} (ht : X.ty t = some i) {cs es : List C} {vs : List Value} {off : Nat} (hr : RepL g cs vs) (hs : subC cs off i.size = some es) :
    (aggD i.desc = true → ∃ us : List Value, (part t vs.toArray off).run P w = .ok (.agg us.toArray) w ∧ RepL g es us) ∧
    (aggD i.desc = false → ∀ c, es = [c] → isArr c = false → ∃ x, (part t vs.toArray off).run P w = .ok x w ∧ RepC g c x) := by
  obtain ⟨a, b, c, rfl, h1, h2, h3⟩ := hr.subC hs
  subst h1
  refine ⟨fun hd => ⟨b, ?_, h3⟩, fun hd x hx ha => ?_⟩
  · simp only [part, Sem.run_bind, run_isAgg hT ht, Result.andThen_ok, hd, if_true, run_sizeOf hT ht, Sem.run_pure]
    rw [← h2, extract_mid]
  · subst hx
    obtain ⟨y, rfl, hy⟩ := repl_one ha h3
    refine ⟨y, ?_, hy⟩
    simp only [part, Sem.run_bind, run_isAgg hT ht, Result.andThen_ok, hd]
    rw [get_mid]
    rfl
theorem pfield_ok (hT : TyOk P X.ty) {t : TypeId} {x : V} {vx : Value} {f : Nat} (hx : RepV g x vx) (h : (pfield X t x f).run some = some d) : Pure P w g d (Instr.field t vx f) := by
  unfold pfield at h
  split at h
  · rename_i e1
    obtain ⟨vs, rfl, hx⟩ := hx
    have h1 := hT.und _ _ e1
    split at h
    · exact (no_inv h).elim
    · rename_i fd e2
      split at h
      · exact (no_inv h).elim
      · rename_i i e3
        split at h
        · exact (no_inv h).elim
        · rename_i es e4
          obtain ⟨k1, k2⟩ := part_ok (P := P) (w := w) (g := g) hT e3 hx e4
          have hrun : ∀ y, (part fd.type vs.toArray fd.offset).run P w = .ok y w → (Instr.field t (.agg vs.toArray) f).run P w = .ok y w := fun y hy => by
            simp only [Instr.field, Sem.run_bind, run_underlying h1, Result.andThen_ok, e2, asAgg, Sem.run_pure, hy]
          cases hd : aggD i.desc with
          | true =>
            rw [hd] at h
            obtain ⟨us, q1, q2⟩ := k1 hd
            exact Pure.of h (hrun _ q1) ⟨us, rfl, q2⟩
          | false =>
            rw [hd] at h
            simp only [cond_false] at h
            split at h
            · rename_i c
              cases ha : isArr c with
              | true => rw [ha] at h; exact (no_inv h).elim
              | false =>
                rw [ha] at h
                obtain ⟨y, q1, q2⟩ := k2 hd c rfl ha
                exact Pure.of h (hrun _ q1) q2
            · exact (no_inv h).elim
  · exact (no_inv h).elim
theorem pfieldAddr_ok (hT : TyOk P X.ty) {t : TypeId} {x : V} {vx : Value} {f : Nat} (hx : RepV g x vx) (h : (pfieldAddr X t x f).run some = some d) : Pure P w g d (Instr.fieldAt t vx f) := by
  unfold pfieldAddr at h
  split at h
  · rename_i e1
    obtain ⟨β, hj, rfl⟩ := hx
    have h1 := hT.und _ _ e1
    split at h
    · exact (no_inv h).elim
    · rename_i fd e2
      split at h
      · exact (no_inv h).elim
      · rename_i i e3
        cases hb : Nat.beq i.size 0 with
        | true => rw [hb] at h; exact (no_inv h).elim
        | false =>
          rw [hb] at h
          have hs : ¬ i.size = 0 := fun e => by rw [e] at hb; cases hb
          refine Pure.of h ?_ ⟨β, hj, rfl⟩
          simp only [Instr.fieldAt, Sem.run_bind, run_underlying h1, Result.andThen_ok, e2, Instr.sureAddr, Sem.run_pure, fieldPlace, run_sizeOf hT e3, hs, if_false, add_off]
  · rename_i e1
    obtain ⟨β, o, us, rfl, hr, hk⟩ := hx
    have h1 := hT.und _ _ e1
    split at h
    · exact (no_inv h).elim
    · rename_i fd e2
      split at h
      · exact (no_inv h).elim
      · rename_i i e3
        cases hb : Nat.beq i.size 0 with
        | true => rw [hb] at h; exact (no_inv h).elim
        | false =>
          rw [hb] at h
          have hs : ¬ i.size = 0 := fun e => by rw [e] at hb; cases hb
          refine Pure.of h ?_ ⟨β, o, us, rfl, hr, hk⟩
          simp only [Instr.fieldAt, Sem.run_bind, run_underlying h1, Result.andThen_ok, e2, Instr.sureAddr, Sem.run_pure, fieldPlace, run_sizeOf hT e3, hs, if_false, add_off, Nat.add_assoc]
  · exact (no_inv h).elim
theorem plen_slice {t e ty : TypeId} {a : Option Addr} {n c : Nat} (h : P.underlying t = some (.slice e)) : (Builtin.len_ #[t] ty #[.slice a n c]).run P w = .ok (.int .i64 n) w := by
  simp [Builtin.len_, run_underlying h, goInt]
theorem plen_ok (hT : TyOk P X.ty) {t ty : TypeId} {x : V} {vx : Value} (hx : RepV g x vx) (h : (plen X t x).run some = some d) : Pure P w g d (Builtin.len_ #[t] ty #[vx]) := by
  unfold plen at h
  split at h
  · rename_i e1
    obtain rfl : vx = _ := hx
    exact Pure.of h (by simp [Builtin.len_, run_underlying (hT.und _ _ e1), goInt]) rfl
  · rename_i e1
    exact Pure.of h (by simp [Builtin.len_, run_underlying (hT.und _ _ e1), goInt]) rfl
  · rename_i e1
    obtain ⟨hr, _⟩ := hx
    rcases hr with ⟨h0, ad, c0, rfl⟩ | ⟨β, off, cap, rfl, _⟩
    · subst h0
      exact Pure.of h (plen_slice (hT.und _ _ e1)) rfl
    · exact Pure.of h (plen_slice (hT.und _ _ e1)) rfl
  · rename_i e1
    obtain rfl : vx = _ := hx
    exact Pure.of h (plen_slice (hT.und _ _ e1)) rfl
  · exact (no_inv h).elim
theorem row_index {size : Nat} {α : Type} {R : α → List Value → Prop} {t e : TypeId} {i : Int} {xs : List α} {x : α} {v : Value} (h1 : P.underlying t = some (.slice e)) (hs : (sizeOf e).run P w = .ok size w) (hr : RowS g.K size R xs v)
    (b1 : 0 ≤ i) (b2 : i < xs.length) (hv : xs[i.toNat]? = some x) : ∃ β o us, (∀ k, (Instr.indexAt t v (.int k i)).run P w = .ok (.pointer (some ⟨β, o, none⟩)) w) ∧ R x us ∧ ∀ j u, us[j]? = some u → g.K β (o + j) = some u := by
  rcases hr with ⟨h0, _⟩ | ⟨β, off, cap, rfl, _, hk⟩
  · subst h0; simp at hv
  · obtain ⟨us, k1, k2, k3⟩ := hk _ _ hv
    refine ⟨β, off + i.toNat * size, us, fun k => ?_, k2, fun j u e => ?_⟩
    · simp only [Instr.indexAt, Sem.run_bind, asIntOf, Sem.run_pure, Result.andThen_ok, run_underlying h1]
      rw [if_pos ⟨b1, b2⟩]
      simp only [Sem.run_bind, hs, Result.andThen_ok, Sem.run_pure, add_off]
    · rw [Nat.add_assoc]; exact k3 j u e
theorem pick_inv {p : Nat → Pl} {i : Int} : ∀ {m j : Nat}, (pick p i j m).run some = some d → ∃ q, j ≤ q ∧ q < j + m ∧ i = (q : Int) ∧ (p q).run some = some d
  | 0, j, h => (no_inv h).elim
  | m + 1, j, h => by
    rcases test_inv h with ⟨h1, h2⟩ | ⟨_, h2⟩
    · exact ⟨j, Nat.le_refl _, by omega, of_decide_eq_true h1, h2⟩
    · obtain ⟨q, k1, k2, k3, k4⟩ := pick_inv h2
      exact ⟨q, by omega, by omega, k3, k4⟩
theorem partA_ok (hT : TyOk P X.ty) {t : TypeId} {i : TI} (ht : X.ty t = some i) {cs : List C} {vs : List Value} {off : Nat} (hr : RepL g cs vs) (h : (partA i cs off).run some = some d) : Pure P w g d (part t vs.toArray off) := by
  unfold partA at h
  split at h
  · exact (no_inv h).elim
  · rename_i es hs
    obtain ⟨p1, p2⟩ := part_ok (w := w) hT ht hr hs
    cases ha : aggD i.desc with
    | true =>
      rw [ha] at h
      obtain ⟨us, k1, k2⟩ := p1 ha
      exact Pure.of h k1 ⟨us, rfl, k2⟩
    | false =>
      rw [ha] at h
      simp only [cond_false] at h
      split at h
      · rename_i c
        cases hc : isArr c with
        | true => rw [hc] at h; exact (no_inv h).elim
        | false =>
          rw [hc] at h
          obtain ⟨x, k1, k2⟩ := p2 ha c rfl hc
          exact Pure.of h k1 k2
      · exact (no_inv h).elim
theorem pindexAddr_ok (hT : TyOk P X.ty) {t : TypeId} {x y : V} {vx vy : Value} (hx : RepV g x vx) (hy : RepV g y vy) (h : (pindexAddr X t x y).run some = some d) : Pure P w g d (Instr.indexAt t vx vy) := by
  unfold pindexAddr at h
  split at h
  · rename_i e1
    obtain ⟨β, hj, rfl⟩ := hx
    obtain rfl : vy = _ := hy
    have h1 := hT.und _ _ e1
    split at h
    · rename_i e2
      have hs := run_sizeOf hT e2 w
      rcases test_inv h with ⟨hb, h⟩ | ⟨_, h⟩
      · have hb' := of_decide_eq_true hb
        refine Pure.of h ?_ ⟨β, hj, hb'.1, hb'.2, rfl⟩
        simp only [Instr.indexAt, Sem.run_bind, asIntOf, Sem.run_pure, Result.andThen_ok, run_underlying h1, Instr.sureAddr, hb', and_self, if_true, hs]
        simp only [Nat.mul_one, add_off]
      · exact (no_inv h).elim
    · rename_i ie _ e2
      obtain ⟨q, _, b2, eq, h'⟩ := pick_inv h
      subst eq
      have hs := run_sizeOf hT e2 w
      refine Pure.of h' ?_ ⟨β, hj, rfl⟩
      have hb' : 0 ≤ (q : Int) ∧ (q : Int) < _ := ⟨Int.natCast_nonneg q, Int.ofNat_lt.2 (by rw [Nat.zero_add] at b2; exact b2)⟩
      simp only [Instr.indexAt, Sem.run_bind, asIntOf, Sem.run_pure, Result.andThen_ok, run_underlying h1, Instr.sureAddr, hb', and_self, if_true, hs]
      simp only [Int.toNat_natCast, add_off]
    · exact (no_inv h).elim
  · rename_i e1
    obtain ⟨hr, _⟩ := hx
    obtain rfl : vy = _ := hy
    have h1 := hT.und _ _ e1
    split at h
    · rename_i ie e2
      cases hw : Nat.beq (widSL _) ie.size with
      | false => rw [hw] at h; exact (no_inv h).elim
      | true =>
        rw [hw] at h
        have hw := Nat.eq_of_beq_eq_true hw
        rcases test_inv h with ⟨hb, h⟩ | ⟨_, h⟩
        · obtain ⟨b1, b2⟩ := of_decide_eq_true hb
          have hi : Int.toNat _ < _ := (Int.toNat_lt b1).2 b2
          obtain ⟨β, o, us, q1, q2, q3⟩ := row_index h1 (hw ▸ run_sizeOf hT e2 w) hr b1 b2 (List.getElem?_eq_getElem hi)
          refine Pure.of h (q1 _) ⟨β, o, us, rfl, ?_, q3⟩
          rw [List.getD_eq_getElem?_getD, List.getElem?_eq_getElem hi]; exact q2
        · exact (no_inv h).elim
    · exact (no_inv h).elim
  · exact (no_inv h).elim
theorem pindex_ok (hT : TyOk P X.ty) {t : TypeId} {x y : V} {vx vy : Value} (hx : RepV g x vx) (hy : RepV g y vy) (h : (pindex X t x y).run some = some d) : Pure P w g d (Instr.index t vx vy) := by
  unfold pindex at h
  split at h
  · rename_i s _ i e1
    obtain rfl : vx = _ := hx
    obtain rfl : vy = _ := hy
    rcases test_inv h with ⟨hb, h⟩ | ⟨_, h⟩
    · have hb' := of_decide_eq_true hb
      refine Pure.of h ?_ rfl
      rw [run_index_string w t s _ i (hT.und _ _ e1), dif_pos hb']
      have hi : i.toNat < s.data.toList.length := by
        have e4 : s.data.toList.length = s.size := by rw [Array.length_toList]; rfl
        omega
      have : byteAt s i.toNat = ((s[i.toNat]'(by omega)).toNat : Int) := by
        unfold byteAt
        rw [List.getD_eq_getElem?_getD, List.getElem?_eq_getElem hi]
        rfl
      rw [this]
    · exact (no_inv h).elim
  · rename_i len e _ _ _ _ cs _ i e1
    obtain ⟨vs, rfl, hr⟩ := hx
    obtain rfl : vy = _ := hy
    have h1 := hT.und _ _ e1
    split at h
    · rename_i k n xs e2
      have hs := run_sizeOf hT e2 w
      rcases test_inv h with ⟨hb, h'⟩ | ⟨_, h⟩
      · obtain ⟨b1, b2, en⟩ := of_decide_eq_true hb
        subst en
        obtain ⟨r, l1, rfl, l2⟩ := hr
        simp only [RepL] at l2
        subst l2
        have hi : i.toNat < xs.length := by omega
        refine Pure.of h' ?_ rfl
        have hg : (xs.map (Value.int k))[i.toNat]? = some (Value.int k (xs.getD i.toNat 0)) := by
          rw [List.getElem?_map, List.getElem?_eq_getElem hi, List.getD_eq_getElem?_getD, List.getElem?_eq_getElem hi]; rfl
        simp only [Instr.index, Sem.run_bind, asIntOf, Sem.run_pure, Result.andThen_ok, run_underlying h1, b1, b2, and_self, if_true, hs, part, run_isAgg hT e2, aggD]
        simp only [Nat.mul_one, List.append_nil, List.getElem?_toArray, hg]
        rfl
      · exact (no_inv h).elim
    · rename_i _ _ e2 _
      obtain ⟨q, _, b2, eq, h'⟩ := pick_inv h
      subst eq
      have hs := run_sizeOf hT e2 w
      obtain ⟨x, k1, k2, k3⟩ := partA_ok (w := w) hT e2 hr h'
      have hb' : 0 ≤ (q : Int) ∧ (q : Int) < _ := ⟨Int.natCast_nonneg q, Int.ofNat_lt.2 (by rw [Nat.zero_add] at b2; exact b2)⟩
      refine ⟨x, ?_, k2, k3⟩
      simp only [Instr.index, Sem.run_bind, asIntOf, Sem.run_pure, Result.andThen_ok, run_underlying h1, hb', and_self, if_true, hs]
      simpa only [Int.toNat_natCast] using k1
    · exact (no_inv h).elim
  · exact (no_inv h).elim
theorem pminmax_ok {bi : Builtin} {ts : Array TypeId} {t : TypeId} {vs : List V} {us : List Value} (hv : ∀ (i : Nat) v, vs[i]? = some v → ∃ u, us[i]? = some u ∧ RepV g v u) (hl : us.length = vs.length) (h : (pminmax bi vs).run some = some d) :
    (bi = .min → Pure P w g d (Builtin.min_ ts t us.toArray)) ∧ (bi = .max → Pure P w g d (Builtin.max_ ts t us.toArray)) := by
  unfold pminmax at h
  split at h
  · rename_i k x k' y
    obtain ⟨u1, e1, r1⟩ := hv 0 _ rfl
    obtain ⟨u2, e2, r2⟩ := hv 1 _ rfl
    match us, hl, e1, e2 with
    | [v1, v2], _, e1, e2 =>
      obtain rfl := Option.some.inj e1
      obtain rfl := Option.some.inj e2
      obtain rfl : v1 = _ := r1
      obtain rfl : v2 = _ := r2
      by_cases e : k = k'
      · subst e
        rw [decide_eq_true rfl] at h
        refine ⟨fun eb => ?_, fun eb => ?_⟩
        · subst eb; exact Pure.of h (run_min_int2 ..) rfl
        · subst eb; exact Pure.of h (run_max_int2 ..) rfl
      · rw [decide_eq_false e] at h
        exact (no_inv h).elim
  · exact (no_inv h).elim
end
end Go.Proofs.YtmdnnlfoljdfpaaDoor.Mir
