/- The mirror's operations are right, all of them; an operation behind its guard; what an operation looks at. Nothing here names the program. -/
import Derived.Test.YtmdnnlfoljdfpaaDoorMirV
namespace Go.Proofs.YtmdnnlfoljdfpaaDoor.Mir
open Go Go.RowKit

structure CtxOk (P : Program) (laid : List (Nat × Nat × Value)) (X : Ctx) : Prop where
  ty : TyOk P X.ty
  eqs : ∀ t q, X.eqs t = some q → EqOk P t q
  fn : ∀ f S, X.fn f = some S → SumOk P laid f S
  mixed : P.follows .mixedOrders = true
section
variable {P : Program} {b : Base} {N : Nat} {g : Gh} {fr : Nat → V} {mem : Nat → Option (List C)} {a : Act} {w : World} {d : Delta} {X : Ctx} {o : Oper} {Q : Exit → Act → World → Prop} {laid : List (Nat × Nat × Value)}
theorem Pure.move {x : Operand} (hr : ∀ x, RepV g (ev fr x) (a.eval x)) (h : (pval (ev fr x)).run some = some d) : Pure P w g d (pure (a.eval x)) := by
  rw [pval_inv h]; exact ⟨_, rfl, hr x, rfl⟩
theorem fnOf_spec {g : Gh} {x : V} {v : Value} {f : FuncId} (h : fnOf x = some f) (hr : RepV g x v) : v = .func (.func f) #[] #[] := by
  unfold fnOf at h
  split at h
  · rename_i f' p q
    cases hb : (Nat.beq p.size 0 && Nat.beq q.size 0) with
    | false => rw [hb] at h; cases h
    | true =>
      rw [hb] at h
      simp only [Bool.and_eq_true] at hb
      obtain rfl := Option.some.inj h
      obtain rfl := Array.eq_empty_of_size_eq_zero (Nat.eq_of_beq_eq_true hb.1)
      obtain rfl := Array.eq_empty_of_size_eq_zero (Nat.eq_of_beq_eq_true hb.2)
      exact hr
  · cases h
theorem plan_ok (hX : CtxOk P laid X) (hl : Laid laid b.K0) (hc : Con b N g fr mem a w) (hd : ∀ t, o.dst = some t → t < N) (h : (plan X o fr mem).run some = some d) : Good P b N o d fr mem a w Q := by
  have hr := RepV.eval (g := g) hc.rep
  obtain ⟨dst, op, type, pos, after, guard⟩ := o
  unfold plan at h
  split at h <;> rename_i eop <;> simp only at eop <;> (try subst eop)
  · exact Good.of_pure (s := pure (a.eval _)) hc hd rfl (Pure.move hr h)
  · exact Good.of_pure (s := pure (a.eval _)) hc hd rfl (Pure.move hr h)
  · rename_i c x y
    split at h
    · rename_i t et
      have hcv := hr c
      rw [et] at hcv
      obtain hcv : a.eval c = .bool t := hcv
      refine Good.of_pure (s := pure (if t then a.eval x else a.eval y)) hc hd ?_ ?_
      · show (do pure (Next.value (if ← asBool (a.eval c) then a.eval x else a.eval y)) : Sem Next) = _
        rw [hcv]; rfl
      · rcases test_inv h with ⟨rfl, h⟩ | ⟨rfl, h⟩
        · exact Pure.move hr h
        · exact Pure.move hr h
    · exact (no_inv h).elim
  · rename_i t
    split at h
    · rename_i i ei
      obtain ⟨z, h1, h2⟩ := run_zero hX.ty ei w
      refine newBlk_ok (s := Instr.alloc t true (.tuple #[])) (vs := z.cells) (ty := t) rfl hc hd rfl ?_ (rep_conc g h2) h
      simp only [Instr.alloc, Sem.run_bind, h1, Result.andThen_ok, newVar, newRow]
      simp
    · exact (no_inv h).elim
  · rename_i t x
    split at h
    · rename_i y ey
      cases hok : okA y with
      | false => rw [hok] at h; exact (no_inv h).elim
      | true =>
        rw [hok] at h
        have hx := hr x
        rw [ey] at hx
        refine newBlk_ok (s := Instr.box t (a.eval x)) (vs := (a.eval x).cells) (ty := t) rfl hc hd rfl ?_ (cells_rep hok hx) h
        simp [Instr.box, newVar, newRow]
    · exact (no_inv h).elim
  · rename_i t parts
    refine Good.of_pure (s := Instr.build t (parts.map fun (i, x) => (i, a.eval x))) hc hd rfl (pbuild_ok hX.ty ?_ h)
    have := evps_ok (g := g) hr parts.toList
    simpa using this
  · rename_i t x
    split at h
    · rename_i i ei
      exact Good.of_pure (s := Instr.loadAt t (a.eval x)) hc hd rfl (pload_ok hX.ty ei hc (hr x) h)
    · exact (no_inv h).elim
  · rename_i t p x
    split at h
    · rename_i i ei
      exact pstore_ok hX.ty ei hc hd (hr p) (hr x) rfl h
    · exact (no_inv h).elim
  · rename_i x
    split at h
    · rename_i n off ex
      have hx := hr x
      rw [ex] at hx
      obtain ⟨β, hj, hx⟩ := hx
      refine Good.of_pure (s := pure (a.eval x)) hc hd ?_ ?_
      · simp only [execOp, hx]; rfl
      · rw [pval_inv h]; exact ⟨_, rfl, ⟨β, hj, hx⟩, rfl⟩
    · rename_i l y off ex
      have hx := hr x
      rw [ex] at hx
      obtain ⟨β, q, us, hx, hj⟩ := hx
      refine Good.of_pure (s := pure (a.eval x)) hc hd ?_ ?_
      · simp only [execOp, hx]; rfl
      · rw [pval_inv h]; exact ⟨_, rfl, ⟨β, q, us, hx, hj⟩, rfl⟩
    · exact (no_inv h).elim
  · rename_i op t x y _
    exact Good.of_pure (s := do eqGuard op t x y (a.eval x) (a.eval y); binOp op t (a.eval x) (a.eval y)) hc hd rfl (pbin_ok hX.ty hX.eqs (hr x) (hr y) h)
  · rename_i op _ x
    exact Good.of_pure (s := Op.unary op (a.eval x)) hc hd rfl (punary_ok (hr x) h)
  · rename_i s t x
    unfold pconv at h
    split at h
    · split at h
      · rename_i ev'
        exact pmark_ok hX.ty hc hd (ev' ▸ hr x) rfl h
      · exact pbytes_ok hX.ty hc hd (hr x) rfl h
    · exact Good.of_pure (s := convert s t (a.eval x)) hc hd rfl (pconvert_ok hX.ty hc.known (hr x) h)
  · rename_i t x
    exact Good.of_pure (s := Instr.makeInterface t (a.eval x)) hc hd rfl (piface_ok hX.ty (hr x) h)
  · rename_i t x f
    exact Good.of_pure (s := Instr.fieldAt t (a.eval x) f) hc hd rfl (pfieldAddr_ok hX.ty (hr x) h)
  · rename_i t x f
    exact Good.of_pure (s := Instr.field t (a.eval x) f) hc hd rfl (pfield_ok hX.ty (hr x) h)
  · rename_i t x i
    exact Good.of_pure (s := Instr.indexAt t (a.eval x) (a.eval i)) hc hd rfl (pindexAddr_ok hX.ty (hr x) (hr i) h)
  · rename_i t x i
    exact Good.of_pure (s := Instr.index t (a.eval x) (a.eval i)) hc hd rfl (pindex_ok hX.ty (hr x) (hr i) h)
  · rename_i t x lo hi mx
    exact pslice_ok hX.ty hc hd (hr x) rfl h
  · rename_i t len parts
    have hp : RepPs g (evps fr parts.toList) (parts.map fun (i, x) => (i, a.eval x)).toList := by
      have := evps_ok (g := g) hr parts.toList
      simpa using this
    have he : execOp a.eval ⟨dst, .buildSlice t len parts, type, pos, after, guard⟩ = (do pure (.value (← Instr.buildSlice t len (parts.map fun (i, x) => (i, a.eval x))))) := by
      unfold execOp; rfl
    exact pbuildSlice_ok hX.ty hc hd hp he h
  · rename_i t i
    exact Good.of_pure (s := Instr.extract (a.eval t) i) hc hd rfl (pextract_ok (hr t) h)
  · rename_i f args ts
    split at h
    · rename_i S eS
      refine pcall_ok (hX.fn _ _ eS) hl hc hd ?_ h
      show callFunc f (#[] ++ args.map a.eval ++ #[]) = _
      have : #[] ++ args.map a.eval ++ #[] = (List.map a.eval args.toList).toArray := by
        apply Array.ext'; simp
      rw [this]
    · exact (no_inv h).elim
  · rename_i t args ts
    split at h
    · rename_i f ef
      split at h
      · rename_i S eS
        refine pcall_ok (hX.fn _ _ eS) hl hc hd ?_ h
        have hx := fnOf_spec ef (hr (.tmp t))
        have this : #[] ++ args.map a.eval ++ #[] = (List.map a.eval args.toList).toArray := by
          apply Array.ext'; simp
        rw [← this]
        show (do let d ← Deferred.ofValue (a.eval (.tmp t)) (args.map a.eval); invoke d.target d.args) = _
        rw [hx]
        rfl
      · exact (no_inv h).elim
    · exact (no_inv h).elim
  · rename_i args ts
    split at h
    · rename_i x t ex et
      have e1 : args = #[x] := by cases args; simp at ex; subst ex; rfl
      have e2 : ts = #[t] := by cases ts; simp at et; subst et; rfl
      subst e1; subst e2
      refine Good.of_pure (s := Builtin.len_ #[t] type #[a.eval x]) hc hd ?_ (plen_ok hX.ty (hr x) h)
      simp [execOp, resolve, invoke, builtin]
    · exact (no_inv h).elim
  · rename_i args ts
    split at h
    · rename_i s x t t' ex et
      have e1 : args = #[s, x] := by cases args; simp at ex; subst ex; rfl
      have e2 : ts = #[t, t'] := by cases ts; simp at et; subst et; rfl
      subst e1; subst e2
      refine pappend_ok (ty := type) hX.ty hc hd (hr s) (hr x) ?_ h
      simp [execOp, resolve, invoke, builtin]
    · exact (no_inv h).elim
  · rename_i args ts
    obtain ⟨h1, h2⟩ := evs_spec (g := g) hr args.toList
    refine Good.of_pure (s := Builtin.min_ ts type (args.toList.map a.eval).toArray) hc hd ?_ ((pminmax_ok (P := P) (w := w) (ts := ts) (t := type) h1 h2.symm h).1 rfl)
    have : args.map a.eval = (args.toList.map a.eval).toArray := by apply Array.ext'; simp
    rw [← this]
    simp [execOp, resolve, invoke, builtin]
  · rename_i args ts
    obtain ⟨h1, h2⟩ := evs_spec (g := g) hr args.toList
    refine Good.of_pure (s := Builtin.max_ ts type (args.toList.map a.eval).toArray) hc hd ?_ ((pminmax_ok (P := P) (w := w) (ts := ts) (t := type) h1 h2.symm h).2 rfl)
    have : args.map a.eval = (args.toList.map a.eval).toArray := by apply Array.ext'; simp
    rw [← this]
    simp [execOp, resolve, invoke, builtin]
  · exact (no_inv h).elim
end

/-! ### guards -/
def guardTmp (ops : Array Oper) (j : Nat) : Option Nat := (ops[j]?).bind (·.dst)
def skipD : Delta := ⟨undefV, [], []⟩
def planG (X : Ctx) (ops : Array Oper) (o : Oper) (fr : Nat → V) (mem : Nat → Option (List C)) : Pl :=
  match o.guard with
  | none => plan X o fr mem
  | some (j, want) => match guardTmp ops j with
    | none => .no
    | some t => match fr t with
      | .a (.one (.lit (.bool b))) => .test (b == want) (plan X o fr mem) (.val skipD)
      | .a (.one (.lit (.tuple _))) => .val skipD
      | _ => .no
section
variable {P : Program} {b : Base} {N : Nat} {g : Gh} {fr : Nat → V} {mem : Nat → Option (List C)} {a : Act} {w : World} {d : Delta} {X : Ctx} {o : Oper} {Q : Exit → Act → World → Prop} {laid : List (Nat × Nat × Value)} {ops : Array Oper}
theorem tmps_get {t : Nat} (ht : t < N) (hc : Con b N g fr mem a w) : a.tmps[t]? = some (a.tmps.getD t undef) := by
  have : t < a.tmps.size := Nat.lt_of_lt_of_le ht hc.siz
  simp [Array.getD_eq_getD_getElem?, Array.getElem?_eq_getElem this]
theorem planG_ok (hX : CtxOk P laid X) (hl : Laid laid b.K0) (hc : Con b N g fr mem a w) (hd : ∀ t, o.dst = some t → t < N) {i : Nat} (hi : ops[i]? = some o)
    (h : (planG X ops o fr mem).run some = some d) : wpOp P ops Q i (fun a' w' => ∃ g', Con b N g' (apFr o.dst d.v fr) (over d.wr mem) a' w') a w := by
  have skip : d = skipD → ∃ g', Con b N g' (apFr o.dst d.v fr) (over d.wr mem) (a.put o.dst undef) w := fun e => by
    subst e; exact ⟨g, hc.put hd rfl⟩
  unfold wpOp
  rw [hi]
  simp only
  unfold planG at h
  split at h
  · rename_i eg
    have : Region.wanted o (yielded ops a.tmps) = true := by simp [Region.wanted, eg]
    rw [if_pos this]
    exact .inl (plan_ok hX hl hc hd h)
  · rename_i j want eg
    split at h
    · exact (no_inv h).elim
    · rename_i t et
      have hy : yielded ops a.tmps j = match a.tmps[t]? with | some (.bool b) => some b | _ => none := by
        unfold yielded
        unfold guardTmp at et
        rw [et]
        rfl
      split at h
      · rename_i v eb
        have hb := hc.rep t
        rw [eb] at hb
        obtain hb : a.tmps.getD t undef = .bool v := hb
        have hs : a.tmps[t]? = some (.bool v) := by
          cases hq : a.tmps[t]? with
          | none => simp [Array.getD_eq_getD_getElem?, hq] at hb; cases hb
          | some z => simp [Array.getD_eq_getD_getElem?, hq] at hb; rw [hb]
        rw [hs] at hy
        rcases test_inv h with ⟨e, h⟩ | ⟨e, h⟩
        · have : Region.wanted o (yielded ops a.tmps) = true := by
            have e := eq_of_beq e
            simp [Region.wanted, eg, hy, e]
          rw [if_pos this]
          exact .inl (plan_ok hX hl hc hd h)
        · have : Region.wanted o (yielded ops a.tmps) = false := by
            have e := ne_of_beq_false e
            simp [Region.wanted, eg, hy, e]
          rw [this]
          exact skip (Option.some.inj h).symm
      · rename_i vs eb
        have hb := hc.rep t
        rw [eb] at hb
        obtain hb : a.tmps.getD t undef = .tuple vs := hb
        have hs : yielded ops a.tmps j = none := by
          rw [hy]
          cases hq : a.tmps[t]? with
          | none => rfl
          | some z => simp [Array.getD_eq_getD_getElem?, hq] at hb; rw [hb]
        have : Region.wanted o (yielded ops a.tmps) = false := by simp [Region.wanted, eg, hs]
        rw [this]
        exact skip (Option.some.inj h).symm
      · exact (no_inv h).elim
end

/-! ### what an operation looks at -/
section
variable {fr fr' : Nat → V} {mem mem' : Nat → Option (List C)} {d : Delta} {X : Ctx} {o : Oper} {ops : Array Oper}
theorem ev_same {x : Operand} (h : ∀ t, x = .tmp t → fr' t = fr t) : ev fr' x = ev fr x := by
  cases x with
  | tmp t => exact h t rfl
  | _ => rfl
theorem evs_same : ∀ {l : List Operand}, (∀ x ∈ l, ev fr' x = ev fr x) → evs fr' l = evs fr l
  | [], _ => rfl
  | x :: l, h => by simp only [evs]; rw [h x (by simp), evs_same (fun y hy => h y (by simp [hy]))]
theorem evps_same : ∀ {l : List (Nat × Operand)}, (∀ x ∈ l, ev fr' x.2 = ev fr x.2) → evps fr' l = evps fr l
  | [], _ => rfl
  | (i, x) :: l, h => by simp only [evps]; rw [h (i, x) (by simp), evps_same (fun y hy => h y (by simp [hy]))]
theorem newBlk_same {dst : Option Nat} {cs : List C} (h : (newBlk mem dst cs).run some = some d) (hm : ∀ n ∈ d.rd, mem' n = mem n) : (newBlk mem' dst cs).run some = some d := by
  unfold newBlk at h ⊢
  split at h
  · rename_i t
    split at h
    · rename_i e
      obtain rfl := (Option.some.inj h).symm
      have := hm (own t 0) (by simp)
      simp only [this, e]; rfl
    · exact (no_inv h).elim
  · exact (no_inv h).elim
theorem pload_same {i : TI} {x : V} (h : (pload i mem x).run some = some d) (hm : ∀ n ∈ d.rd, mem' n = mem n) : (pload i mem' x).run some = some d := by
  unfold pload at h ⊢
  split at h
  · rename_i n off
    unfold ploadAt at h ⊢
    split at h
    · exact (no_inv h).elim
    · rename_i cs e
      have hd : n ∈ d.rd := by
        split at h
        · exact (no_inv h).elim
        · cases ha : aggD i.desc with
          | true => rw [ha] at h; obtain rfl := (Option.some.inj h).symm; simp
          | false =>
            rw [ha] at h
            simp only [cond_false] at h
            split at h
            · rename_i c _
              cases hc : isArr c with
              | true => rw [hc] at h; exact (no_inv h).elim
              | false => rw [hc] at h; obtain rfl := (Option.some.inj h).symm; simp
            · exact (no_inv h).elim
      rw [hm n hd, e]
      exact h
  · rename_i n off len ix
    cases ha : aggD i.desc with
    | true => rw [ha] at h; exact (no_inv h).elim
    | false =>
      rw [ha] at h
      simp only [cond_false] at h ⊢
      split at h
      · exact (no_inv h).elim
      · rename_i cs e
        have hd : n ∈ d.rd := by
          split at h
          · rename_i k m xs r _
            cases hc : Nat.beq m len with
            | true => rw [hc] at h; obtain rfl := (Option.some.inj h).symm; simp
            | false => rw [hc] at h; exact (no_inv h).elim
          · exact (no_inv h).elim
        rw [hm n hd, e]
        exact h
  · exact h
  · exact (no_inv h).elim
theorem pstore_same {i : TI} {p x : V} (h : (pstore i mem p x).run some = some d) (hm : ∀ n ∈ d.rd, mem' n = mem n) : (pstore i mem' p x).run some = some d := by
  unfold pstore at h ⊢
  split at h
  · exact (no_inv h).elim
  · rename_i y
    dsimp only at h ⊢
    cases hok : (Nat.beq (widL (cellsA y)) i.size && okCells (cellsA y)) with
    | false => rw [hok] at h; exact (no_inv h).elim
    | true =>
      rw [hok] at h
      simp only [cond_true] at h ⊢
      split at h
      · rename_i n off
        split at h
        · exact (no_inv h).elim
        · rename_i cs e
          have hd : n ∈ d.rd := by
            split at h
            · exact (no_inv h).elim
            · obtain rfl := (Option.some.inj h).symm; simp
          simp only [hm n hd, e]
          exact h
      · rename_i n off len ix
        split at h
        · exact (no_inv h).elim
        · rename_i cs e
          have hd : n ∈ d.rd := by
            split at h
            · rename_i k m xs r k' v _ _
              cases hc : (decide (k = k') && Nat.beq m len) with
              | false => rw [hc] at h; exact (no_inv h).elim
              | true =>
                rw [hc] at h
                simp only [cond_true] at h
                split at h
                · exact (no_inv h).elim
                · obtain rfl := (Option.some.inj h).symm; simp
            · exact (no_inv h).elim
          simp only [hm n hd, e]
          exact h
      · exact (no_inv h).elim
theorem blksOf_same : ∀ {ns : List Nat}, (∀ n ∈ ns, mem' n = mem n) → blksOf mem' ns = blksOf mem ns
  | [], _ => rfl
  | n :: ns, h => by simp only [blksOf]; rw [h n (by simp), blksOf_same (fun m hm => h m (by simp [hm]))]
theorem noneAt_same : ∀ {ns : List Nat}, (∀ n ∈ ns, mem' n = mem n) → noneAt mem' ns = noneAt mem ns
  | [], _ => rfl
  | n :: ns, h => by simp only [noneAt]; rw [h n (by simp), noneAt_same (fun m hm => h m (by simp [hm]))]
theorem nextV_same {n : Nat} (h : mem' n = mem n) : nextV mem' n = nextV mem n := by unfold nextV; rw [h]
theorem alive_same {n v E sz : Nat} (h : mem' n = mem n) : alive mem' n v E sz = alive mem n v E sz := by unfold alive; rw [h]
theorem nextO_same {n : Nat} (h : mem' n = mem n) : nextO mem' n = nextO mem n := by unfold nextO; rw [h]
theorem newSlO_same {dst : Option Nat} {E sz : Nat} {l : List Sh} {xs : List (TL l)} {wr : List (Nat × List C)} {rd : List Nat} (h : (newSlO mem dst E sz l xs wr rd).run some = some d) (hm : ∀ n ∈ d.rd, mem' n = mem n) : (newSlO mem' dst E sz l xs wr rd).run some = some d := by
  obtain ⟨dd, v, rfl, hv, rfl⟩ := newSlO_inv h
  simp only [newSlO]
  rw [nextO_same (hm _ (by simp)), hv]
  rfl
theorem newSl_same {dst : Option Nat} {E sz : Nat} {l : List Sh} {xs : List (TL l)} {wr : List (Nat × List C)} {rd : List Nat} (h : (newSl mem dst E sz l xs wr rd).run some = some d) (hm : ∀ n ∈ d.rd, mem' n = mem n) : (newSl mem' dst E sz l xs wr rd).run some = some d := by
  obtain ⟨dd, v, rfl, hv, rfl⟩ := newSl_inv h
  simp only [newSl]
  rw [nextV_same (hm _ (by simp)), hv]
  rfl
theorem pappend_same {dst : Option Nat} {t t' : TypeId} {s x : V} (h : (pappend X mem dst t t' s x).run some = some d) (hm : ∀ n ∈ d.rd, mem' n = mem n) : (pappend X mem' dst t t' s x).run some = some d := by
  unfold pappend at h ⊢
  split at h
  · split at h
    · rename_i ie e2
      cases hk : (Nat.beq (widSL ie.sh) ie.size && Nat.beq (widL ie.zero) ie.size && Nat.ble 1 ie.bytes) with
      | false => rw [hk] at h; exact (no_inv h).elim
      | true =>
        rw [hk] at h
        simp only [cond_true] at h ⊢
        split at h
        · rename_i tk xs tk' ys e3 e4
          rcases test_inv h with ⟨hb, h⟩ | ⟨_, h⟩
          · rw [hb]
            show (bif isNilS s then _ else _ : Pl).run some = _
            cases hn : isNilS s with
            | true =>
              rw [hn] at h
              simp only [cond_true] at h ⊢
              exact newSl_same h hm
            | false =>
              rw [hn] at h
              simp only [cond_false] at h ⊢
              split at h
              · rename_i n ver _
                cases ha : (alive mem n ver _ ie.size && !hasN n (dstTk dst)) with
                | false => rw [ha] at h; exact (no_inv h).elim
                | true =>
                  rw [ha] at h
                  simp only [cond_true] at h
                  have : n ∈ d.rd := by
                    obtain ⟨dd, v, _, _, rfl⟩ := newSl_inv h
                    simp
                  rw [alive_same (hm n this), ha]
                  exact newSl_same h hm
              · exact (no_inv h).elim
          · exact (no_inv h).elim
        · exact (no_inv h).elim
    · exact (no_inv h).elim
  · exact (no_inv h).elim
theorem pbuildSlice_same {dst : Option Nat} {t : TypeId} {len : Nat} {ps : List (Nat × V)} (h : (pbuildSlice X mem dst t len ps).run some = some d) (hm : ∀ n ∈ d.rd, mem' n = mem n) : (pbuildSlice X mem' dst t len ps).run some = some d := by
  unfold pbuildSlice at h ⊢
  split at h
  · split at h
    · rename_i ie e2
      cases hk : (Nat.beq (widSL ie.sh) ie.size && Nat.ble 1 ie.size && Nat.ble (len * ie.size) 16777216) with
      | false => rw [hk] at h; exact (no_inv h).elim
      | true =>
        rw [hk] at h
        simp only [cond_true] at h ⊢
        split at h
        · split at h
          · exact newSlO_same h hm
          · exact (no_inv h).elim
        · exact (no_inv h).elim
    · exact (no_inv h).elim
  · exact (no_inv h).elim
theorem pslice_same {dst : Option Nat} {t : TypeId} {x : V} {lo hi mx : Option V} (h : (pslice X mem dst t x lo hi mx).run some = some d) (hm : ∀ n ∈ d.rd, mem' n = mem n) : (pslice X mem' dst t x lo hi mx).run some = some d := by
  unfold pslice at h ⊢
  split at h
  · exact h
  · split at h
    · rename_i tk sh xs lo' hi' mx' _ _ _ _ _ ie e2
      cases hw : Nat.beq (widSL sh) ie.size with
      | false => rw [hw] at h; exact (no_inv h).elim
      | true =>
        rw [hw] at h
        simp only [cond_true] at h ⊢
        rcases test_inv h with ⟨hb, h⟩ | ⟨_, h⟩
        · rw [hb]
          rcases test_inv h with ⟨hb2, h⟩ | ⟨_, h⟩
          · rw [hb2]
            simp only [Pl.run, cond_true]
            split at h
            · exact h
            · rcases test_inv h with ⟨hb3, h⟩ | ⟨_, h⟩
              · simp only [Pl.run]
                rw [hb3]
                exact newSl_same h hm
              · exact (no_inv h).elim
            · exact (no_inv h).elim
          · exact (no_inv h).elim
        · exact (no_inv h).elim
    · exact (no_inv h).elim
  · exact (no_inv h).elim
theorem callTks_same {dd : Nat} : ∀ {q tl : List (Nat × Nat)} {i : Nat}, callTks mem dd i q = some tl → (∀ n ∈ tl.map (·.1), mem' n = mem n) → callTks mem' dd i q = some tl
  | [], _, _, h, _ => h
  | _ :: q, tl, i, h, hm => by
    unfold callTks at h ⊢
    split at h
    · rename_i v l e1 e2
      obtain rfl := (Option.some.inj h).symm
      rw [nextV_same (hm _ (by simp)), e1, callTks_same e2 (fun n hn => hm n (by rw [List.map_cons]; exact List.mem_cons_of_mem _ hn))]
    · cases h
theorem tkOne_same {p : Nat} {t : Nat × Nat × List Sh} {us us2 : List (Nat × Nat × Nat × Nat)} {c c' : C} (h : tkOne mem p t us c = some (c', us2)) :
    (∀ u ∈ us, u ∈ us2) ∧ ((∀ n ∈ us2.map (·.1), mem' n = mem n) → tkOne mem' p t us c = some (c', us2)) := by
  unfold tkOne at h ⊢
  split at h
  · simp only [Option.some.injEq, Prod.mk.injEq] at h
    obtain ⟨rfl, rfl⟩ := h
    exact ⟨fun _ h => h, fun _ => rfl⟩
  · rename_i n v l' xs
    cases hb : (alive mem n v t.1 t.2.1 && !hasN n (us.map (·.1))) with
    | false => rw [hb] at h; cases h
    | true =>
      rw [hb] at h
      simp only [cond_true, Option.some.injEq, Prod.mk.injEq] at h
      obtain ⟨rfl, rfl⟩ := h
      refine ⟨fun _ h => List.mem_cons_of_mem _ h, fun hm => ?_⟩
      rw [alive_same (hm n (by simp)), hb]; rfl
  · cases h
theorem tkC_same {f : Nat → Nat} : ∀ {cs cs' : List C} {p : Nat} {ts : Tks} {us us2 : List (Nat × Nat × Nat × Nat)}, tkC mem f p ts cs us = some (cs', us2) →
    (∀ u ∈ us, u ∈ us2) ∧ ((∀ n ∈ us2.map (·.1), mem' n = mem n) → tkC mem' f p ts cs us = some (cs', us2))
  | [], cs', p, [], us, us2, h => by
    simp only [tkC, Option.some.injEq, Prod.mk.injEq] at h
    obtain ⟨rfl, rfl⟩ := h
    exact ⟨fun _ h => h, fun _ => by simp [tkC]⟩
  | [], _, _, _ :: _, _, _, h => by simp [tkC] at h
  | c :: cs, cs', p, [], us, us2, h => by
    simp only [tkC] at h ⊢
    split at h
    · rename_i r us' e
      simp only [Option.some.injEq, Prod.mk.injEq] at h
      obtain ⟨rfl, rfl⟩ := h
      obtain ⟨h1, h2⟩ := tkC_same e
      exact ⟨h1, fun hm => by rw [h2 hm]⟩
    · cases h
  | c :: cs, cs', p, none :: ts, us, us2, h => by
    simp only [tkC] at h ⊢
    split at h
    · rename_i r us' e
      simp only [Option.some.injEq, Prod.mk.injEq] at h
      obtain ⟨rfl, rfl⟩ := h
      obtain ⟨h1, h2⟩ := tkC_same e
      exact ⟨h1, fun hm => by rw [h2 hm]⟩
    · cases h
  | c :: cs, cs', p, some t :: ts, us, us2, h => by
    simp only [tkC] at h ⊢
    split at h
    · rename_i r us' e
      split at h
      · rename_i c' us'' e2
        simp only [Option.some.injEq, Prod.mk.injEq] at h
        obtain ⟨rfl, rfl⟩ := h
        obtain ⟨h1, h2⟩ := tkC_same e
        obtain ⟨h3, h4⟩ := tkOne_same e2
        refine ⟨fun u hu => h3 u (h1 u hu), fun hm => ?_⟩
        rw [h2 (fun n hn => by
          obtain ⟨u, hu, rfl⟩ := List.mem_map.1 hn
          exact hm _ (List.mem_map.2 ⟨u, h3 u hu, rfl⟩))]
        simp only
        rw [h4 hm]
      · cases h
    · cases h
theorem tkAs_same {f : Nat → Nat} : ∀ {as as' : List A} {p : Nat} {tss : List Tks} {us : List (Nat × Nat × Nat × Nat)}, tkAs mem f p tss as = some (as', us) → (∀ n ∈ us.map (·.1), mem' n = mem n) → tkAs mem' f p tss as = some (as', us)
  | [], as', p, [], us, h, _ => by simpa [tkAs] using h
  | [], _, _, _ :: _, _, h, _ => by simp [tkAs] at h
  | y :: as, as', p, [], us, h, hm => by
    simp only [tkAs] at h ⊢
    split at h
    · rename_i r us' e
      simp only [Option.some.injEq, Prod.mk.injEq] at h
      obtain ⟨rfl, rfl⟩ := h
      rw [tkAs_same e hm]
    · cases h
  | y :: as, as', p, ts :: tss, us, h, hm => by
    simp only [tkAs] at h ⊢
    split at h
    · rename_i r us' e
      split at h
      · rename_i cs us'' e2
        split at h
        · rename_i y' e3
          simp only [Option.some.injEq, Prod.mk.injEq] at h
          obtain ⟨rfl, rfl⟩ := h
          obtain ⟨h1, h2⟩ := tkC_same (mem' := mem') e2
          rw [tkAs_same e (fun n hn => by
            obtain ⟨u, hu, rfl⟩ := List.mem_map.1 hn
            exact hm _ (List.mem_map.2 ⟨u, h1 u hu, rfl⟩))]
          simp only
          rw [h2 hm]
          simp only
          rw [e3]
        · cases h
      · cases h
    · cases h
theorem pcall_same {S : Sum} {dst : Option Nat} {vs : List V} (h : (pcall S mem dst vs).run some = some d) (hm : ∀ n ∈ d.rd, mem' n = mem n) : (pcall S mem' dst vs).run some = some d := by
  unfold pcall at h ⊢
  split at h
  · rename_i as dd e1
    dsimp only at h ⊢
    generalize dedup (nameAs as) [] = ns at h ⊢
    split at h
    · rename_i bs tl eb et
      split at h
      · rename_i al us ea
        cases hdj : disjN (us.map (·.1)) (tl.map (·.1)) with
        | false => rw [hdj] at h; exact (no_inv h).elim
        | true =>
        rw [hdj] at h
        simp only [cond_true, Pl.run] at h
        generalize has' : al.take as.length = as' at h
        generalize hbs' : (al.drop as.length).map cellsA = bs' at h
        cases hr : S.run as' bs' with
        | none => rw [hr] at h; cases h
        | some r =>
          rw [hr] at h
          simp only [Option.bind_some] at h
          generalize hmore : newNames dd 0 ((S.out as' bs' r).2.length - bs'.length) = more at h
          cases hk : (Nat.beq (S.out as' bs' r).2.length (ns ++ more).length && noneAt mem more) with
          | false => rw [hk] at h; cases h
          | true =>
            rw [hk] at h
            obtain rfl := (Option.some.inj h).symm
            have e2 : blksOf mem' ns = some bs := by rw [blksOf_same (fun n hn => hm n (by simp [hn]))]; exact eb
            have e3 : noneAt mem' more = noneAt mem more := noneAt_same (fun n hn => hm n (by simp [hn]))
            have e4 : callTks mem' dd 0 S.tks = some tl := callTks_same et (fun n hn => hm n (List.mem_append_left _ hn))
            have e5 : tkAs mem' (fun n => 2 * idxN n ns) 0 S.tin (as ++ bs) = some (al, us) := tkAs_same ea (fun n hn => hm n (List.mem_append_right _ (List.mem_append_right _ hn)))
            rw [e2, e4]
            simp only
            rw [e5]
            simp only [hdj, has', hbs', cond_true, Pl.run, hr, Option.bind_some, hmore, e3, hk]
      · exact (no_inv h).elim
    · exact (no_inv h).elim
  · exact (no_inv h).elim
theorem pconv_same {dst : Option Nat} {s t : TypeId} {x : V} (h : (pconv X mem dst s t x).run some = some d) (hm : ∀ n ∈ d.rd, mem' n = mem n) : (pconv X mem' dst s t x).run some = some d := by
  unfold pconv at h ⊢
  split at h
  · split at h
    · unfold pmark at h ⊢
      split at h
      · rename_i e _ _ _ _ n v l _ _ _
        split at h
        · cases hk : (Nat.beq s t && (Nat.beq (v % 2) 1 && (Nat.beq (widSL l) 1 && (alive mem n v e 1 && !hasN n (dstTk dst))))) with
          | false => rw [hk] at h; exact (no_inv h).elim
          | true =>
            rw [hk] at h
            obtain ⟨dd, v2, _, _, rfl⟩ := newSlO_inv h
            rw [alive_same (hm n (by simp)), hk]
            exact newSlO_same h hm
        · exact (no_inv h).elim
      · exact (no_inv h).elim
    · unfold pbytes at h ⊢
      split at h
      · split at h
        · rcases test_inv h with ⟨h1, h2⟩ | ⟨_, h2⟩
          · simp only [Pl.run]
            rw [h1]
            exact newSl_same h2 hm
          · exact (no_inv h2).elim
        · exact (no_inv h).elim
      · exact (no_inv h).elim
  · exact h
theorem plan_same (h : (plan X o fr mem).run some = some d) (hf : ∀ x ∈ o.op.operands.toList, ev fr' x = ev fr x) (hm : ∀ n ∈ d.rd, mem' n = mem n) : (plan X o fr' mem').run some = some d := by
  obtain ⟨dst, op, type, pos, after, guard⟩ := o
  unfold plan at h ⊢
  split at h <;> rename_i eop <;> simp only at eop <;> (try subst eop) <;> (try simp only [Op.operands] at hf) <;> (try simp only at h ⊢)
  · rwa [hf _ (by simp)]
  · rwa [hf _ (by simp)]
  · rename_i c x y
    rw [hf c (by simp), hf x (by simp), hf y (by simp)]; exact h
  · split at h
    · exact newBlk_same h hm
    · exact (no_inv h).elim
  · rename_i t x
    rw [hf x (by simp)]
    split at h
    · rename_i y ey
      cases hok : okA y with
      | false => rw [hok] at h; exact (no_inv h).elim
      | true => rw [hok] at h; exact newBlk_same h hm
    · exact (no_inv h).elim
  · rename_i t ps
    rw [evps_same (fun x hx => hf x.2 (by simp; exact ⟨x.1, by simpa using hx⟩))]; exact h
  · rename_i t x
    rw [hf x (by simp)]
    split at h
    · exact pload_same h hm
    · exact (no_inv h).elim
  · rename_i t p x
    rw [hf p (by simp), hf x (by simp)]
    split at h
    · exact pstore_same h hm
    · exact (no_inv h).elim
  · rename_i x
    rw [hf x (by simp)]; exact h
  · rename_i op t x y _
    rw [hf x (by simp), hf y (by simp)]; exact h
  · rename_i x
    rw [hf x (by simp)]; exact h
  · rename_i x
    rw [hf x (by simp)]; exact pconv_same h hm
  · rename_i x
    rw [hf x (by simp)]; exact h
  · rename_i x _
    rw [hf x (by simp)]; exact h
  · rename_i x _
    rw [hf x (by simp)]; exact h
  · rename_i t x i
    rw [hf x (by simp), hf i (by simp)]; exact h
  · rename_i t x i
    rw [hf x (by simp), hf i (by simp)]; exact h
  · rename_i t x lo hi mx
    have ho : ∀ y : Option Operand, (∀ z, y = some z → z ∈ #[x] ++ (lo.toArray ++ hi.toArray ++ mx.toArray)) → y.map (ev fr') = y.map (ev fr) := fun y hy => by
      cases y with
      | none => rfl
      | some z => exact congrArg some (hf z (by simpa using hy z rfl))
    rw [hf x (by simp), ho lo (fun z e => by simp [e]), ho hi (fun z e => by simp [e]), ho mx (fun z e => by simp [e])]
    exact pslice_same h hm
  · rename_i t len ps
    rw [evps_same (fun x hx => hf x.2 (by simp; exact ⟨x.1, by simpa using hx⟩))]
    exact pbuildSlice_same h hm
  · rename_i x _
    rw [hf x (by simp)]; exact h
  · rename_i f args ts
    rw [evs_same (fun x hx => hf x (by simp [Call.operands]; exact .inr (by simpa using hx)))]
    split at h
    · exact pcall_same h hm
    · exact (no_inv h).elim
  · rename_i t args ts
    rw [evs_same (fun x hx => hf x (by simp [Call.operands]; exact .inr (by simpa using hx))), show fr' t = fr t from hf (.tmp t) (by simp [Call.operands])]
    split at h
    · split at h
      · exact pcall_same h hm
      · exact (no_inv h).elim
    · exact (no_inv h).elim
  · rename_i args ts
    split at h
    · rename_i x t ex et
      rw [hf x (by simp [Call.operands]; have : x ∈ args.toList := by rw [ex]; simp
                   simpa using this)]
      exact h
    · exact (no_inv h).elim
  · rename_i args ts
    split at h
    · rename_i s x t t' ex et
      have hin : ∀ y, y = s ∨ y = x → ev fr' y = ev fr y := fun y hy => hf y (by
        simp [Call.operands]
        have : y ∈ args.toList := by rw [ex]; rcases hy with rfl | rfl <;> simp
        simpa using this)
      rw [hin s (.inl rfl), hin x (.inr rfl)]
      exact pappend_same h hm
    · exact (no_inv h).elim
  · rename_i args ts
    rw [evs_same (fun x hx => hf x (by simp [Call.operands]; simpa using hx))]; exact h
  · rename_i args ts
    rw [evs_same (fun x hx => hf x (by simp [Call.operands]; simpa using hx))]; exact h
  · exact (no_inv h).elim
theorem planG_same (h : (planG X ops o fr mem).run some = some d) (hf : ∀ t ∈ o.looksAt ops, fr' t = fr t) (hm : ∀ n ∈ d.rd, mem' n = mem n) : (planG X ops o fr' mem').run some = some d := by
  have h1 : ∀ x ∈ o.op.operands.toList, ev fr' x = ev fr x := fun x hx => ev_same fun t e => hf t (by
    subst e
    unfold Oper.looksAt
    exact List.mem_append_left _ (List.mem_filterMap.2 ⟨_, hx, rfl⟩))
  unfold planG at h ⊢
  split at h
  · exact plan_same h h1 hm
  · rename_i j want eg
    split at h
    · exact (no_inv h).elim
    · rename_i t et
      have h2 : fr' t = fr t := hf t (by
        unfold Oper.looksAt guardTmp at *
        rw [eg]
        exact List.mem_append_right _ (by simp [et]))
      rw [h2]
      split at h
      · rename_i v e
        rcases test_inv h with ⟨e1, h⟩ | ⟨e1, h⟩
        · rw [e1]; exact plan_same h h1 hm
        · rw [e1]; exact h
      · exact h
      · exact (no_inv h).elim
end
end Go.Proofs.YtmdnnlfoljdfpaaDoor.Mir
