/- The mirror's operations are right: slices. Nothing here names the program. -/
import Derived.Test.YtmdnnlfoljdfpaaDoorMirS
namespace Go.Proofs.YtmdnnlfoljdfpaaDoor.Mir
open Go Go.RowKit

theorem FlatS.mono {α : Type} {size : Nat} {R R' : α → List Value → Prop} (hR : ∀ x us, R x us → R' x us) : ∀ {xs : List α} {us : List Value}, FlatS size R xs us → FlatS size R' xs us
  | [], _, h => h
  | _ :: _, _, ⟨a, r, h1, h2, h3, h4⟩ => ⟨a, r, h1, h2, hR _ _ h3, h4.mono hR⟩
section
variable {P : Program} {b : Base} {N : Nat} {g : Gh} {fr : Nat → V} {mem : Nat → Option (List C)} {a : Act} {w : World} {d : Delta} {X : Ctx} {o : Oper} {Q : Exit → Act → World → Prop}
theorem heap_push_new (w : World) (x : Obj) : (w.alloc x).heap[w.heap.size]? = some x := heap_alloc_new w x
/-- A new row of one's own. -/
theorem Con.fresh (h : Con b N g fr mem a w) {us : List Value} {row : Array Value} {e : TypeId} (hu : ∀ (o : Nat) v, us[o]? = some v → row[o]? = some v) :
    ∃ g', g.le g' ∧ g'.j = g.j ∧ g'.th = g.th ∧ (∀ (o : Nat) v, us[o]? = some v → g'.K w.heap.size o = some v) ∧ (∀ o, us.length ≤ o → g'.K w.heap.size o = none) ∧ Con b N g' fr mem a (w.alloc (.cells row e)) := by
  refine h.know (w' := w.alloc (.cells row e)) (β := w.heap.size) (us := us) rfl rfl rfl (by simp) (fun k hk _ => Below.heap_alloc w _ k hk) (fun o v e => ?_) (fun o v e => ?_) (fun m e => ?_) (.inr h.only.size) (fun n v E sz e cap hm ht => ?_)
  · simp only [World.cell?, heap_alloc_new]
    exact hu o v e
  · exact absurd (block_lt_of_cell (h.known _ _ _ e)) (Nat.lt_irrefl _)
  · exact absurd (h.blk_lt e) (Nat.lt_irrefl _)
  · obtain ⟨τ, t1, t2⟩ := h.aliveAt hm
    obtain rfl := Option.some.inj (t1.symm.trans ht)
    exact absurd (t2 _ _ _ rfl).lt (Nat.lt_irrefl _)
theorem newSl_inv {dst : Option Nat} {E sz : Nat} {l : List Sh} {xs : List (TL l)} {wr : List (Nat × List C)} {rd : List Nat} (h : (newSl mem dst E sz l xs wr rd).run some = some d) :
    ∃ dd v, dst = some dd ∧ nextV mem (tkN dd 0) = some v ∧ d = ⟨one (.sl (some (tkN dd 0, v)) l xs), wr ++ [(tkN dd 0, [.tkt true v E sz])], rd ++ [tkN dd 0]⟩ := by
  unfold newSl at h
  split at h
  · rename_i dd
    split at h
    · rename_i v e
      exact ⟨dd, v, rfl, e, (Option.some.inj h).symm⟩
    · exact (no_inv h).elim
  · exact (no_inv h).elim
theorem newSlO_inv {dst : Option Nat} {E sz : Nat} {l : List Sh} {xs : List (TL l)} {wr : List (Nat × List C)} {rd : List Nat} (h : (newSlO mem dst E sz l xs wr rd).run some = some d) :
    ∃ dd v, dst = some dd ∧ nextO mem (tkN dd 0) = some v ∧ d = ⟨one (.sl (some (tkN dd 0, v)) l xs), wr ++ [(tkN dd 0, [.tkt true v E sz])], rd ++ [tkN dd 0]⟩ := by
  unfold newSlO at h
  split at h
  · rename_i dd
    split at h
    · rename_i v e
      exact ⟨dd, v, rfl, e, (Option.some.inj h).symm⟩
    · exact (no_inv h).elim
  · exact (no_inv h).elim
def TkVal (len : Nat) (x : Value) : Tk → Prop
  | .none => len = 0 ∧ x = .slice none 0 0
  | .full => ∃ a, x = .slice a len len
  | .own β e cap => e = len ∧ x = .slice (some ⟨β, 0, none⟩) len cap
/-- The end of an operation that makes a slice with a ticket. -/
theorem slFin {w' : World} {mem' : Nat → Option (List C)} {dd v E sz : Nat} {l : List Sh} {xs : List (TL l)} {x : Value} {τ : Tk} (hc : Con b N g fr mem' a w') (hd : ∀ t, o.dst = some t → t < N) (hv : mem' (tkN dd 0) = none ∨ ∃ al v' E' sz', mem' (tkN dd 0) = some [.tkt al v' E' sz'] ∧ v' < v) (hod : v % 2 = 1 → ∃ β e cap, τ = .own β e cap)
    (hτ : ∀ β e cap, τ = .own β e cap → OwnAt g b w' β e cap E sz) (hf : ∀ β e cap, τ = .own β e cap → ∀ m v E sz e' cap', mem' m = some [.tkt true v E sz] → g.th m v ≠ some (.own β e' cap'))
    (hr : RowS g.K (widSL l) (RepSL g.K l) xs x) (hx : TkVal xs.length x τ) :
    ∃ g', Con b N g' (apFr o.dst (one (.sl (some (tkN dd 0, v)) l xs)) fr) (over [(tkN dd 0, [.tkt true v E sz])] mem') (a.put o.dst x) w' := by
  obtain ⟨g', k1, k2, k3, k4, k5⟩ := hc.ticket (n := tkN dd 0) (v := v) (E := E) (sz := sz) (τ := τ) (by unfold tkN; omega) hv hod hτ (fun β e cap et m v' E' sz' e' cap' _ hm => hf β e cap et m v' E' sz' e' cap' hm)
  refine ⟨g', k5.put hd ⟨?_, fun n ver e => ?_⟩⟩
  · rw [k3]; exact hr
  · obtain ⟨rfl, rfl⟩ := Prod.mk.inj (Option.some.inj e)
    refine ⟨τ, k4, ?_⟩
    cases τ <;> exact hx
theorem asSl_rep {l : List Sh} {s : V} {x : Value} {tk : Option (Nat × Nat)} {xs : List (TL l)} (h : asSl l s = some (tk, xs)) (hx : RepV g s x) : RowS g.K (widSL l) (RepSL g.K l) xs x ∧ TkOf g tk xs.length x := by
  unfold asSl at h
  split at h
  · obtain ⟨rfl, rfl⟩ := Prod.mk.inj (Option.some.inj h)
    obtain rfl : x = _ := hx
    exact ⟨.inl ⟨rfl, none, 0, rfl⟩, fun _ _ e => by cases e⟩
  · split at h
    · rename_i he
      obtain ⟨rfl, rfl⟩ := Prod.mk.inj (Option.some.inj h)
      exact ⟨castL_rep he hx.1, by rw [castL_len]; exact hx.2⟩
    · cases h
  · cases h
theorem isNilS_rep {s : V} {x : Value} (h : isNilS s = true) (hx : RepV g s x) : x = .slice none 0 0 := by
  unfold isNilS at h
  split at h
  · exact hx
  · cases h
theorem Con.nofree (hc : Con b N g fr mem a w) {n v E sz β e cap : Nat} (hm : mem n = some [.tkt true v E sz]) (ht : g.th n v = some (.own β e cap)) : ∀ m v' E' sz' e' cap', over [(n, [C.tkt false v E sz])] mem m = some [.tkt true v' E' sz'] → g.th m v' ≠ some (.own β e' cap') := fun m v' E' sz' e' cap' hm' ht' => by
  rw [over_one] at hm'
  by_cases e : m = n
  · rw [if_pos e] at hm'
    injection hm' with hm'
    injection hm' with hm' _
    injection hm' with hm' _ _ _
    cases hm'
  · rw [if_neg e] at hm'
    exact e (hc.tinj m n v' v _ _ _ _ β e' _ cap' _ hm' hm ht' ht)
/-- Two slices, one behind the other: the world and the ticket behind it. -/
theorem append_end (hT : TyOk P X.ty) {t ty e : TypeId} {ie : TI} (h1 : P.underlying t = some (.slice e)) (h2 : X.ty e = some ie) (hsz : widSL ie.sh = ie.size) (hzz : widL ie.zero = ie.size) (hby : 1 ≤ ie.bytes)
    {mem1 : Nat → Option (List C)} (hc : Con b N g fr mem1 a w) {xs ys : List (TL ie.sh)} {vs vy : Value} (hs : RowS g.K (widSL ie.sh) (RepSL g.K ie.sh) xs vs) {t' : TypeId} {u' : TypeDesc} (ht' : P.underlying t' = some u') (hu' : u' = .string ∨ ∃ e', u' = .slice e') (hl : ∀ w', (Builtin.lenOf vy).run P w' = .ok ys.length w') {vs' : List Value} (y1 : FlatS (widSL ie.sh) (RepSL g.K ie.sh) ys vs') (y2 : Firsts P w (widSL ie.sh) ys.length vy vs')
    (hbig : (xs.length + ys.length) * ie.bytes ≤ 140737488355328) {τ : Tk} (hτ : TkVal xs.length vs τ) (hO : ∀ β e' cap, τ = .own β e' cap → OwnAt g b w β e' cap e ie.size)
    (hf : ∀ β e' cap, τ = .own β e' cap → ∀ m v E sz e2 cap', mem1 m = some [.tkt true v E sz] → g.th m v ≠ some (.own β e2 cap')) :
    ∃ x w' g' τ', (Builtin.append_ #[t, t'] ty #[vs, vy]).run P w = .ok x w' ∧ g.le g' ∧ Con b N g' fr mem1 a w' ∧ RowS g'.K (widSL ie.sh) (RepSL g'.K ie.sh) (xs ++ ys) x ∧ TkVal (xs ++ ys).length x τ' ∧
      (∀ β e' cap, τ' = .own β e' cap → OwnAt g' b w' β e' cap e ie.size) ∧ (∀ β e' cap, τ' = .own β e' cap → ∀ m v E sz e2 cap', mem1 m = some [.tkt true v E sz] → g'.th m v ≠ some (.own β e2 cap')) := by
  obtain ⟨f, z, q1, q2, q3, q4, q5⟩ := hT.inf _ _ h2
  have hzs : z.cells.size = ie.size := by
    have := (rep_conc g q5).length
    rw [hzz] at this
    simpa using this
  obtain ⟨us, f1, f2, ⟨sa, sCap, rfl, f3⟩⟩ := firsts_row (P := P) hc.known hs
  rw [hsz, ← q2] at f2 y2
  have hRone : ∀ (x : TL ie.sh) us, RepSL g.K ie.sh x us → ∀ u ∈ us, u.oneCell' = true := fun x us h => RepSL.one h
  -- the new row
  have grow : sCap < xs.length + ys.length → ∃ x w' g' τ', (Builtin.append_ #[t, t'] ty #[.slice sa xs.length sCap, vy]).run P w = .ok x w' ∧ g.le g' ∧ Con b N g' fr mem1 a w' ∧ RowS g'.K (widSL ie.sh) (RepSL g'.K ie.sh) (xs ++ ys) x ∧ TkVal (xs ++ ys).length x τ' ∧
      (∀ β e' cap, τ' = .own β e' cap → OwnAt g' b w' β e' cap e ie.size) ∧ (∀ β e' cap, τ' = .own β e' cap → ∀ m v E sz e2 cap', mem1 m = some [.tkt true v E sz] → g'.th m v ≠ some (.own β e2 cap')) := fun hg => by
    have hle : xs.length + ys.length ≤ 140737488355328 := Nat.le_trans (Nat.le_mul_of_pos_right _ hby) hbig
    have hrun := append_grows (ty := ty) h1 q1 q4 ht' hu' hl f2 y2 hg (by omega) (by rw [q3]; exact growslice_fits hg hbig)
    have hcap := grownCap_ge w (xs.length + ys.length) sCap e
    have hmax := grownCap_le_maxLen w (xs.length + ys.length) sCap e (by simp only [maxLen]; omega)
    generalize grownCap w (xs.length + ys.length) sCap e = nc at hrun hcap hmax
    have hlu := f1.len
    have hlv := y1.len
    obtain ⟨g', k1, k2, k3, k4, k5, k6⟩ := hc.drew.fresh (e := e) (us := us ++ vs') (row := us.toArray ++ vs'.toArray ++ Builtin.zeroCells z.cells (nc - (xs.length + ys.length))) (fun o v e => by
      have ho := (List.getElem?_eq_some_iff.1 e).1
      rw [← Array.getElem?_toList]
      simp only [Array.toList_append]
      rw [List.getElem?_append_left (by simpa using ho)]
      exact e)
    have hfl := (f1.append y1).mono (R' := RepSL g'.K ie.sh) (fun x us => RepSL.mono k1.K)
    refine ⟨_, _, g', .own w.heap.size (xs.length + ys.length) nc, hrun, k1, k6, ?_, ⟨by simp, by simp⟩, fun β e' cap et => ?_, fun β e' cap et m v E sz e2 cap' hm ht => ?_⟩
    · have := hfl.row (β := w.heap.size) (off := 0) (cap := nc) (fun j u e => by rw [Nat.zero_add]; exact k4 j u e) (by simpa using hcap)
      simpa using this
    · injection et with e1 e2 e3
      subst e1; subst e2; subst e3
      refine ⟨⟨⟨_, (0, 0), heap_alloc_new _ _, .inl rfl, ?_⟩, hcap, hmax, fun q hq => k5 q ?_, fun m em => ?_⟩, .inr hc.only.size⟩
      · simp only [Array.size_append, List.size_toArray, size_zeroCells, hlu, hlv, hzs, hsz]
        rw [← Nat.add_mul, ← Nat.add_mul]; congr 1; omega
      · rw [List.length_append, hlu, hlv, hsz, ← Nat.add_mul]; exact hq
      · rw [k2] at em
        exact absurd (hc.blk_lt em) (Nat.lt_irrefl _)
    · injection et with e1 _ _
      subst e1
      rw [k3] at ht
      obtain ⟨τ2, t1, t2⟩ := hc.aliveAt hm
      obtain rfl := Option.some.inj (t1.symm.trans ht)
      exact absurd (t2 _ _ _ rfl).lt (Nat.lt_irrefl _)
  -- nothing new
  have same : ys.length = 0 → xs.length ≤ sCap → ∃ x w' g' τ', (Builtin.append_ #[t, t'] ty #[.slice sa xs.length sCap, vy]).run P w = .ok x w' ∧ g.le g' ∧ Con b N g' fr mem1 a w' ∧ RowS g'.K (widSL ie.sh) (RepSL g'.K ie.sh) (xs ++ ys) x ∧ TkVal (xs ++ ys).length x τ' ∧
      (∀ β e' cap, τ' = .own β e' cap → OwnAt g' b w' β e' cap e ie.size) ∧ (∀ β e' cap, τ' = .own β e' cap → ∀ m v E sz e2 cap', mem1 m = some [.tkt true v E sz] → g'.th m v ≠ some (.own β e2 cap')) := fun hy0 hle => by
    obtain rfl := List.eq_nil_of_length_eq_zero hy0
    simp only [FlatS] at y1
    subst y1
    refine ⟨_, w, g, τ, append_none h1 q1 ht' hu' hl y2 hle, Gh.le.refl g, hc, by simpa using hs, by simpa using hτ, hO, hf⟩
  cases τ with
  | none =>
    obtain ⟨e1, e2⟩ := hτ
    injection e2 with e2 e3 e4
    rcases Nat.eq_zero_or_pos ys.length with h0 | h0
    · exact same h0 f3
    · exact grow (by omega)
  | full =>
    obtain ⟨aa, e2⟩ := hτ
    injection e2 with e2 e3 e4
    rcases Nat.eq_zero_or_pos ys.length with h0 | h0
    · exact same h0 f3
    · exact grow (by omega)
  | own β e' cap =>
    obtain ⟨rfl, e2⟩ := hτ
    injection e2 with e2 e3 e4
    subst e2; subst e4
    have O := hO β _ _ rfl
    rcases Nat.lt_or_ge sCap (xs.length + ys.length) with hg | hg
    · exact grow hg
    · obtain ⟨cur, fz, r1, r2, r3⟩ := O.row
      have hcl : cur.toList.length = cur.size := Array.length_toList
      have hlu := f1.len
      have hlv := y1.len
      rw [hsz] at hlu hlv
      have hfit : xs.length * f.size + vs'.length ≤ cur.size := by rw [q2, hlv, r3, ← Nat.add_mul]; exact Nat.mul_le_mul_right _ hg
      have hrun := append_own (ty := ty) h1 q1 ht' hu' hl r1 (r2.imp (fun e => Nat.le_of_eq e) id) y2 (y1.all hRone) hg hfit
      rw [q2] at hrun hfit
      -- the old cells
      have hold : ∀ (q : Nat) u, us[q]? = some u → g.K β q = some u := by
        rcases hs.flat with ⟨e5, ad, c0, e6⟩ | ⟨β', off, cap', us2, e5, _, e6, e7⟩
        · subst e5
          intro q u hq
          have hl0 : us.length = 0 := by rw [f1.len]; simp
          rw [List.eq_nil_of_length_eq_zero hl0] at hq
          simp at hq
        · injection e5 with e5 _ _
          injection e5 with e5
          injection e5 with e5 e8 _
          subst e5; subst e8
          -- the same cells, as both are what 'firstCells' reads
          intro q u hq
          have hk := f2 w rfl
          have hl2 := e6.len
          rw [hsz] at hl2
          have hk2 := run_firstCells_some (P := P) w ie.size xs.length ⟨β, 0, none⟩ xs.length sCap us2 hl2 (fun j u e => by
            rw [add_off]; exact hc.known _ _ _ (e7 j u e))
          rw [q2] at hk
          rw [hk2] at hk
          injection hk with hk _
          have : us2 = us := by
            have := congrArg Array.toList hk
            simpa using this
          subst this
          have := e7 q u hq
          rw [Nat.zero_add] at this
          exact this
      have hcell : ∀ (q : Nat) u, g.K β q = some u → cur[q]? = some u := fun q u hk => by
        have := hc.known β q u hk
        rwa [cell_row r1] at this
      obtain ⟨g', k1, k2, k3, k4, k5, k6⟩ := hc.know (w' := w.setRow β (cur.toList.take (xs.length * ie.size) ++ vs' ++ cur.toList.drop (xs.length * ie.size + vs'.length)).toArray) (β := β) (us := us ++ vs')
        rfl rfl rfl (by simp) (fun k _ hk => setRow_other w β k _ hk)
        (fun q u e => by
          rw [cell_row (setRow_heap w β cur _ _ fz r1), ← Array.getElem?_toList]
          rcases Nat.lt_or_ge q us.length with hq | hq
          · rw [List.getElem?_append_left hq] at e
            have h5 := hcell q u (hold q u e)
            have h6 := (Array.getElem?_eq_some_iff.1 h5).1
            rw [List.append_assoc, List.getElem?_append_left (by rw [List.length_take]; omega), List.getElem?_take, if_pos (by omega), Array.getElem?_toList]
            exact h5
          · rw [List.getElem?_append_right hq] at e
            have h6 := (List.getElem?_eq_some_iff.1 e).1
            have h7 : (cur.toList.take (xs.length * ie.size)).length = us.length := by rw [List.length_take]; omega
            rw [List.append_assoc, List.getElem?_append_right (by omega), h7, List.getElem?_append_left h6]
            exact e)
        (fun q u e => by
          rcases Nat.lt_or_ge q us.length with hq | hq
          · have h5 := hold q _ (List.getElem?_eq_getElem hq)
            rw [e] at h5
            rw [List.getElem?_append_left hq, List.getElem?_eq_getElem hq]
            exact h5.symm
          · rw [O.dark q (by omega)] at e; cases e)
        O.mine O.new (fun n v E sz e' cap' hm => hf β _ _ rfl n v E sz e' cap' hm)
      have hfl := (f1.append y1).mono (R' := RepSL g'.K ie.sh) (fun x us => RepSL.mono k1.K)
      refine ⟨_, _, g', .own β (xs.length + ys.length) sCap, hrun, k1, k6, ?_, ⟨by simp, by simp⟩, fun β' e' cap' et => ?_, fun β' e' cap' et m v E sz e2 cap2 hm ht => ?_⟩
      · have := hfl.row (β := β) (off := 0) (cap := sCap) (fun j u e => by rw [Nat.zero_add]; exact k4 j u e) (by simpa using hg)
        simpa using this
      · injection et with e1 e2 e3
        subst e1; subst e2; subst e3
        refine ⟨⟨⟨_, fz, setRow_heap w β cur _ e fz r1, ?_, ?_⟩, hg, O.most, fun q hq => k5 q ?_, fun m em => ?_⟩, O.new⟩
        · have : (cur.toList.take (xs.length * ie.size) ++ vs' ++ cur.toList.drop (xs.length * ie.size + vs'.length)).toArray.size = cur.size := by
            simp only [List.size_toArray, List.length_append, List.length_take, List.length_drop, Array.length_toList]; omega
          rw [this]; exact r2
        · have : (cur.toList.take (xs.length * ie.size) ++ vs' ++ cur.toList.drop (xs.length * ie.size + vs'.length)).toArray.size = cur.size := by
            simp only [List.size_toArray, List.length_append, List.length_take, List.length_drop, Array.length_toList]; omega
          rw [this]; exact r3
        · rw [List.length_append, hlu, hlv, ← Nat.add_mul]; exact hq
        · rw [k2] at em; exact O.mine m em
      · injection et with e1 _ _
        subst e1
        rw [k3] at ht
        exact hf β _ _ rfl m v E sz e2 cap2 hm ht
theorem Good.ran {s : Sem Value} {x : Value} {w' : World} (he : execOp a.eval o = (do pure (.value (← s)))) (h : s.run P w = .ok x w')
    (h' : ∃ g', Con b N g' (apFr o.dst d.v fr) (over d.wr mem) (a.put o.dst x) w') : Good P b N o d fr mem a w Q := by
  unfold Good Oper.wp
  rw [he, Sem.run_bind, h]
  simp only [Result.andThen_ok, Sem.run_pure, Oper.upon]
  exact h'
theorem asSrc_rep (hT : TyOk P X.ty) (hc : Con b N g fr mem a w) {t' : TypeId} {l : List Sh} {x : V} {vx : Value} {ys : List (TL l)} (hx : RepV g x vx) (h : asSrc X l t' x = some ys) :
    ∃ u', P.underlying t' = some u' ∧ (u' = .string ∨ ∃ e', u' = .slice e') ∧ (∀ w', (Builtin.lenOf vx).run P w' = .ok ys.length w') ∧ ∃ vs', FlatS (widSL l) (RepSL g.K l) ys vs' ∧ Firsts P w (widSL l) ys.length vx vs' := by
  unfold asSrc at h
  split at h
  · rename_i e e0
    split at h
    · rename_i tk ys' e1
      obtain rfl := Option.some.inj h
      obtain ⟨r3, _⟩ := asSl_rep e1 hx
      obtain ⟨vs', y1, y2, ⟨ya, yc, rfl, y3⟩⟩ := firsts_row (P := P) hc.known r3
      exact ⟨_, hT.und _ _ e0, .inr ⟨_, rfl⟩, fun w' => rfl, vs', y1, y2⟩
    · cases h
  · rename_i s e0
    split at h
    · rename_i he
      obtain rfl := Option.some.inj h
      obtain rfl : vx = .string s := hx
      have e := shEqL_eq he
      subst e
      have hbl : (bytesL s).length = s.size := by unfold bytesL; rw [List.length_map]; rfl
      refine ⟨_, hT.und _ _ e0, .inl rfl, fun w' => ?_, (bytesL s).map (Value.int .u8), ?_, fun w' _ => ?_⟩
      · rw [castL_len, hbl]; rfl
      · show FlatS 1 (RepSL g.K [.int .u8]) (bytesL s) _
        generalize bytesL s = l
        induction l with
        | nil => rfl
        | cons z l ih => exact ⟨[.int .u8 z], _, rfl, rfl, by simp only [RepSL, RepS], ih⟩
      · rw [castL_len, hbl]
        have e : s.extract 0 s.size = s := by
          apply ByteArray.ext
          simp
        show (pure ((s.extract 0 s.size).data.map fun b => Value.int .u8 b.toNat) : Sem (Array Value)).run P w' = _
        rw [e]
        refine congrArg (fun a => Result.ok a w') (Array.ext' ?_)
        simp [bytesL]
    · cases h
  · cases h
theorem pappend_ok (hT : TyOk P X.ty) {t t' ty : TypeId} (hc : Con b N g fr mem a w) (hd : ∀ t, o.dst = some t → t < N) {s x : V} {vs vx : Value} (hs : RepV g s vs) (hx : RepV g x vx)
    (he : execOp a.eval o = (do pure (.value (← Builtin.append_ #[t, t'] ty #[vs, vx])))) (h : (pappend X mem o.dst t t' s x).run some = some d) : Good P b N o d fr mem a w Q := by
  unfold pappend at h
  split at h
  · rename_i e _ _ _ _ e1
    split at h
    · rename_i ie e2
      cases hk : (Nat.beq (widSL ie.sh) ie.size && Nat.beq (widL ie.zero) ie.size && Nat.ble 1 ie.bytes) with
      | false => rw [hk] at h; exact (no_inv h).elim
      | true =>
        rw [hk] at h
        simp only [Bool.and_eq_true] at hk
        obtain ⟨⟨k1, k2⟩, k3⟩ := hk
        have k1 := Nat.eq_of_beq_eq_true k1
        have k2 := Nat.eq_of_beq_eq_true k2
        have k3 := Nat.le_of_ble_eq_true k3
        simp only [cond_true] at h
        split at h
        · rename_i tk xs ys e3 e4
          obtain ⟨r1, r2⟩ := asSl_rep e3 hs
          obtain ⟨u', ht', hu', hl, vs', y1, y2⟩ := asSrc_rep hT hc hx e4
          rcases test_inv h with ⟨hb, h⟩ | ⟨_, h⟩
          · have hb := of_decide_eq_true hb
            have hu := hT.und _ _ e1
            cases hn : isNilS s with
            | true =>
              rw [hn] at h
              simp only [cond_true] at h
              obtain ⟨dd, v, ed, hv, rfl⟩ := newSl_inv h
              obtain rfl := isNilS_rep hn hs
              have hx0 : xs.length = 0 := by
                rcases r1 with ⟨rfl, _⟩ | ⟨β, off, cap, ev, _⟩
                · rfl
                · cases ev
              obtain ⟨x', w', g', τ', z1, z2, z3, z4, z5, z6, z7⟩ := append_end (ty := ty) (τ := .none) hT hu e2 k1 k2 k3 hc r1 ht' hu' hl y1 y2 hb ⟨hx0, rfl⟩ (fun _ _ _ e => by cases e) (fun _ _ _ e => by cases e)
              exact Good.ran he z1 (slFin z3 hd (nextV_spec hv).1 (fun h => by have := (nextV_spec hv).2; omega) z6 z7 z4 z5)
            | false =>
              rw [hn] at h
              simp only [cond_false] at h
              split at h
              · rename_i n ver _
                cases ha : (alive mem n ver e ie.size && !hasN n (dstTk o.dst)) with
                | false => rw [ha] at h; exact (no_inv h).elim
                | true =>
                  rw [ha] at h
                  simp only [Bool.and_eq_true, Bool.not_eq_true'] at ha
                  obtain ⟨dd, v, ed, hv, rfl⟩ := newSl_inv h
                  have hal := alive_spec ha.1
                  have hne : n ≠ tkN dd 0 := fun en => by
                    have := ha.2
                    rw [ed] at this
                    simp [dstTk, hasN, en] at this
                  obtain ⟨τ, t1, t2⟩ := hc.aliveAt hal
                  obtain ⟨τ', t3, t4⟩ := r2 n ver rfl
                  obtain rfl := Option.some.inj (t1.symm.trans t3)
                  have hc1 := hc.kill hal (hc.odd hal)
                  obtain ⟨x', w', g', τ', z1, z2, z3, z4, z5, z6, z7⟩ := append_end (ty := ty) (τ := τ) hT hu e2 k1 k2 k3 hc1 r1 ht' hu' hl y1 y2 hb (by cases τ <;> exact t4) t2 (fun β e' cap et m v E sz e2 cap' hm => by
                    subst et
                    exact hc.nofree hal t1 m v E sz e2 cap' hm)
                  refine Good.ran he z1 ?_
                  simp only [List.cons_append, List.nil_append]
                  rw [over_two hne]
                  refine slFin z3 hd ?_ (fun h => by have := (nextV_spec hv).2; omega) z6 z7 z4 z5
                  rw [over_one, if_neg (Ne.symm hne)]
                  exact (nextV_spec hv).1
              · exact (no_inv h).elim
          · exact (no_inv h).elim
        · exact (no_inv h).elim
    · exact (no_inv h).elim
  · exact (no_inv h).elim
end
end Go.Proofs.YtmdnnlfoljdfpaaDoor.Mir
