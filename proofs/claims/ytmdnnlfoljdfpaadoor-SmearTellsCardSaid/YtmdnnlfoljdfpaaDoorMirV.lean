/- The mirror's operations are right: slice literals, slicing. Nothing here names the program. -/
import Derived.Test.YtmdnnlfoljdfpaaDoorMirU
import Derived.Lib.ConvBytes
namespace Go.Proofs.YtmdnnlfoljdfpaaDoor.Mir
open Go Go.RowKit

theorem FlatS.set {α : Type} {size : Nat} {R : α → List Value → Prop} {xs : List α} {us a : List Value} {i : Nat} {x : α} (h : FlatS size R xs us) (hi : i < xs.length) (ha : a.length = size) (hx : R x a) :
    FlatS size R (xs.set i x) (us.take (i * size) ++ a ++ us.drop (i * size + size)) := by
  have hl := h.len
  have hb : i * size + size ≤ xs.length * size := by
    have := Nat.mul_le_mul_right size (show i + 1 ≤ xs.length from hi)
    rw [Nat.add_mul, Nat.one_mul] at this; exact this
  have hlt : (us.take (i * size)).length = i * size := by rw [List.length_take]; omega
  refine flat_of_get ?_ (fun k y e => ?_)
  · simp only [List.length_append, List.length_drop, hlt, ha, hl, List.length_set]; omega
  · rw [List.getElem?_set] at e
    by_cases hk : i = k
    · subst hk
      rw [if_pos rfl, if_pos hi] at e
      obtain rfl := Option.some.inj e
      refine ⟨a, ha, hx, fun j u hj => ?_⟩
      have hjl := (List.getElem?_eq_some_iff.1 hj).1
      rw [List.append_assoc, List.getElem?_append_right (by omega), hlt, List.getElem?_append_left (by omega), ← hj]
      congr 1; omega
    · rw [if_neg hk] at e
      obtain ⟨b, k1, k2, k3⟩ := h.get e
      refine ⟨b, k1, k2, fun j u hj => ?_⟩
      have hjl := (List.getElem?_eq_some_iff.1 hj).1
      rw [← k3 j u hj]
      rcases Nat.lt_or_gt_of_ne hk with hlt' | hgt
      · have : (i + 1) * size ≤ k * size := Nat.mul_le_mul_right _ hlt'
        rw [Nat.add_mul, Nat.one_mul] at this
        rw [List.getElem?_append_right (by rw [List.length_append, hlt, ha]; omega), List.length_append, hlt, ha, List.getElem?_drop]
        congr 1; omega
      · have : (k + 1) * size ≤ i * size := Nat.mul_le_mul_right _ hgt
        rw [Nat.add_mul, Nat.one_mul] at this
        rw [List.append_assoc, List.getElem?_append_left (by omega), List.getElem?_take, if_pos (by omega)]
section
variable {P : Program} {b : Base} {N : Nat} {g : Gh} {fr : Nat → V} {mem : Nat → Option (List C)} {a : Act} {w : World} {d : Delta} {X : Ctx} {o : Oper} {Q : Exit → Act → World → Prop}
theorem fill_flat {ie : TI} (hsz : widSL ie.sh = ie.size) : ∀ {ps : List (Nat × V)} {qs : List (Nat × Value)} {xs ys : List (TL ie.sh)} {cells : Array Value}, pbuildSl ie xs ps = some ys → RepPs g ps qs → FlatS ie.size (RepSL g.K ie.sh) xs cells.toList →
    ∃ us : Array Value, Instr.fill (fun i => some (i * ie.size, ie.size)) cells qs = some us ∧ FlatS ie.size (RepSL g.K ie.sh) ys us.toList
  | [], qs, xs, ys, cells, h, hp, hf => by
    simp only [RepPs] at hp
    subst hp
    simp only [pbuildSl, Option.some.injEq] at h
    subst h
    exact ⟨cells, rfl, hf⟩
  | (i, v) :: ps, qs, xs, ys, cells, h, hp, hf => by
    obtain ⟨x, r, rfl, hx, hp⟩ := hp
    cases v with
    | tup l => simp [pbuildSl] at h
    | a y =>
      simp only [pbuildSl] at h
      cases hk : (okA y && Nat.blt i xs.length) with
      | false => rw [hk] at h; cases h
      | true =>
        rw [hk] at h
        simp only [cond_true] at h
        simp only [Bool.and_eq_true] at hk
        have hi : i < xs.length := by simpa using hk.2
        split at h
        · rename_i z e
          have hc := cells_rep hk.1 hx
          have hr := decL_rep e hc
          have hl := hr.len
          rw [hsz] at hl
          have hcl : x.cells.size = ie.size := by simpa using hl
          have hb : i * ie.size + ie.size ≤ cells.size := by
            have h1 := hf.len
            rw [Array.length_toList] at h1
            have := Nat.mul_le_mul_right ie.size (show i + 1 ≤ xs.length from hi)
            rw [Nat.add_mul, Nat.one_mul] at this
            rw [h1]; exact this
          obtain ⟨us, k1, k2⟩ := fill_flat hsz (cells := (cells.toList.take (i * ie.size) ++ x.cells.toList ++ cells.toList.drop (i * ie.size + x.cells.size)).toArray) h hp (by
            have := hf.set hi hl hr
            simpa [hcl] using this)
          refine ⟨us, ?_, k2⟩
          unfold Instr.fill
          simp only
          rw [if_neg (by simp only [hcl, ne_eq, not_true, Bool.or_eq_true, decide_eq_true_eq, false_or]; omega), fold_set _ _ _ (by omega)]
          exact k1
        · cases h
theorem zeros_flat {α : Type} {R : α → List Value → Prop} {z : Array Value} {size len : Nat} {x : α} (hz : z.size = size) (hx : R x z.toList) :
    FlatS size R (List.replicate len x) ((Array.range (len * size)).map (z[· % z.size]!)).toList := by
  refine flat_of_get (by simp) (fun i y e => ?_)
  have hi : i < len := by
    have := (List.getElem?_eq_some_iff.1 e).1
    simpa using this
  obtain rfl : y = x := by
    rw [List.getElem?_eq_getElem (by simpa using hi)] at e
    simpa using e.symm
  refine ⟨z.toList, by simpa using hz, hx, fun j u hj => ?_⟩
  have hjl := (List.getElem?_eq_some_iff.1 hj).1
  rw [Array.length_toList, hz] at hjl
  have hb : i * size + j < len * size := by
    have := Nat.mul_le_mul_right size (show i + 1 ≤ len from hi)
    rw [Nat.add_mul, Nat.one_mul] at this
    omega
  rw [Array.getElem?_toList, Array.getElem?_map, Array.getElem?_range, if_pos hb]
  simp only [Option.map_some]
  rw [hz, Nat.mul_comm, Nat.mul_add_mod, Nat.mod_eq_of_lt hjl, getElem!_def]
  rw [Array.getElem?_toList] at hj
  rw [hj]
theorem rng0 (h : Nat → Value) : (Array.range 0).map h = #[] := Array.ext' (by simp)
theorem pbuildSlice_ok (hT : TyOk P X.ty) {t : TypeId} {len : Nat} {ps : List (Nat × V)} {qs : Array (Nat × Value)} (hc : Con b N g fr mem a w) (hd : ∀ t, o.dst = some t → t < N) (hp : RepPs g ps qs.toList)
    (he : execOp a.eval o = (do pure (.value (← Instr.buildSlice t len qs)))) (h : (pbuildSlice X mem o.dst t len ps).run some = some d) : Good P b N o d fr mem a w Q := by
  unfold pbuildSlice at h
  split at h
  · rename_i e _ _ _ _ e1
    split at h
    · rename_i ie e2
      cases hk : (Nat.beq (widSL ie.sh) ie.size && Nat.ble 1 ie.size && Nat.ble (len * ie.size) 16777216) with
      | false => rw [hk] at h; exact (no_inv h).elim
      | true =>
        rw [hk] at h
        simp only [Bool.and_eq_true] at hk
        obtain ⟨⟨k1, k2⟩, k3⟩ := hk
        have k1 := Nat.eq_of_beq_eq_true k1
        have k2 := Nat.le_of_ble_eq_true k2
        have k3 := Nat.le_of_ble_eq_true k3
        simp only [cond_true] at h
        split at h
        · rename_i z0 ez
          split at h
          · rename_i xs ex
            obtain ⟨dd, v, ed, hv, rfl⟩ := newSlO_inv h
            obtain ⟨f, z, q1, q2, q3, q4, q5⟩ := hT.inf _ _ e2
            have hzr := decL_rep ez (rep_conc g q5)
            have hzl := hzr.len
            have hzs : z.cells.size = ie.size := by rw [← k1, ← hzl]; simp
            obtain ⟨us, u1, u2⟩ := fill_flat (g := g) k1 ex hp (zeros_flat hzs hzr)
            have hxl : xs.length = len := by
              have : ∀ (ps : List (Nat × V)) (ys zs : List (TL ie.sh)), pbuildSl ie ys ps = some zs → zs.length = ys.length := by
                intro ps
                induction ps with
                | nil => intro ys zs e; simp only [pbuildSl, Option.some.injEq] at e; rw [e]
                | cons p ps ih =>
                  intro ys zs e
                  obtain ⟨i, v⟩ := p
                  cases v with
                  | tup l => simp [pbuildSl] at e
                  | a y =>
                    simp only [pbuildSl] at e
                    cases hk : (okA y && Nat.blt i ys.length) with
                    | false => rw [hk] at e; cases e
                    | true =>
                      rw [hk] at e
                      simp only [cond_true] at e
                      split at e
                      · rw [ih _ _ e, List.length_set]
                      · cases e
              rw [this _ _ _ ex, List.length_replicate]
            have hrun : (Instr.buildSlice t len qs).run P w = .ok (.slice (some ⟨w.heap.size, 0, none⟩) len len) (w.alloc (.cells us e)) := by
              have hu := hT.und _ _ e1
              have hsm : ¬ (16777216 < len * f.size) := by rw [q2]; omega
              by_cases h0 : len * ie.size = 0
              · obtain rfl : len = 0 := by
                  rcases Nat.mul_eq_zero.1 h0 with h | h
                  · exact h
                  · omega
                have u1' : Instr.fill (fun i => some (i * f.size, f.size)) #[] qs.toList = some us := by
                  rw [q2]
                  rw [Nat.zero_mul, rng0] at u1
                  exact u1
                simp [Instr.buildSlice, run_underlying hu, sizeOf, typeInfo, q1, newRow]
                rw [rng0, u1']
                simp
              · have h0' : ¬ (len * f.size = 0) := by rw [q2]; exact h0
                have u1' : Instr.fill (fun i => some (i * f.size, f.size)) ((Array.range (len * f.size)).map (z.cells[· % z.cells.size]!)) qs.toList = some us := by rw [q2]; exact u1
                simp [Instr.buildSlice, run_underlying hu, sizeOf, typeInfo, zeroValue, q1, q4, hsm, h0', u1', newRow]
            have hul := u2.len
            rw [Array.length_toList] at hul
            obtain ⟨g', r1, r2, r3, r4, r5, r6⟩ := hc.fresh (e := e) (us := us.toList) (row := us) (fun o v e => by rwa [Array.getElem?_toList] at e)
            refine Good.ran he hrun ?_
            simp only [List.nil_append]
            refine slFin (τ := .own w.heap.size len len) r6 hd (nextO_spec hv) (fun _ => ⟨_, _, _, rfl⟩) (fun β e' cap et => ?_) (fun β e' cap et m v E sz e2 cap' hm ht => ?_) ?_ ⟨by rw [hxl], by rw [hxl]⟩
            · injection et with e1 e2 e3
              subst e1; subst e2; subst e3
              refine ⟨⟨⟨_, (0, 0), heap_alloc_new _ _, .inl rfl, by rw [hul, hxl]⟩, Nat.le_refl _, ?_, fun q hq => r5 q (by rw [Array.length_toList, hul, hxl]; exact hq), fun m em => ?_⟩, .inr hc.only.size⟩
              · have : len ≤ len * ie.size := Nat.le_mul_of_pos_right _ k2
                simp only [maxLen]; omega
              · rw [r2] at em
                exact absurd (hc.blk_lt em) (Nat.lt_irrefl _)
            · injection et with e1 _ _
              subst e1
              rw [r3] at ht
              obtain ⟨τ2, t1, t2⟩ := hc.aliveAt hm
              obtain rfl := Option.some.inj (t1.symm.trans ht)
              exact absurd (t2 _ _ _ rfl).lt (Nat.lt_irrefl _)
            · rw [k1]
              have := (u2.mono (R' := RepSL g'.K ie.sh) (fun x us => RepSL.mono r1.K)).row (β := w.heap.size) (off := 0) (cap := len) (fun j u e => by rw [Nat.zero_add]; exact r4 j u e) (Nat.le_of_eq hxl)
              rw [hxl] at this
              exact this
          · exact (no_inv h).elim
        · exact (no_inv h).elim
    · exact (no_inv h).elim
  · exact (no_inv h).elim
theorem optI_rep {x : Option Operand} {n : Option Int} (hr : ∀ x, RepV g (ev fr x) (a.eval x)) (h : optI (x.map (ev fr)) = some n) : ∃ k, x.map a.eval = n.map (Value.int k) := by
  cases x with
  | none => obtain rfl := (Option.some.inj h).symm; exact ⟨.i64, rfl⟩
  | some y =>
    have hy := hr y
    simp only [Option.map_some] at h ⊢
    generalize ev fr y = v at h hy
    unfold optI at h
    split at h
    · rename_i e; cases e
    · rename_i k m e
      obtain rfl := Option.some.inj e
      obtain rfl := (Option.some.inj h).symm
      exact ⟨k, congrArg some hy⟩
    · cases h
theorem bounds_ok {isSl : Bool} {len cap : Nat} {lo hi : Option Int} {kl kh : IntKind} {h l : Int} (eh : hi.getD (len : Int) = h) (el : lo.getD 0 = l) (h1 : 0 ≤ h) (h2 : h ≤ cap) (h3 : 0 ≤ l) (h4 : l ≤ h) :
    (Instr.sliceBounds isSl len cap (lo.map (Value.int kl)) (hi.map (Value.int kh)) none).run P w = .ok (l.toNat, h.toNat, cap) w := by
  have eh' : (h.toNat : Int) = h := Int.toNat_of_nonneg h1
  cases lo <;> cases hi <;> simp only [Option.getD_none, Option.getD_some] at eh el <;> subst eh <;> subst el <;>
    simp [Instr.sliceBounds, run_sliceBound, *]
theorem bounds3_ok {isSl : Bool} {len cap : Nat} {lo : Option Int} {kl kh km : IntKind} {h l : Int} (el : lo.getD 0 = l) (h1 : 0 ≤ h) (h2 : h ≤ cap) (h3 : 0 ≤ l) (h4 : l ≤ h) :
    (Instr.sliceBounds isSl len cap (lo.map (Value.int kl)) (some (Value.int kh h)) (some (Value.int km h))).run P w = .ok (l.toNat, h.toNat, h.toNat) w := by
  have eh' : (h.toNat : Int) = h := Int.toNat_of_nonneg h1
  cases lo <;> simp only [Option.getD_none, Option.getD_some] at el <;> subst el <;>
    simp [Instr.sliceBounds, run_sliceBound, *]
theorem row_part {K : Nat → Nat → Option Value} {α : Type} {size : Nat} {R : α → List Value → Prop} {xs : List α} {a : Option Addr} {cap l h m : Nat} (hr : RowS K size R xs (.slice a xs.length cap)) (h1 : l ≤ h) (h2 : h ≤ xs.length) (h3 : h ≤ m) (_ : m ≤ cap) :
    RowS K size R ((xs.take h).drop l) (.slice (if m = l then a else a.map (·.add (l * size))) (h - l) (m - l)) := by
  have hlen : ((xs.take h).drop l).length = h - l := by simp; omega
  rcases hr with ⟨rfl, ad, c0, e⟩ | ⟨β, off, cap', e, h5, hk⟩
  · injection e with e1 e2 e3
    subst e3
    simp only [List.length_nil] at h2
    obtain rfl : h = 0 := by omega
    obtain rfl : l = 0 := by omega
    exact .inl ⟨by simp, _, _, rfl⟩
  · injection e with e1 e2 e3
    subst e1; subst e3
    by_cases hm : m = l
    · rw [if_pos hm]
      have hl : h - l = 0 := by omega
      have : (xs.take h).drop l = [] := List.eq_nil_of_length_eq_zero (by omega)
      rw [this]
      refine .inr ⟨β, off, m - l, by rw [hl]; rfl, by simp, fun i x e => by simp at e⟩
    · rw [if_neg hm]
      refine .inr ⟨β, off + l * size, m - l, ?_, by omega, fun i x e => ?_⟩
      · rw [hlen]
        simp only [Option.map_some, add_off]
      · have hx : xs[l + i]? = some x := by
          rw [List.getElem?_drop, List.getElem?_take] at e
          split at e
          · exact e
          · cases e
        obtain ⟨us, k1, k2, k3⟩ := hk _ _ hx
        refine ⟨us, k1, k2, fun j u hj => ?_⟩
        rw [← k3 j u hj]; congr 1; rw [Nat.add_mul]; omega
theorem pslice_ok (hT : TyOk P X.ty) {t : TypeId} {x : V} {vx : Value} {lo hi mx : Option Operand} (hc : Con b N g fr mem a w) (hd : ∀ t, o.dst = some t → t < N) (hx : RepV g x vx)
    (he : execOp a.eval o = (do pure (.value (← Instr.sliceAt t vx (lo.map a.eval) (hi.map a.eval) (mx.map a.eval))))) (h : (pslice X mem o.dst t x (lo.map (ev fr)) (hi.map (ev fr)) (mx.map (ev fr))).run some = some d) : Good P b N o d fr mem a w Q := by
  have hev := RepV.eval hc.rep
  unfold pslice at h
  split at h
  · rename_i s lo' hi' e1 o1 o2 o3
    obtain rfl : vx = _ := hx
    obtain ⟨kl, m1⟩ := optI_rep hev o1
    obtain ⟨kh, m2⟩ := optI_rep hev o2
    obtain ⟨km, m3⟩ := optI_rep hev o3
    rw [m1, m2, m3] at he
    rcases test_inv h with ⟨hb, h⟩ | ⟨_, h⟩
    · obtain ⟨b1, b2⟩ := of_decide_eq_true hb
      rcases test_inv h with ⟨hb, h⟩ | ⟨_, h⟩
      · obtain ⟨b3, b4⟩ := of_decide_eq_true hb
        have hu := hT.und _ _ e1
        refine Good.of_pure hc hd he (Pure.of h ?_ rfl)
        have hbd := bounds_ok (P := P) (w := w) (isSl := false) (len := s.size) (cap := s.size) (lo := lo') (hi := hi') (kl := kl) (kh := kh) rfl rfl b1 b2 b3 b4
        simp only [Option.map_none, Instr.sliceAt, Instr.slice, Sem.run_bind, run_underlying hu, Result.andThen_ok]
        simp [hbd]
      · exact (no_inv h).elim
    · exact (no_inv h).elim
  · rename_i e _ _ _ _ tk sh xs lo' hi' mx' e1 o1 o2 o3
    obtain ⟨hr, _⟩ := hx
    obtain ⟨kl, m1⟩ := optI_rep hev o1
    obtain ⟨kh, m2⟩ := optI_rep hev o2
    obtain ⟨km, m3⟩ := optI_rep hev o3
    rw [m1, m2, m3] at he
    split at h
    · rename_i ie e2
      cases hw : Nat.beq (widSL sh) ie.size with
      | false => rw [hw] at h; exact (no_inv h).elim
      | true =>
        rw [hw] at h
        have hw := Nat.eq_of_beq_eq_true hw
        simp only [cond_true] at h
        rcases test_inv h with ⟨hb, h⟩ | ⟨_, h⟩
        · obtain ⟨b1, b2⟩ := of_decide_eq_true hb
          rcases test_inv h with ⟨hb, h⟩ | ⟨_, h⟩
          · obtain ⟨b3, b4⟩ := of_decide_eq_true hb
            have hu := hT.und _ _ e1
            have hsz := run_sizeOf hT e2 w
            obtain ⟨aa, cap, rfl, hcap⟩ : ∃ aa cap, vx = .slice aa xs.length cap ∧ xs.length ≤ cap := by
              rcases hr with ⟨rfl, ad, c0, rfl⟩ | ⟨β, off, cap, rfl, h5, _⟩
              · exact ⟨ad, c0, rfl, Nat.zero_le _⟩
              · exact ⟨_, cap, rfl, h5⟩
            have n1 : (lo'.getD 0).toNat ≤ (hi'.getD (xs.length : Int)).toNat := Int.toNat_le_toNat b4
            have n2 : (hi'.getD (xs.length : Int)).toNat ≤ xs.length := by omega
            split at h
            · refine Good.of_pure hc hd he (Pure.of h ?_ ⟨row_part (m := cap) hr n1 n2 (by omega) (Nat.le_refl _), fun _ _ e => by cases e⟩)
              have hbd := bounds_ok (P := P) (w := w) (isSl := true) (len := xs.length) (cap := cap) (lo := lo') (hi := hi') (kl := kl) (kh := kh) rfl rfl b1 (by omega) b3 b4
              simp only [Option.map_none, Instr.sliceAt, Instr.slice, Sem.run_bind, run_underlying hu, Result.andThen_ok, hbd, hsz, Sem.run_pure]
              rw [hw]
            · rename_i m0 hv0 _ _ _
              rcases test_inv h with ⟨hb, h⟩ | ⟨_, h⟩
              · have hmh := of_decide_eq_true hb
                subst hmh
                simp only [Option.getD_some] at *
                obtain ⟨dd, v, ed, hv, rfl⟩ := newSl_inv h
                have hbd := bounds3_ok (P := P) (w := w) (isSl := true) (len := xs.length) (cap := cap) (lo := lo') (kl := kl) (kh := kh) (km := km) rfl b1 (by omega) b3 b4
                refine Good.ran he ?_ ?_ (x := .slice (if m0.toNat = (lo'.getD 0).toNat then aa else aa.map (·.add ((lo'.getD 0).toNat * ie.size))) (m0.toNat - (lo'.getD 0).toNat) (m0.toNat - (lo'.getD 0).toNat)) (w' := w)
                · simp only [Option.map_some, Instr.sliceAt, Instr.slice, Sem.run_bind, run_underlying hu, Result.andThen_ok, hbd, hsz, Sem.run_pure]
                · have hlen : ((xs.take m0.toNat).drop (lo'.getD 0).toNat).length = m0.toNat - (lo'.getD 0).toNat := by simp; omega
                  simp only [List.nil_append]
                  refine slFin (τ := .full) hc hd (nextV_spec hv).1 (fun h => by have := (nextV_spec hv).2; omega) (fun _ _ _ e => by cases e) (fun _ _ _ e => by cases e) ?_ ⟨_, by rw [hlen]⟩
                  rw [← hw]
                  exact row_part hr n1 n2 (Nat.le_refl _) (by omega)
              · exact (no_inv h).elim
            · exact (no_inv h).elim
          · exact (no_inv h).elim
        · exact (no_inv h).elim
    · exact (no_inv h).elim
  · exact (no_inv h).elim
theorem pbytes_ok (hT : TyOk P X.ty) {src dt : TypeId} {x : V} {vx : Value} (hc : Con b N g fr mem a w) (hd : ∀ t, o.dst = some t → t < N) (hx : RepV g x vx)
    (he : execOp a.eval o = (do pure (.value (← convert src dt vx)))) (h : (pbytes X mem o.dst src dt x).run some = some d) : Good P b N o d fr mem a w Q := by
  unfold pbytes at h
  split at h
  · rename_i i0 e _ _ _ _ s e0 e1
    obtain rfl : vx = .string s := hx
    split at h
    · rename_i _ _ _ _ e2
      rcases test_inv h with ⟨hsz, h⟩ | ⟨_, h⟩
      · have hsz := of_decide_eq_true hsz
        obtain ⟨dd, v, ed, hv, rfl⟩ := newSl_inv h
        have hrun := Lib.run_convert_string_bytes (P := P) w src dt e s (hT.und _ _ e0) (hT.und _ _ e1) (hT.und _ _ e2)
        have hcap := grownCap_ge w s.size 0 e
        have hmax := grownCap_le_maxLen w s.size 0 e (by simp only [maxLen]; omega)
        have hbl : (bytesL s).length = s.size := by unfold bytesL; rw [List.length_map]; rfl
        have hcz : (Lib.bytesCells w e s).size = grownCap w s.size 0 e := by
          have hd : s.data.size = s.size := rfl
          simp only [Lib.bytesCells, Array.size_append, Array.size_map, Array.size_replicate]
          omega
        obtain ⟨g', r1, r2, r3, r4, r5, r6⟩ := hc.know (w' := Lib.bytesWorld w e s) (β := w.heap.size) (us := (bytesL s).map (Value.int .u8)) rfl rfl rfl
          (by rw [Lib.bytesWorld_size]; omega) (fun k hk _ => Lib.bytesWorld_at_old w e s k hk) (fun q u eq => by
            have hq := (List.getElem?_eq_some_iff.1 eq).1
            rw [List.length_map, hbl] at hq
            rw [Lib.bytesWorld_cell w e s q hq, ← eq]
            have hq' : q < s.data.toList.length := by simpa using hq
            simp only [bytesL, List.map_map, List.getElem?_map, List.getElem?_eq_getElem hq', Option.map_some, List.getD_eq_getElem?_getD, Option.getD_some, Function.comp_apply]) (fun q u eq => absurd (block_lt_of_cell (hc.known _ _ _ eq)) (Nat.lt_irrefl _)) (fun m em => absurd (hc.blk_lt em) (Nat.lt_irrefl _)) (.inr hc.only.size) (fun n v E sz e' cap hm ht => by
            obtain ⟨τ, t1, t2⟩ := hc.aliveAt hm
            obtain rfl := Option.some.inj (t1.symm.trans ht)
            exact Nat.lt_irrefl _ (t2 _ _ _ rfl).lt)
        refine Good.ran he hrun ?_
        simp only [List.nil_append]
        refine slFin (τ := .own w.heap.size s.size (grownCap w s.size 0 e)) r6 hd (nextV_spec hv).1 (fun h => by have := (nextV_spec hv).2; omega) (fun β e' cap et => ?_) (fun β e' cap et m v E sz e2 cap' hm ht => ?_) ?_ ⟨hbl.symm, by rw [hbl]⟩
        · injection et with e1 e2 e3
          subst e1; subst e2; subst e3
          refine ⟨⟨⟨_, _, Lib.bytesWorld_at_new w e s, .inr (Nat.le_refl _), by rw [hcz, Nat.mul_one]⟩, hcap, hmax, fun q hq => r5 q (by rw [List.length_map, hbl]; omega), fun m em => ?_⟩, .inr hc.only.size⟩
          rw [r2] at em
          exact absurd (hc.blk_lt em) (Nat.lt_irrefl _)
        · injection et with e1 _ _
          subst e1
          rw [r3] at ht
          obtain ⟨τ2, t1, t2⟩ := hc.aliveAt hm
          obtain rfl := Option.some.inj (t1.symm.trans ht)
          exact absurd (t2 _ _ _ rfl).lt (Nat.lt_irrefl _)
        · have hfl : FlatS 1 (RepSL g'.K [.int .u8]) (bytesL s) ((bytesL s).map (Value.int .u8)) := by
            generalize bytesL s = l
            induction l with
            | nil => rfl
            | cons z l ih => exact ⟨[.int .u8 z], _, rfl, rfl, by simp only [RepSL, RepS], ih⟩
          have := hfl.row (β := w.heap.size) (off := 0) (cap := grownCap w s.size 0 e) (fun j u e => by rw [Nat.zero_add]; exact r4 j u e) (by rw [hbl]; exact hcap)
          rw [hbl] at this
          exact this
      · exact (no_inv h).elim
    · exact (no_inv h).elim
  · exact (no_inv h).elim
theorem pmark_ok (hT : TyOk P X.ty) {src dt : TypeId} {x : V} {vx : Value} (hc : Con b N g fr mem a w) (hd : ∀ t, o.dst = some t → t < N) (hx : RepV g x vx)
    (he : execOp a.eval o = (do pure (.value (← convert src dt vx)))) (h : (pmark X mem o.dst src dt x).run some = some d) : Good P b N o d fr mem a w Q := by
  unfold pmark at h
  split at h
  · rename_i e _ _ _ _ n v l xs e1
    split at h
    · rename_i _ _ _ _ e2
      cases hk : (Nat.beq src dt && (Nat.beq (v % 2) 1 && (Nat.beq (widSL l) 1 && (alive mem n v e 1 && !hasN n (dstTk o.dst))))) with
      | false => rw [hk] at h; exact (no_inv h).elim
      | true =>
        rw [hk] at h
        simp only [Bool.and_eq_true, Bool.not_eq_true'] at hk
        obtain ⟨k1, k2, k5, k3, k4⟩ := hk
        obtain rfl := Nat.eq_of_beq_eq_true k1
        have k5 := Nat.eq_of_beq_eq_true k5
        have k2 := Nat.eq_of_beq_eq_true k2
        have hal := alive_spec k3
        simp only [cond_true] at h
        obtain ⟨dd, v2, ed, hv, rfl⟩ := newSlO_inv h
        have hne : n ≠ tkN dd 0 := fun en => by
          rw [ed] at k4
          simp [dstTk, hasN, en] at k4
        obtain ⟨τ, t1, t2⟩ := hc.aliveAt hal
        obtain ⟨τ', t3, t4⟩ := hx.2 n v rfl
        obtain rfl := Option.some.inj (t1.symm.trans t3)
        obtain ⟨β, e', cap, rfl⟩ := hc.todd n v τ t1 k2
        obtain ⟨rfl, rfl⟩ := t4
        have O := t2 β _ cap rfl
        obtain ⟨cur, fz, r1, r2, r3⟩ := O.row
        have hsh : w.shape? β = some (e, cur.size) := by simp [World.shape?, r1]
        have hu1 := run_underlying (hT.und _ _ e1)
        have hu2 := run_underlying (hT.und _ _ e2)
        have hrun : (convert src src (.slice (some ⟨β, 0, none⟩) xs.length cap)).run P w = .ok (.slice (some ⟨β, 0, none⟩) xs.length cap) (w.freeze ⟨β, cur.size, none⟩ 1) := by
          simp [convert, hu1, hu2, markStringish, hsh]
        have hcell : ∀ (q : Nat) u, g.K β q = some u → cur[q]? = some u := fun q u hk => by
          have := hc.known β q u hk
          rwa [cell_row r1] at this
        have hβl : β < w.heap.size := O.lt
        obtain ⟨lo, hi⟩ := fz
        have hw' : ∃ fz', (w.freeze ⟨β, cur.size, none⟩ 1).heap[β]? = some (.cells cur e fz') ∧ (fz'.2 = fz'.1 ∨ cur.size ≤ fz'.1) := by
          have he0 := (Array.getElem?_eq_some_iff.1 r1).2
          simp only [World.freeze]
          rw [if_neg (by decide)]
          refine ⟨if (lo == hi) = true then (cur.size, cur.size + 1) else (min lo cur.size, max hi (cur.size + 1)), ?_, ?_⟩
          · show (w.heap.modify β _)[β]? = _
            rw [Array.getElem?_eq_getElem (by simpa using hβl), Array.getElem_modify_self, he0]
          · split
            · exact .inr (Nat.le_refl _)
            · rename_i hne
              rcases r2 with r2 | r2
              · simp only at r2; subst r2; simp at hne
              · exact .inr (by simp only at r2 ⊢; omega)
        obtain ⟨fz', hw', hfz'⟩ := hw'
        have hwo : ∀ k, k ≠ β → (w.freeze ⟨β, cur.size, none⟩ 1).heap[k]? = w.heap[k]? := fun k hk => by
          simp only [World.freeze]
          rw [if_neg (by decide)]
          show (w.heap.modify β _)[k]? = _
          rw [Array.getElem?_modify, if_neg (fun h => hk h.symm)]
        have hws : (w.freeze ⟨β, cur.size, none⟩ 1).heap.size = w.heap.size := by
          simp only [World.freeze]
          rw [if_neg (by decide)]
          show (w.heap.modify β _).size = _
          rw [Array.size_modify]
        have hflat : ∃ us : List Value, us.length = xs.length * widSL l ∧ ∀ (q : Nat) u, us[q]? = some u → g.K β q = some u := by
          rcases hx.1.flat with ⟨e6, _⟩ | ⟨β', off, cap', us, e5, _, e6, e7⟩
          · subst e6
            exact ⟨[], by simp, fun q u hq => by simp at hq⟩
          · injection e5 with e5 _ _
            injection e5 with e5
            injection e5 with e5 e8 _
            subst e5; subst e8
            exact ⟨us, e6.len, fun q u hq => by have := e7 q u hq; rwa [Nat.zero_add] at this⟩
        obtain ⟨us, u1, u2⟩ := hflat
        rw [k5] at u1
        have hc1 := hc.kill hal (hc.odd hal)
        obtain ⟨g', q1, q2, q3, q4, q5, q6⟩ := hc1.know (w' := w.freeze ⟨β, cur.size, none⟩ 1) (β := β) (us := us) (by simp [World.freeze]) (by simp [World.freeze]) (by simp [World.freeze]) (by rw [hws]; exact Nat.le_refl _) (fun k _ hk => hwo k hk)
          (fun q u hq => by rw [cell_row hw']; exact hcell q u (u2 q u hq))
          (fun q u hq => by
            rcases Nat.lt_or_ge q us.length with h1 | h1
            · have := u2 q _ (List.getElem?_eq_getElem h1)
              rw [hq] at this
              rw [List.getElem?_eq_getElem h1]; exact this.symm
            · rw [O.dark q (by omega)] at hq; cases hq)
          O.mine O.new (fun m v' E' sz' e2 cap' hm ht => hc.nofree hal t1 m v' E' sz' e2 cap' hm ht)
        refine Good.ran he hrun ?_
        simp only [List.cons_append, List.nil_append]
        rw [over_two hne]
        refine slFin (τ := .own β xs.length cap) q6 hd ?_ (fun _ => ⟨_, _, _, rfl⟩) (fun β' e' cap' et => ?_) (fun β' e' cap' et m v' E' sz' e2 cap2 hm ht => ?_) (hx.1.mono q1.K (fun x us => RepSL.mono q1.K)) ⟨rfl, rfl⟩
        · rw [over_one, if_neg (Ne.symm hne)]
          exact nextO_spec hv
        · injection et with e1 e2 e3
          subst e1; subst e2; subst e3
          exact ⟨⟨⟨cur, _, hw', hfz', r3⟩, O.room, O.most, fun q hq => q5 q (by omega), fun m em => O.mine m (by rw [← q2]; exact em)⟩, O.new⟩
        · injection et with e1 _ _
          subst e1
          rw [q3] at ht
          exact hc.nofree hal t1 m v' E' sz' e2 cap2 hm ht
    · exact (no_inv h).elim
  · exact (no_inv h).elim
end
end Go.Proofs.YtmdnnlfoljdfpaaDoor.Mir
