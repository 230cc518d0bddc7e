/- The mirror's operations are right: memory, structs. Nothing here names the program. -/
import Derived.Test.YtmdnnlfoljdfpaaDoorMirD
namespace Go.Proofs.YtmdnnlfoljdfpaaDoor.Mir
open Go Go.RowKit

section
variable {P : Program} {b : Base} {N : Nat} {g : Gh} {fr : Nat → V} {mem : Nat → Option (List C)} {a : Act} {w : World} {d : Delta} {X : Ctx}
theorem okC_one {c : C} {x : Value} (hc : okCell c = true) (ha : isArr c = false) (h : RepC g c x) : x.oneCell' = true := by
  cases c with
  | junk => cases hc
  | lit v => obtain rfl : x = v := h; exact hc
  | err t e => obtain rfl : x = errV t e := h; cases e <;> rfl
  | ptr n o => obtain ⟨β, _, rfl⟩ := h; rfl
  | pel n o l i => obtain ⟨β, _, _, _, rfl⟩ := h; rfl
  | kpd l y off => obtain ⟨β, o, us, rfl, _⟩ := h; rfl
  | ifp t n o => obtain ⟨β, _, rfl⟩ := h; rfl
  | sl tk l xs => rcases h.1 with ⟨_, _, _, rfl⟩ | ⟨β, o, c, rfl, _⟩ <;> rfl
  | arr k n xs => exact h.elim
  | tkt => exact h.elim
theorem okL_one : ∀ {cs : List C} {vs : List Value}, okCells cs = true → RepL g cs vs → ∀ v ∈ vs, v.oneCell' = true
  | [], vs, _, h, v, hv => by simp only [RepL] at h; subst h; cases hv
  | c :: cs, vs, ho, h, v, hv => by
    simp only [okCells, Bool.and_eq_true] at ho
    obtain ⟨xs, r, rfl, h1, h2, h3⟩ := h.cons
    rcases List.mem_append.1 hv with hv | hv
    · cases ha : isArr c with
      | false =>
        obtain ⟨y, rfl, hy⟩ := repl_one ha h2
        obtain rfl := List.mem_singleton.1 hv
        exact okC_one ho.1 ha hy
      | true =>
        cases c with
        | arr k n ys =>
          obtain ⟨q, _, e1, e2⟩ := h2
          simp only [RepL] at e2
          rw [e1, e2, List.append_nil] at hv
          obtain ⟨z, _, rfl⟩ := List.mem_map.1 hv
          rfl
        | _ => cases ha
    · exact okL_one ho.2 h3 v hv
theorem cells_one {x : Value} (h : x.oneCell' = true) : x.cells = #[x] := by cases x <;> first | rfl | cases h
theorem cells_rep {y : A} {x : Value} (hok : okA y = true) (h : RepA g y x) : RepL g (cellsA y) x.cells.toList := by
  cases y with
  | one c =>
    have ha : isArr c = false := by cases c <;> first | rfl | exact h.elim
    rw [cells_one (okC_one hok ha h)]
    exact one_repl h
  | agg cs =>
    obtain ⟨vs, rfl, h2⟩ := h
    exact h2
/-- What an operation must come to. -/
def Good (P : Program) (b : Base) (N : Nat) (o : Oper) (d : Delta) (fr : Nat → V) (mem : Nat → Option (List C)) (a : Act) (w : World) (Q : Exit → Act → World → Prop) : Prop :=
  o.wp P a w (fun a' w' => ∃ g', Con b N g' (apFr o.dst d.v fr) (over d.wr mem) a' w') Q
variable {o : Oper} {Q : Exit → Act → World → Prop}
theorem Good.of_pure {s : Sem Value} (hc : Con b N g fr mem a w) (hd : ∀ t, o.dst = some t → t < N) (he : execOp a.eval o = (do pure (.value (← s)))) (h : Pure P w g d s) : Good P b N o d fr mem a w Q := by
  obtain ⟨x, h1, h2, h3⟩ := h
  unfold Good Oper.wp
  rw [he, Sem.run_bind, h1]
  simp only [Result.andThen_ok, Sem.run_pure, Oper.upon]
  rw [h3]
  exact ⟨g, hc.put hd h2⟩
theorem newBlk_ok {dst : Option Nat} {cs : List C} {vs : Array Value} {ty : TypeId} {s : Sem Value} (hdst : o.dst = dst) (hc : Con b N g fr mem a w) (hd : ∀ t, o.dst = some t → t < N)
    (he : execOp a.eval o = (do pure (.value (← s)))) (hs : s.run P w = .ok (.pointer (some ⟨w.heap.size, 0, none⟩)) (w.alloc (.cells vs ty)))
    (hr : RepL g cs vs.toList) (h : (newBlk mem dst cs).run some = some d) : Good P b N o d fr mem a w Q := by
  subst hdst
  unfold newBlk at h
  split at h
  · rename_i t et
    split at h
    · rename_i em
      obtain rfl := (Option.some.inj h).symm
      obtain ⟨g', h1, h2, h3⟩ := hc.alloc (vs := vs) (ty := ty) (by unfold own; omega) em hr
      unfold Good Oper.wp
      rw [he, Sem.run_bind, hs]
      simp only [Result.andThen_ok, Sem.run_pure, Oper.upon]
      refine ⟨g', h3.put hd ⟨w.heap.size, h2, rfl⟩⟩
    · exact (no_inv h).elim
  · exact (no_inv h).elim
theorem cell_row {β : Nat} {vs : Array Value} {ty : TypeId} {fz : Nat × Nat} (h : w.heap[β]? = some (.cells vs ty fz)) (o : Nat) : w.cell? ⟨β, o, none⟩ = vs[o]? := by
  simp [World.cell?, h]
theorem Con.even (hc : Con b N g fr mem a w) {n β : Nat} (hj : g.j n = some β) : n % 2 = 0 := by
  rcases Nat.mod_two_eq_zero_or_one n with e | e
  · exact e
  · rw [hc.dom n (.inr e)] at hj; cases hj
theorem pload_ok (hT : TyOk P X.ty) {t : TypeId} {i : TI} (ht : X.ty t = some i) (hc : Con b N g fr mem a w) {x : V} {vx : Value} (hx : RepV g x vx) (h : (pload i mem x).run some = some d) : Pure P w g d (Instr.loadAt t vx) := by
  unfold pload at h
  split at h
  · obtain ⟨β, hj, rfl⟩ := hx
    unfold ploadAt at h
    split at h
    · exact (no_inv h).elim
    · rename_i cs hm
      obtain ⟨β', vs, ty, h1, h2, h3, _⟩ := hc.blk _ _ (hc.even hj) hm
      obtain rfl := Option.some.inj (hj.symm.trans h1)
      split at h
      · exact (no_inv h).elim
      · rename_i es hs
        obtain ⟨p, q, r, e1, e2, e3, e4⟩ := h3.subC hs
        have hcell : ∀ (j : Nat) v, q[j]? = some v → w.cell? ((⟨β, p.length, none⟩ : Addr).add j) = some v := fun j v hv => by
          rw [add_off, cell_row h2, ← Array.getElem?_toList, e1, List.getElem?_append_right (by omega), Nat.add_sub_cancel_left, List.getElem?_append_left (List.getElem?_eq_some_iff.1 hv).1]
          exact hv
        subst e2
        cases hd : aggD i.desc with
        | true =>
          rw [hd] at h
          obtain rfl := (Option.some.inj h).symm
          refine ⟨.agg q.toArray, ?_, ⟨q, rfl, e4⟩, rfl⟩
          simp only [Instr.loadAt, Instr.sureAddr, Sem.run_bind, Sem.run_pure, Result.andThen_ok, loadVar, run_isAgg hT ht, hd, if_true, run_sizeOf hT ht]
          rw [← e3, run_loadCells_list w _ q hcell]
          rfl
        | false =>
          rw [hd] at h
          simp only [cond_false] at h
          split at h
          · rename_i c
            cases ha : isArr c with
            | true => rw [ha] at h; exact (no_inv h).elim
            | false =>
              rw [ha] at h
              obtain rfl := (Option.some.inj h).symm
              obtain ⟨y, rfl, hy⟩ := repl_one ha e4
              refine ⟨y, ?_, hy, rfl⟩
              have := hcell 0 y rfl
              rw [add_off, Nat.add_zero] at this
              simp [Instr.loadAt, Instr.sureAddr, loadVar, run_isAgg hT ht, hd, this]
          · exact (no_inv h).elim
  · obtain ⟨β, hj, b1, b2, rfl⟩ := hx
    cases hd : aggD i.desc with
    | true => rw [hd] at h; exact (no_inv h).elim
    | false =>
      rw [hd] at h
      simp only [cond_false] at h
      split at h
      · exact (no_inv h).elim
      · rename_i cs hm
        obtain ⟨β', vs, ty, h1, h2, h3, _⟩ := hc.blk _ _ (hc.even hj) hm
        obtain rfl := Option.some.inj (hj.symm.trans h1)
        split at h
        · rename_i k m xs rest hdp
          rename_i len ix _ _ _
          cases hl : Nat.beq m len with
          | false => rw [hl] at h; exact (no_inv h).elim
          | true =>
            rw [hl] at h
            obtain rfl := (Option.some.inj h).symm
            obtain rfl := Nat.eq_of_beq_eq_true hl
            obtain ⟨p, q, e1, e2, e3⟩ := h3.dropC hdp
            obtain ⟨r, e4, rfl, _⟩ := e3
            have hi : ix.toNat < xs.length := by omega
            refine ⟨_, ?_, rfl, rfl⟩
            have : w.cell? ⟨β, p.length + ix.toNat, none⟩ = some (.int k (xs.getD ix.toNat 0)) := by
              rw [cell_row h2, ← Array.getElem?_toList, e1, List.getElem?_append_right (by omega), Nat.add_sub_cancel_left, List.getElem?_append_left (by simpa using hi), List.getElem?_map, List.getD_eq_getElem?_getD, List.getElem?_eq_getElem hi]
              rfl
            subst e2
            simp [Instr.loadAt, Instr.sureAddr, loadVar, run_isAgg hT ht, hd, this]
        · exact (no_inv h).elim
  · obtain ⟨β, o, us, rfl, hr, hk⟩ := hx
    split at h
    · exact (no_inv h).elim
    · rename_i es hs
      obtain ⟨p, q, r, e1, e2, e3, e4⟩ := (encL_rep (g := g) hr).subC hs
      have hcell : ∀ (j : Nat) v, q[j]? = some v → w.cell? ((⟨β, o + p.length, none⟩ : Addr).add j) = some v := fun j v hv => by
        rw [add_off, Nat.add_assoc]
        refine hc.known _ _ _ (hk _ _ ?_)
        rw [e1, List.getElem?_append_right (by omega), Nat.add_sub_cancel_left, List.getElem?_append_left (List.getElem?_eq_some_iff.1 hv).1]
        exact hv
      subst e2
      cases hd : aggD i.desc with
      | true =>
        rw [hd] at h
        obtain rfl := (Option.some.inj h).symm
        refine ⟨.agg q.toArray, ?_, ⟨q, rfl, e4⟩, rfl⟩
        simp only [Instr.loadAt, Instr.sureAddr, Sem.run_bind, Sem.run_pure, Result.andThen_ok, loadVar, run_isAgg hT ht, hd, if_true, run_sizeOf hT ht]
        rw [← e3, run_loadCells_list w _ q hcell]
        rfl
      | false =>
        rw [hd] at h
        simp only [cond_false] at h
        split at h
        · rename_i c
          cases ha : isArr c with
          | true => rw [ha] at h; exact (no_inv h).elim
          | false =>
            rw [ha] at h
            obtain rfl := (Option.some.inj h).symm
            obtain ⟨y, rfl, hy⟩ := repl_one ha e4
            refine ⟨y, ?_, hy, rfl⟩
            have := hcell 0 y rfl
            rw [add_off, Nat.add_zero] at this
            simp [Instr.loadAt, Instr.sureAddr, loadVar, run_isAgg hT ht, hd, this]
        · exact (no_inv h).elim
  · exact (no_inv h).elim
theorem run_storeAt (hT : TyOk P X.ty) {t : TypeId} {i : TI} (ht : X.ty t = some i) {β off : Nat} {x : Value} {vs : Array Value} {ty : TypeId} (hb : w.heap[β]? = some (.cells vs ty (0, 0)))
    (hsz : x.cells.size = i.size) (hl : off + x.cells.size ≤ vs.size) (h1 : ∀ v ∈ x.cells.toList, v.oneCell' = true) :
    (Instr.storeAt t (.pointer (some ⟨β, off, none⟩)) x).run P w = .ok () (w.setRow β (vs.toList.take off ++ x.cells.toList ++ vs.toList.drop (off + x.cells.size)).toArray) := by
  have hst := run_storeCells_at P β off ty x.cells.toList 0 vs w hb (by simpa using hl) h1
  simp only [Instr.storeAt, Instr.sureAddr, Sem.run_bind, Sem.run_pure, Result.andThen_ok, storeVar, run_sizeOf hT ht]
  rw [if_neg (by simpa using hsz)]
  rw [Nat.add_zero, Array.length_toList] at hst
  exact hst
theorem pstore_ok (hT : TyOk P X.ty) {t : TypeId} {i : TI} (ht : X.ty t = some i) (hc : Con b N g fr mem a w) (hd : ∀ t, o.dst = some t → t < N) {p x : V} {vp vx : Value} (hp : RepV g p vp) (hx : RepV g x vx)
    (he : execOp a.eval o = (do Instr.storeAt t vp vx; pure .skip)) (h : (pstore i mem p x).run some = some d) : Good P b N o d fr mem a w Q := by
  unfold pstore at h
  split at h
  · exact (no_inv h).elim
  · rename_i y
    cases hok : (Nat.beq (widL (cellsA y)) i.size && okCells (cellsA y)) with
    | false => simp only [hok, cond_false] at h; exact (no_inv h).elim
    | true =>
      simp only [hok, cond_true] at h
      simp only [Bool.and_eq_true] at hok
      obtain ⟨hw, hok⟩ := hok
      have hw := Nat.eq_of_beq_eq_true hw
      have hokA : okA y = true := by cases y with | one c => simpa [cellsA, okCells, okA] using hok | agg _ => rfl
      have hr := cells_rep hokA hx
      have hlen := hr.length
      have h1 := okL_one hok hr
      split at h
      · rename_i n off
        obtain ⟨β, hj, rfl⟩ := hp
        split at h
        · exact (no_inv h).elim
        · rename_i cs hm
          obtain ⟨β', vs, ty, k1, k2, k3, _⟩ := hc.blk _ _ (hc.even hj) hm
          obtain rfl := Option.some.inj (hj.symm.trans k1)
          split at h
          · exact (no_inv h).elim
          · rename_i es hpc
            obtain rfl := (Option.some.inj h).symm
            obtain ⟨q1, q2⟩ := k3.putC hr hpc
            have hsz : vx.cells.size = i.size := by rw [← hw, ← hlen]; simp
            unfold Good Oper.wp
            rw [he, Sem.run_bind, run_storeAt hT ht k2 hsz (by simpa using q1) h1]
            simp only [Result.andThen_ok, Sem.run_pure, Oper.upon]
            refine ⟨g, (hc.write (by rw [hm]; simp) hj k2 ?_).put hd rfl⟩
            simpa using q2
      · rename_i n off len ix
        obtain ⟨β, hj, b1, b2, rfl⟩ := hp
        split at h
        · exact (no_inv h).elim
        · rename_i cs hm
          obtain ⟨β', vs, ty, k1, k2, k3, _⟩ := hc.blk _ _ (hc.even hj) hm
          obtain rfl := Option.some.inj (hj.symm.trans k1)
          split at h
          · rename_i k m xs rest k' v hdp hcy
            cases hkm : (decide (k = k') && Nat.beq m len) with
            | false => simp only [hkm, cond_false] at h; exact (no_inv h).elim
            | true =>
              simp only [hkm, cond_true] at h
              simp only [Bool.and_eq_true] at hkm
              obtain rfl := of_decide_eq_true hkm.1
              obtain rfl := Nat.eq_of_beq_eq_true hkm.2
              split at h
              · exact (no_inv h).elim
              · rename_i es hpc
                obtain rfl := (Option.some.inj h).symm
                rw [hcy] at hr
                obtain ⟨y', r', e1, rfl, rfl⟩ := hr
                obtain ⟨p, q, f1, f2, f3⟩ := k3.dropC hdp
                obtain ⟨r, f4, rfl, f5⟩ := f3
                have hi : ix.toNat < xs.length := by omega
                have hnew : RepL g [.arr k m (xs.set ix.toNat v)] ((xs.set ix.toNat v).map (Value.int k)) := ⟨[], by simp [f4], by simp, rfl⟩
                obtain ⟨q1, q2⟩ := k3.putC hnew hpc
                have hcs : vx.cells.toList = [Value.int k v] := e1
                have hs1 : vx.cells.size = 1 := by rw [← Array.length_toList, hcs]; rfl
                have hsz : vx.cells.size = i.size := by rw [← hw, hcy, hs1]; rfl
                have hvl : vs.toList.length = p.length + (xs.length + r.length) := by rw [f1]; simp
                have hvs : vs.size = p.length + (xs.length + r.length) := by rw [← hvl]; simp
                subst f2
                unfold Good Oper.wp
                rw [he, Sem.run_bind, run_storeAt hT ht k2 hsz (by omega) h1]
                simp only [Result.andThen_ok, Sem.run_pure, Oper.upon]
                refine ⟨g, (hc.write (by rw [hm]; simp) hj k2 ?_).put hd rfl⟩
                rw [hs1, hcs]
                have e5 : vs.toList.take (p.length + ix.toNat) ++ [Value.int k v] ++ vs.toList.drop (p.length + ix.toNat + 1) = vs.toList.take p.length ++ (xs.set ix.toNat v).map (Value.int k) ++ vs.toList.drop (p.length + ((xs.set ix.toNat v).map (Value.int k)).length) := by
                  have hlt : p.length + ix.toNat < vs.toList.length := by rw [hvl]; omega
                  have l1 : vs.toList.take (p.length + ix.toNat) ++ [Value.int k v] ++ vs.toList.drop (p.length + ix.toNat + 1) = vs.toList.set (p.length + ix.toNat) (Value.int k v) := by
                    rw [List.set_eq_take_append_cons_drop, if_pos hlt]; simp
                  rw [l1, f1, List.take_left, ← List.append_assoc, List.length_map, List.length_set]
                  have l2 : p.length + xs.length = (p ++ xs.map (Value.int k)).length := by simp
                  rw [l2, List.drop_left, List.append_assoc, List.set_append_right _ _ (by omega), Nat.add_sub_cancel_left, List.set_append_left _ _ (by simpa using hi), ← List.map_set, List.append_assoc]
                rw [List.toList_toArray, e5]
                exact q2
          · exact (no_inv h).elim
      · exact (no_inv h).elim
end
end Go.Proofs.YtmdnnlfoljdfpaaDoor.Mir
