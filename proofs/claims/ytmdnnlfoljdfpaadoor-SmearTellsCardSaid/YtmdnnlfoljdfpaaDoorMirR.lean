/- The mirror's operations are right: a call whole. Nothing here names the program. -/
import Derived.Test.YtmdnnlfoljdfpaaDoorMirQ
namespace Go.Proofs.YtmdnnlfoljdfpaaDoor.Mir
open Go Go.RowKit

section
variable {P : Program} {b : Base} {N : Nat} {g : Gh} {fr : Nat → V} {mem : Nat → Option (List C)} {a : Act} {w : World} {d : Delta} {X : Ctx} {o : Oper} {Q : Exit → Act → World → Prop}
/-- Behind a call: the blocks. -/
theorem zipStep {S : Sum} {as' : List A} {bs : List (List C)} {r : S.ρ} {gc g' : Gh} {v : Value} {w' : World} {ns more : List Nat} {dd : Nat} (hc : Con b N g fr mem a w) (nd : ns.Nodup)
    (hbs : ∀ (i : Nat) (n : Nat), ns[i]? = some n → n % 2 = 0 ∧ mem n ≠ none) (hbl : bs.length = ns.length) (hmore : newNames dd 0 ((S.out as' bs r).2.length - bs.length) = more)
    (hlen : (S.out as' bs r).2.length = (ns ++ more).length) (hnone : ∀ n ∈ more, mem n = none)
    (gcj : ∀ i, gc.j (2 * i) = match ns[i]? with | some n => g.j n | none => none) (gcK : gc.K = g.K)
    (hT : ∀ n v E sz β e cap, mem n = some [.tkt true v E sz] → g.th n v = some (.own β e cap) → ¬ Handed gc β)
    (hH : ∀ β, Handed gc β → (b.T β ∨ b.w0.heap.size ≤ β) ∧ ∀ m, g.j m ≠ some β) (E : Ends S as' bs r gc w v w' g') :
    ∃ g2, g.le g2 ∧ g2.K = g'.K ∧ g2.th = g.th ∧ (∀ n β, g'.j n = some β → g2.j (nthN (ns ++ more) n) = some β) ∧ (∀ m β, g2.j m = some β → (∃ n, g'.j n = some β) ∨ g.j m = some β) ∧
      (∀ n, n % 2 = 1 → over (zipN (nthN (ns ++ more)) noTk (ns ++ more) (S.out as' bs r).2) mem n = mem n) ∧
      Con b N g2 fr (over (zipN (nthN (ns ++ more)) noTk (ns ++ more) (S.out as' bs r).2) mem) a w' := by
  have hml : more.length = (S.out as' bs r).2.length - bs.length := by rw [← hmore, newNames_len]
  have hmget : ∀ (k : Nat), k < more.length → more[k]? = some (own dd k) := fun k hk => by
    rw [← hmore, newNames_get dd _ 0 k (by rw [← hml]; exact hk)]; congr 2; omega
  have meven : ∀ n, n ∈ more → n % 2 = 0 := fun n hn => by
    obtain ⟨k, hk, e⟩ := List.mem_iff_getElem.1 hn
    have := hmget k hk
    rw [List.getElem?_eq_getElem hk] at this
    obtain rfl := e.symm.trans (Option.some.inj this)
    unfold own; omega
  let g2 : Gh := { K := g'.K, j := fun n => if hasN n more then g'.j (2 * (ns.length + (n - 128 - 16 * dd) / 2)) else g.j n, th := g.th }
  have g2new : ∀ k, k < more.length → g2.j (own dd k) = g'.j (2 * (ns.length + k)) := fun k hk => by
    have : hasN (own dd k) more = true := hasN_iff.2 (List.mem_of_getElem? (hmget k hk))
    show (if hasN (own dd k) more then _ else _) = _
    rw [if_pos this]
    congr 3; unfold own; omega
  have g2old : ∀ n, n ∉ more → g2.j n = g.j n := fun n hn => by
    have : hasN n more = false := by cases hb : hasN n more with | false => rfl | true => exact absurd (hasN_iff.1 hb) hn
    show (if hasN n more then _ else _) = _
    rw [this]; rfl
  have hle : g.le g2 := ⟨fun β o v e => E.K β o v (by rw [gcK]; exact e), fun n β e => by
    have : n ∉ more := fun hn => by rw [hc.dom n (.inl (hnone n hn))] at e; cases e
    rw [g2old n this]; exact e, fun _ _ _ e => e⟩
  have hnsm : ∀ n, n ∈ ns → ∃ i : Nat, ns[i]? = some n ∧ i < ns.length := fun n hn => by
    obtain ⟨i, hi, e⟩ := List.mem_iff_getElem.1 hn
    exact ⟨i, by rw [List.getElem?_eq_getElem hi, e], hi⟩
  have neven : ∀ n, n ∈ ns → n % 2 = 0 := fun n hn => by
    obtain ⟨i, e, _⟩ := hnsm n hn
    exact (hbs i n e).1
  have nsold : ∀ n, n ∈ ns → n ∉ more := fun n hn hm => by
    obtain ⟨i, e, _⟩ := hnsm n hn
    exact (hbs i n e).2 (hnone n hm)
  have hall : (ns ++ more).Nodup := by
    rw [List.nodup_append]
    refine ⟨nd, ?_, fun x hx y hy e => nsold x hx (e ▸ hy)⟩
    rw [List.Nodup, List.pairwise_iff_getElem]
    intro i k hi hk hik e
    have e1 := hmget i hi
    have e2 := hmget k hk
    rw [List.getElem?_eq_getElem hi] at e1
    rw [List.getElem?_eq_getElem hk, ← e] at e2
    have := own_inj (Option.some.inj (e1.symm.trans e2))
    omega
  have allget : ∀ (i : Nat), i < (ns ++ more).length → ∀ n, (ns ++ more)[i]? = some n → g2.j n = g'.j (2 * i) := fun i hi n e => by
    rcases Nat.lt_or_ge i ns.length with h1 | h1
    · rw [List.getElem?_append_left h1] at e
      rw [g2old n (nsold n (List.mem_of_getElem? e)), E.j i (by omega), gcj, e]
    · rw [List.getElem?_append_right h1] at e
      have h2 : i - ns.length < more.length := by rw [List.length_append] at hi; omega
      rw [hmget _ h2] at e
      obtain rfl := (Option.some.inj e)
      rw [g2new _ h2]; congr 2; omega
  have hren : ∀ n β, g'.j n = some β → g2.j (nthN (ns ++ more) n) = some β := fun n β e => by
    obtain ⟨i, rfl, hi⟩ := E.blks.dom n β e
    have hi' : i < (ns ++ more).length := by omega
    have : (ns ++ more)[i]? = some (nthN (ns ++ more) (2 * i)) := by
      unfold nthN; rw [show 2 * i / 2 = i by omega, List.getD_eq_getElem?_getD, List.getElem?_eq_getElem hi']; rfl
    rw [allget i hi' _ this]; exact e
  have back : ∀ m β, g2.j m = some β → (∃ i, bs.length ≤ i ∧ g'.j (2 * i) = some β) ∨ g.j m = some β := fun m β e => by
    by_cases hm : m ∈ more
    · obtain ⟨k, hk, ek⟩ := List.mem_iff_getElem.1 hm
      have := hmget k hk
      rw [List.getElem?_eq_getElem hk, ek] at this
      obtain rfl := (Option.some.inj this)
      rw [g2new k hk] at e
      exact .inl ⟨_, by omega, e⟩
    · rw [g2old m hm] at e; exact .inr e
  have cases2 : ∀ n, (∃ (i : Nat) (cs : List C), (ns ++ more)[i]? = some n ∧ (S.out as' bs r).2[i]? = some cs ∧ over (zipN (nthN (ns ++ more)) noTk (ns ++ more) (S.out as' bs r).2) mem n = some (renL (nthN (ns ++ more)) noTk cs)) ∨ (n ∉ ns ++ more ∧ over (zipN (nthN (ns ++ more)) noTk (ns ++ more) (S.out as' bs r).2) mem n = mem n) :=
    fun n => over_cases (nthN (ns ++ more)) hlen.symm hall
  have hodd : ∀ n, n % 2 = 1 → over (zipN (nthN (ns ++ more)) noTk (ns ++ more) (S.out as' bs r).2) mem n = mem n := fun n hn => by
    rcases cases2 n with ⟨i, cs, f1, _⟩ | ⟨_, f2⟩
    · have := List.mem_of_getElem? f1
      rcases List.mem_append.1 this with h | h
      · have := neven n h; omega
      · have := meven n h; omega
    · exact f2
  have hOwn : ∀ {n v E' sz β e cap}, mem n = some [.tkt true v E' sz] → g.th n v = some (.own β e cap) → OwnAt g b w β e cap E' sz → OwnAt g2 b w' β e cap E' sz := fun {n v E' sz β e cap} hm ht O => by
    have h1 := hT _ _ _ _ _ _ _ hm ht
    refine ⟨⟨?_, O.room, O.most, fun q hq => ?_, fun m e => ?_⟩, O.new⟩
    · obtain ⟨cur, fz, r1, r2⟩ := O.row
      refine ⟨cur, fz, ?_, r2⟩
      rw [E.only.block β O.lt ?_]
      · exact r1
      · rintro (⟨i, hi, hj⟩ | h)
        · rw [gcj] at hj
          split at hj
          · exact O.mine _ hj
          · cases hj
        · exact h1 h
    · show g'.K β q = none
      cases hk : g'.K β q with
      | none => rfl
      | some v =>
        rcases E.new β q v hk with z | z | z
        · rw [gcK, O.dark q hq] at z; cases z
        · exact absurd z h1
        · have := O.lt; omega
    · rcases back m β e with ⟨i, z1, z2⟩ | z
      · have := E.fresh i β z1 z2
        have := O.lt; omega
      · exact O.mine m z
  refine ⟨g2, hle, rfl, rfl, hren, fun m β e => (back m β e).imp (fun ⟨i, _, h⟩ => ⟨2 * i, h⟩) id, hodd, ?_⟩
  refine ⟨fun t => (hc.rep t).le hle, hc.defers, hc.siz, E.known, fun n cs hn2 e => ?_, fun n m β k1 k2 => ?_, fun n e => ?_, fun n cs h1 e => ?_, fun n v τ e => ?_, fun n m v v' E1 E2 sz sz' β e e' cap cap' q1 q2 q3 q4 => ?_, fun β q v e => E.K _ _ _ (by rw [gcK]; exact hc.old _ _ _ e), fun β q v e => ?_, fun n β e => hle.j _ _ (hc.out n β e), ?_, hc.todd⟩
  · rcases cases2 n with ⟨i, cs', f1, f2, f3⟩ | ⟨f1, f2⟩
    · rw [f3] at e
      obtain rfl := Option.some.inj e
      obtain ⟨β, vs, ty, q1, q2, q3, q4⟩ := E.blks.blk i cs' f2
      have hi := (List.getElem?_eq_some_iff.1 f1).1
      refine ⟨β, vs, ty, by rw [allget i hi n f1]; exact q1, q2, ren_repL (g1 := g') (g2 := g2) (fun _ _ _ e => e) noTk_ok (fun n _ => hren n) q3, q4, ?_⟩
      rcases Nat.lt_or_ge i bs.length with h1 | h1
      · rw [E.j i h1, gcj] at q1
        rw [List.getElem?_append_left (by omega)] at f1
        rw [f1] at q1
        obtain ⟨cs2, m1⟩ := Option.ne_none_iff_exists'.1 (hbs i n f1).2
        obtain ⟨β2, _, _, z1, _, _, _, z5⟩ := hc.blk n cs2 hn2 m1
        obtain rfl := Option.some.inj (q1.symm.trans z1)
        exact z5
      · exact .inr (Nat.le_trans hc.only.size (E.fresh i β h1 q1))
    · rw [f2] at e
      obtain ⟨β, vs, ty, q1, q2, q3, q4, q5⟩ := hc.blk n cs hn2 e
      have hβ := hc.blk_lt q1
      have hnM : ¬ ((∃ i, i < bs.length ∧ gc.j (2 * i) = some β) ∨ Handed gc β) := by
        rintro (⟨i, hi, hj⟩ | h)
        · rw [gcj] at hj
          split at hj
          · rename_i n' f3
            have := hc.inj n' n β hj q1
            subst this
            exact f1 (List.mem_append_left _ (List.mem_of_getElem? f3))
          · cases hj
        · exact (hH β h).2 n q1
      refine ⟨β, vs, ty, hle.j _ _ q1, by rw [E.only.block β hβ hnM]; exact q2, q3.le hle, fun q => ?_, q5⟩
      show g'.K β q = none
      cases hk : g'.K β q with
      | none => rfl
      | some v =>
        rcases E.new β q v hk with z | z | z
        · rw [gcK, q4 q] at z; cases z
        · exact absurd q1 ((hH β z).2 n)
        · omega
  · have look : ∀ (n : Nat), g2.j n = some β → (∃ i : Nat, (ns ++ more)[i]? = some n ∧ g'.j (2 * i) = some β) ∨ (n ∉ ns ++ more ∧ g.j n = some β) := fun n k1 => by
      by_cases hn : n ∈ ns ++ more
      · obtain ⟨i, hi, ei⟩ := List.mem_iff_getElem.1 hn
        have f1 : (ns ++ more)[i]? = some n := by rw [List.getElem?_eq_getElem hi, ei]
        exact .inl ⟨i, f1, by rw [← allget i hi n f1]; exact k1⟩
      · exact .inr ⟨hn, by rw [g2old n (fun h => hn (List.mem_append_right _ h))] at k1; exact k1⟩
    have mixed : ∀ (n m i : Nat), (ns ++ more)[i]? = some n → g'.j (2 * i) = some β → m ∉ ns ++ more → g.j m = some β → False := fun n m i f1 f2 f3 f5 => by
      rcases Nat.lt_or_ge i bs.length with h1 | h1
      · rw [E.j i h1, gcj] at f2
        rw [List.getElem?_append_left (by omega)] at f1
        rw [f1] at f2
        have := hc.inj n m β f2 f5
        subst this
        exact f3 (List.mem_append_left _ (List.mem_of_getElem? f1))
      · have := E.fresh i β h1 f2
        have := hc.blk_lt f5
        omega
    rcases look n k1 with ⟨i, f1, f2⟩ | ⟨f1, f3⟩ <;> rcases look m k2 with ⟨i', f1', f2'⟩ | ⟨f1', f3'⟩
    · have := E.blks.inj i i' β f2 f2'
      subst this
      exact Option.some.inj (f1.symm.trans f1')
    · exact (mixed n m i f1 f2 f1' f3').elim
    · exact (mixed m n i' f1' f2' f1 f3).elim
    · exact hc.inj n m β f3 f3'
  · rcases e with e | e
    · rcases cases2 n with ⟨i, cs', f1, f2, f3⟩ | ⟨f1, f2⟩
      · rw [f3] at e; cases e
      · rw [f2] at e
        rw [g2old n (fun h => f1 (List.mem_append_right _ h))]
        exact hc.dom n (.inl e)
    · rw [g2old n (fun h => by have := meven n h; omega)]
      exact hc.dom n (.inr e)
  · rw [hodd n h1] at e
    obtain ⟨al, v, E', sz, k1, k2⟩ := hc.tkt n cs h1 e
    refine ⟨al, v, E', sz, k1, fun ha => ?_⟩
    obtain ⟨τ, k3, k4⟩ := k2 ha
    refine ⟨τ, k3, fun β e' cap et => ?_⟩
    subst k1; subst ha; subst et
    exact hOwn e k3 (k4 β e' cap rfl)
  · obtain ⟨k1, al, v', E', sz, k2, k3⟩ := hc.tdom n v τ e
    exact ⟨k1, al, v', E', sz, by rw [hodd n k1]; exact k2, k3⟩
  · rw [hodd n (hc.tdom _ _ _ q3).1] at q1
    rw [hodd m (hc.tdom _ _ _ q4).1] at q2
    exact hc.tinj n m v v' E1 E2 sz sz' β e e' cap cap' q1 q2 q3 q4
  · rcases E.new β q v e with z | z | z
    · rw [gcK] at z; exact hc.new β q v z
    · exact .inr (hH β z).1
    · exact .inr (.inr (Nat.le_trans hc.only.size z))
  · refine ⟨E.only.os.trans hc.only.os, E.only.tape.trans hc.only.tape, E.only.output.trans hc.only.output, Nat.le_trans hc.only.size E.only.size, fun k hk hm => ?_⟩
    rw [E.only.block k (Nat.lt_of_lt_of_le hk hc.only.size) ?_, hc.only.block k hk hm]
    rintro (⟨i, hi, hj⟩ | h)
    · rw [gcj] at hj
      split at hj
      · rename_i n' f3
        obtain ⟨cs2, m2⟩ := Option.ne_none_iff_exists'.1 (hbs _ _ f3).2
        obtain ⟨β2, _, _, z1, _, _, _, z5⟩ := hc.blk n' cs2 (hbs _ _ f3).1 m2
        obtain rfl := Option.some.inj (hj.symm.trans z1)
        rcases z5 with z5 | z5
        · exact hm (.inl z5)
        · omega
      · cases hj
    · rcases (hH k h).1 with z | z
      · exact hm (.inr z)
      · omega
theorem pcall_ok {S : Sum} {laid : List (Nat × Nat × Value)} {f : FuncId} (hS : SumOk P laid f S) (hl : Laid laid b.K0) (hc : Con b N g fr mem a w) (hd : ∀ t, o.dst = some t → t < N) {l : List Operand}
    (he : execOp a.eval o = callFunc f (l.map a.eval).toArray) (h : (pcall S mem o.dst (evs fr l)).run some = some d) : Good P b N o d fr mem a w Q := by
  have hev := evs_spec (g := g) (RepV.eval hc.rep) l
  unfold pcall at h
  split at h
  · rename_i as dd e1 e2
    have hargs : RepAs g as (l.map a.eval) := asAs_spec e1 hev.1 hev.2
    dsimp only at h
    generalize hns : dedup (nameAs as) [] = ns at h
    obtain ⟨nd, hmem⟩ := dedup_spec (nameAs as) [] List.nodup_nil
    rw [hns] at nd hmem
    simp only [List.not_mem_nil, or_false] at hmem
    split at h
    · rename_i bs tl eb et
      have neven : ∀ n, n ∈ ns → n % 2 = 0 := fun n hn => by
        obtain ⟨β, e⟩ := names_As hargs n ((hmem n).1 hn)
        exact hc.even e
      obtain ⟨hbl, hbs⟩ := blksOf_spec eb
      obtain ⟨ys, hys, hyv⟩ := blksOf_vals hc eb neven
      obtain ⟨htl, htk⟩ := callTks_spec et
      split at h
      · rename_i al us ea
        have hxy := hargs.append hys
        obtain ⟨thc, HA, HR⟩ := tkAs_spec hc ea hxy
        generalize has' : al.take as.length = as' at h
        generalize hbs' : (al.drop as.length).map cellsA = bs' at h
        obtain ⟨al1, al2⟩ := tkAs_get ea
        have hbl' : bs'.length = ns.length := by rw [← hbs', List.length_map, List.length_drop, al1, List.length_append, hbl]; omega
        cases hdj : disjN (us.map (·.1)) (tl.map (·.1)) with
        | false => rw [hdj] at h; exact (no_inv h).elim
        | true =>
        rw [hdj] at h
        have hdj := disjN_spec hdj
        simp only [cond_true, Pl.run] at h
        cases hr : S.run as' bs' with
        | none => rw [hr] at h; cases h
        | some r =>
        rw [hr] at h
        simp only [Option.bind_some] at h
        generalize hmore : newNames dd 0 ((S.out as' bs' r).2.length - bs'.length) = more at h
        cases hk : (Nat.beq (S.out as' bs' r).2.length (ns ++ more).length && noneAt mem more) with
        | false => rw [hk] at h; cases h
        | true =>
          rw [hk] at h
          obtain rfl := (Option.some.inj h).symm
          simp only [Bool.and_eq_true] at hk
          have hlen := Nat.eq_of_beq_eq_true hk.1
          have hnone := noneAt_spec hk.2
          have usodd : ∀ n, n ∈ us.map (·.1) → n % 2 = 1 := fun n hn => by
            obtain ⟨u, hu, rfl⟩ := List.mem_map.1 hn
            exact hc.odd (HA.mem u hu)
          have hc1 := kills hc HA.mem HA.nd
          have hm1 : ∀ n, n % 2 = 0 → over (killL us) mem n = mem n := fun n hn => killL_none (fun h => by have := usodd n h; omega)
          have halive : ∀ n v E sz, over (killL us) mem n = some [.tkt true v E sz] → n ∉ us.map (·.1) ∧ mem n = some [.tkt true v E sz] := fun n v E sz e => by
            by_cases hn : n ∈ us.map (·.1)
            · obtain ⟨v', E', sz', k⟩ := killL_some (mem := mem) hn
              rw [k] at e
              injection e with e
              injection e with e _
              injection e with e _ _ _
              cases e
            · exact ⟨hn, by rw [← e, killL_none hn]⟩
          -- the callee's view
          let gc : Gh := { K := g.K, j := fun m => if m % 2 = 0 then (match ns[m / 2]? with | some n => g.j n | none => none) else none, th := thc }
          have gcj : ∀ i, gc.j (2 * i) = match ns[i]? with | some n => g.j n | none => none := fun i => by
            show (if 2 * i % 2 = 0 then _ else _) = _
            rw [if_pos (by omega), show 2 * i / 2 = i by omega]
          have gcj' : ∀ m β, gc.j m = some β → ∃ n, g.j n = some β := fun m β e => by
            have e' : (if m % 2 = 0 then (match ns[m / 2]? with | some n => g.j n | none => none) else none) = some β := e
            split at e'
            · split at e'
              · exact ⟨_, e'⟩
              · cases e'
            · cases e'
          have bnames : ∀ {l : List A}, (∀ (i : Nat) (a : A), l[i]? = some a → nameA a = []) → nameAs l = [] := by
            intro l
            induction l with
            | nil => intro _; rfl
            | cons a l ih => intro hl; simp only [nameAs]; rw [hl 0 a rfl, ih (fun i a e => hl (i + 1) a (by simpa using e))]; rfl
          have hnb : nameAs bs = [] := bnames fun i a e => by
            have hi : i < ns.length := by rw [← hbl]; exact (List.getElem?_eq_some_iff.1 e).1
            obtain ⟨cs, _, k2, k3⟩ := hbs i _ (List.getElem?_eq_getElem hi)
            obtain rfl := Option.some.inj (e.symm.trans k3)
            exact k2
          have hnab : ∀ {l l' : List A}, nameAs (l ++ l') = nameAs l ++ nameAs l' := by
            intro l l'
            induction l with
            | nil => rfl
            | cons a l ih => simp only [List.cons_append, nameAs]; rw [ih, List.append_assoc]
          have hAll : RepAs gc al (l.map a.eval ++ ys) := HR gc rfl (fun n hn β e => by
            rw [hnab, hnb, List.append_nil] at hn
            rw [gcj, idxN_spec ((hmem n).2 hn)]
            exact e) (fun _ _ _ e => e)
          obtain ⟨hA, hBv⟩ := hAll.take (n := as.length) hargs.length.symm
          rw [has'] at hA
          have hB : Blks gc w bs' := by
            refine ⟨fun i cs e => ?_, fun i k β e1 e2 => ?_, fun m β e => ?_⟩
            · have hi : i < ns.length := by rw [← hbl']; exact (List.getElem?_eq_some_iff.1 e).1
              obtain ⟨β, vs, ty, q1, q2, q3, q4⟩ := hyv i _ (List.getElem?_eq_getElem hi)
              rw [← hbs', List.getElem?_map] at e
              obtain ⟨a0, x1, x2⟩ := Option.map_eq_some_iff.1 e
              obtain ⟨y, y1, y2⟩ := hBv.get x1
              obtain rfl := Option.some.inj (y1.symm.trans q3)
              rw [List.getElem?_drop] at x1
              obtain ⟨cs0, _, _, k3⟩ := hbs i _ (List.getElem?_eq_getElem hi)
              obtain ⟨cs', k4⟩ := al2 (as.length + i) cs0 (by rw [List.getElem?_append_right (by omega), Nat.add_sub_cancel_left]; exact k3)
              obtain rfl := Option.some.inj (x1.symm.trans k4)
              obtain ⟨us', s1, s2⟩ := y2
              injection s1 with s1
              subst x2
              refine ⟨β, vs, ty, by rw [gcj, List.getElem?_eq_getElem hi]; exact q1, q2, ?_, q4⟩
              rw [s1]; exact s2
            · rw [gcj] at e1 e2
              split at e1
              · rename_i n1 f1
                split at e2
                · rename_i n2 f2
                  have := hc.inj n1 n2 β e1 e2
                  subst this
                  obtain ⟨h1, g1⟩ := List.getElem?_eq_some_iff.1 f1
                  obtain ⟨h2, g2⟩ := List.getElem?_eq_some_iff.1 f2
                  exact (List.getElem_inj nd).1 (g1.trans g2.symm)
                · cases e2
              · cases e1
            · have e' : (if m % 2 = 0 then (match ns[m / 2]? with | some n => g.j n | none => none) else none) = some β := e
              split at e'
              · split at e'
                · rename_i f1
                  exact ⟨m / 2, by omega, by rw [hbl']; exact (List.getElem?_eq_some_iff.1 f1).1⟩
                · cases e'
              · cases e'
          -- handed tickets
          have hHm : ∀ n β e cap, thc n 0 = some (.own β e cap) → ∃ m v E sz, (m, v, E, sz) ∈ us ∧ g.th m v = some (.own β e cap) ∧ OwnAt g b w β e cap E sz ∧ ∃ (q : Nat) (l : List Sh), (specsL S.tin)[q]? = some (E, sz, l) ∧ n = 2 * (0 + q) + 1 := fun n β e cap eh => by
            obtain ⟨_, q, E, sz, l, k1, k2, k3⟩ := HA.own n 0 _ eh
            obtain ⟨m, v, z1, z2⟩ := k3 β e cap rfl
            obtain ⟨τ, y1, y2⟩ := hc.aliveAt (HA.mem _ z1)
            obtain rfl := Option.some.inj (y1.symm.trans z2)
            exact ⟨m, v, E, sz, z1, z2, y2 _ _ _ rfl, q, l, k1, k2⟩
          have hH : ∀ β, Handed gc β → (b.T β ∨ b.w0.heap.size ≤ β) ∧ ∀ m, g.j m ≠ some β := fun β ⟨n, e, cap, eh⟩ => by
            obtain ⟨m, v, E, sz, _, _, O, _⟩ := hHm n β e cap eh
            exact ⟨O.new, O.mine⟩
          have hT : ∀ n v E sz β e cap, over (killL us) mem n = some [.tkt true v E sz] → g.th n v = some (.own β e cap) → ¬ Handed gc β := fun n v E sz β e cap hm ht ⟨n', e', cap', eh⟩ => by
            obtain ⟨m, v', E', sz', z1, z2, _⟩ := hHm n' β e' cap' eh
            obtain ⟨k1, k2⟩ := halive n v E sz hm
            have := hc.tinj n m v v' _ _ _ _ β e e' cap cap' k2 (HA.mem _ z1) ht z2
            subst this
            exact k1 (List.mem_map.2 ⟨_, z1, rfl⟩)
          have hTks : TksAt gc w (tinQ S.tin) := by
            refine ⟨fun p E sz hq => ?_, HA.inj, fun n v τ e => ?_⟩
            · obtain ⟨⟨E', sz', l'⟩, hp, he2⟩ := Option.map_eq_some_iff.1 hq
              obtain ⟨rfl, rfl⟩ := Prod.mk.inj he2
              obtain ⟨τ, ht⟩ := HA.tot p E' sz' l' hp
              rw [Nat.zero_add] at ht
              refine ⟨τ, ht, fun β e cap et => ?_⟩
              subst et
              obtain ⟨m, v, E2, sz2, _, _, O, q, l2, k1, k2⟩ := hHm _ β e cap ht
              have : q = p := by omega
              subst this
              rw [hp] at k1
              injection k1 with k1
              injection k1 with k1 k3
              injection k3 with k3 _
              subst k1; subst k3
              exact ⟨O.row, O.room, O.most, O.dark, fun m' e' => by
                obtain ⟨n2, e2⟩ := gcj' m' β e'
                exact O.mine n2 e2⟩
            · obtain ⟨k1, q, E, sz, l', k2, k3, _⟩ := HA.own n v τ e
              exact ⟨k1, q, E, sz, by omega, by unfold tinQ; rw [k2]; rfl⟩
          have hI := hS as' bs' r hr gc w (l.map a.eval) (fun p hp => hc.old _ _ _ (hl p hp)) hc.known hA hB hTks
          -- behind the call
          have fin : ∀ v w', (∃ g', Ends S as' bs' r gc w v w' g') → ∃ g', Con b N g' (apFr o.dst (renV (nthN (ns ++ more)) (tkMap tl) (S.out as' bs' r).1) fr) (over (tkWr tl S.tks ++ (zipN (nthN (ns ++ more)) (tkMap tl) (ns ++ more) (S.out as' bs' r).2 ++ killL us)) mem) (a.put o.dst v) w' := by
            rintro v w' ⟨g', E⟩
            obtain ⟨g2, q1, q2, q3, q4, q5, q6, q7⟩ := zipStep (ns := ns) (more := more) hc1 nd (fun i n e => by
                have hn := neven n (List.mem_of_getElem? e)
                obtain ⟨cs, k1, _⟩ := hbs i n e
                exact ⟨hn, by rw [hm1 n hn, k1]; simp⟩) hbl' hmore hlen (fun n hn => by
                have : n % 2 = 0 := by
                  rw [← hmore] at hn
                  obtain ⟨k, hk, e⟩ := List.mem_iff_getElem.1 hn
                  have := newNames_get dd _ 0 k (by rw [newNames_len] at hk; exact hk)
                  rw [List.getElem?_eq_getElem hk] at this
                  obtain rfl := e.symm.trans (Option.some.inj this)
                  unfold own; omega
                rw [hm1 n this]; exact hnone n hn) gcj rfl hT hH E
            have tlodd : ∀ (k n v : Nat), tl[k]? = some (n, v) → n % 2 = 1 := fun k n v e => by rw [(htk k n v e).1]; unfold tkN; omega
            have tnd : (tl.map (·.1)).Nodup := by
              rw [List.Nodup, List.pairwise_iff_getElem]
              intro i k hi hk hik e
              rw [List.getElem_map, List.getElem_map] at e
              rw [List.length_map] at hi hk
              have e1 : tl[i].1 = _ := (htk i _ _ (List.getElem?_eq_getElem hi)).1
              have e2 : tl[k].1 = _ := (htk k _ _ (List.getElem?_eq_getElem hk)).1
              rw [e, e2] at e1
              unfold tkN at e1; omega
            have tlt : ∀ (i : Nat), i < tl.length → ∃ E sz, S.tks[i]? = some (E, sz) := fun i hi => ⟨_, _, List.getElem?_eq_getElem (by omega)⟩
            obtain ⟨g3, r1, r2, r3, r4, r5⟩ := tickets (tl := tl) (q := S.tks) (τ := fun i => (g'.th (2 * i + 1) 0).getD .none) q7 htl tnd (fun p hp => by
                obtain ⟨k, hk, e⟩ := List.mem_iff_getElem.1 hp
                have e' : tl[k]? = some (p.1, p.2) := by rw [List.getElem?_eq_getElem hk, e]
                refine ⟨tlodd k p.1 p.2 e', ?_⟩
                have hnu : p.1 ∉ us.map (·.1) := fun h => hdj p.1 h (List.mem_map.2 ⟨p, hp, rfl⟩)
                rw [q6 p.1 (tlodd k p.1 p.2 e'), killL_none hnu]
                exact nextV_spec (htk k p.1 p.2 e').2)
              (fun i E' sz hq β e cap et => by
                obtain ⟨τ, t1, t2⟩ := E.tks.tot i E' sz hq
                rw [t1] at et
                simp only [Option.getD_some] at et
                subst et
                have O := t2 β e cap rfl
                have hn := E.tnew β ⟨_, e, cap, t1⟩
                refine ⟨⟨O.row, O.room, O.most, by rw [q2]; exact O.dark, fun m em => ?_⟩, ?_⟩
                · rcases q5 m β em with ⟨n, z⟩ | z
                  · exact O.mine n z
                  · rcases hn with hn | hn
                    · exact (hH β hn).2 m z
                    · have := hc.blk_lt z; omega
                · rcases hn with hn | hn
                  · exact (hH β hn).1
                  · exact .inr (Nat.le_trans hc.only.size hn))
              (fun i k β e e' cap cap' h1 h2 e1 e2 => by
                obtain ⟨E1, sz1, y1⟩ := tlt i h1
                obtain ⟨E2, sz2, y2⟩ := tlt k h2
                obtain ⟨τ1, t1, _⟩ := E.tks.tot i E1 sz1 y1
                obtain ⟨τ2, t2, _⟩ := E.tks.tot k E2 sz2 y2
                rw [t1] at e1
                rw [t2] at e2
                simp only [Option.getD_some] at e1 e2
                subst e1; subst e2
                have := E.tks.inj _ _ β e e' cap cap' t1 t2
                omega)
              (fun i β e cap h1 e1 m v E' sz e' cap' hm ht => by
                obtain ⟨E1, sz1, y1⟩ := tlt i h1
                obtain ⟨τ1, t1, _⟩ := E.tks.tot i E1 sz1 y1
                rw [t1] at e1
                simp only [Option.getD_some] at e1
                subst e1
                rw [q3] at ht
                rw [q6 m (hc.tdom _ _ _ ht).1] at hm
                rcases E.tnew β ⟨_, e, cap, t1⟩ with z | z
                · exact hT _ _ _ _ _ _ _ hm ht z
                · obtain ⟨τ, y2, y3⟩ := hc1.aliveAt hm
                  obtain rfl := Option.some.inj (y2.symm.trans ht)
                  have := (y3 _ _ _ rfl).lt
                  omega)
            have hgK : ∀ β o v, g'.K β o = some v → g3.K β o = some v := fun β o v e => by rw [r3, q2]; exact e
            have hgj : ∀ n β, g'.j n = some β → g3.j (nthN (ns ++ more) n) = some β := fun n β e => by rw [r2]; exact q4 n β e
            have hgt : ∀ n v n' v' τ, tkMap tl n = some (n', v') → g'.th n v = some τ → g3.th n' v' = some τ := fun n v n' v' τ e1 e2 => by
              obtain ⟨rfl, p, E', sz, rfl, hq⟩ := E.tks.dom n v τ e2
              unfold tkMap at e1
              have hb : Nat.beq ((2 * p + 1) % 2) 1 = true := by rw [show (2 * p + 1) % 2 = 1 by omega]; rfl
              rw [hb, show (2 * p + 1) / 2 = p by omega] at e1
              have := r4 p n' v' e1
              rw [this, e2]; rfl
            refine ⟨g3, ?_⟩
            rw [over_append, over_append]
            refine Con.put ?_ hd (ren_repV (g1 := g') (g2 := g3) hgK hgt hgj E.rep)
            -- the blocks' tickets
            have hallnd : (ns ++ more).Nodup := by
              rw [List.nodup_append]
              refine ⟨nd, ?_, fun x hx y hy e => ?_⟩
              · rw [List.Nodup, List.pairwise_iff_getElem]
                intro i k hi hk hik e
                have hml : more.length = (S.out as' bs' r).2.length - bs'.length := by rw [← hmore, newNames_len]
                have e1 := newNames_get dd _ 0 i (by rw [hml] at hi; exact hi)
                have e2 := newNames_get dd _ 0 k (by rw [hml] at hk; exact hk)
                rw [hmore, List.getElem?_eq_getElem hi] at e1
                rw [hmore, List.getElem?_eq_getElem hk, ← e] at e2
                have := own_inj (Option.some.inj (e1.symm.trans e2))
                omega
              · subst e
                obtain ⟨i, hi, ei⟩ := List.mem_iff_getElem.1 hx
                obtain ⟨cs, k1, _⟩ := hbs i x (by rw [List.getElem?_eq_getElem hi, ei])
                rw [hnone x hy] at k1; cases k1
            have htl1 : ∀ n, n % 2 = 0 → ∀ (m : Nat → Option (List C)), over (tkWr tl S.tks) m n = m n := fun n hn m => by
              rcases tkWr_cases (mem := m) n htl with ⟨i, v, E', sz, hp, _⟩ | ⟨_, h⟩
              · have := tlodd i n v hp; omega
              · exact h
            have halle : ∀ n ∈ ns ++ more, n % 2 = 0 := fun n hn => by
              rcases List.mem_append.1 hn with h | h
              · exact neven n h
              · rw [← hmore] at h
                obtain ⟨k, hk, e⟩ := List.mem_iff_getElem.1 h
                have := newNames_get dd _ 0 k (by rw [newNames_len] at hk; exact hk)
                rw [List.getElem?_eq_getElem hk] at this
                obtain rfl := e.symm.trans (Option.some.inj this)
                unfold own; omega
            refine r5.relabel (fun n hn => over_at ?_) (fun n hn => ?_)
            · rcases over_cases (mem := over (killL us) mem) (nthN (ns ++ more)) (ht := tkMap tl) (n := n) hlen.symm hallnd with ⟨i, _, f1, _⟩ | ⟨f1, f2⟩
              · have := halle n (List.mem_of_getElem? f1); omega
              · rcases over_cases (mem := over (killL us) mem) (nthN (ns ++ more)) (ht := noTk) (n := n) hlen.symm hallnd with ⟨i, _, f1', _⟩ | ⟨_, f2'⟩
                · exact absurd (List.mem_of_getElem? f1') f1
                · rw [f2, f2']
            · rw [htl1 n hn, htl1 n hn]
              rcases over_cases (mem := over (killL us) mem) (nthN (ns ++ more)) (ht := noTk) (n := n) hlen.symm hallnd with ⟨i, cs, f1, f2, f3⟩ | ⟨f1, f2⟩
              · refine .inr ⟨_, _, f3, over_zipN (nthN (ns ++ more)) hallnd f1 f2, fun β vs ty y1 y2 _ => ?_⟩
                obtain ⟨β', vs', ty', x1, x2, x3, _⟩ := E.blks.blk i cs f2
                have hj := hgj _ _ x1
                have : nthN (ns ++ more) (2 * i) = n := by
                  unfold nthN
                  rw [show 2 * i / 2 = i by omega, List.getD_eq_getElem?_getD, f1]; rfl
                rw [this, y1] at hj
                obtain rfl := Option.some.inj hj
                rw [x2] at y2
                injection y2 with y2
                injection y2 with y2 _ _
                subst y2
                exact ren_repL hgK hgt (fun n _ β e => hgj n β e) x3
              · rcases over_cases (mem := over (killL us) mem) (nthN (ns ++ more)) (ht := tkMap tl) (n := n) hlen.symm hallnd with ⟨i, _, f1', _⟩ | ⟨_, f2'⟩
                · exact absurd (List.mem_of_getElem? f1') f1
                · rw [f2, f2']
                  cases hq : over (killL us) mem n with
                  | none => exact .inl ⟨rfl, rfl⟩
                  | some cs => exact .inr ⟨cs, cs, rfl, rfl, fun _ _ _ _ _ h => h⟩
          unfold Good Oper.wp
          rw [he]
          unfold Invokes at hI
          split at hI
          · rename_i v w' hrun
            rw [hrun]
            exact fin v w' hI
          · rename_i f' args w' hrun
            rw [hrun]
            refine Calls.mono hI ?_
            rintro e w'' ⟨v, rfl, hE⟩
            exact fin v w'' hE
          · exact hI.elim
      · exact (no_inv h).elim
    · exact (no_inv h).elim
  · exact (no_inv h).elim
end
end Go.Proofs.YtmdnnlfoljdfpaaDoor.Mir
