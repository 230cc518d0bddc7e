/- From a law's walk to its row: what the arguments read as, laid open; that they read as before behind a call that only made memory; what the listed variable gives. -/
import Derived.Test.YtmdnnlfoljdfpaaDoorRows
import Derived.Test.YtmdnnlfoljdfpaaDoorAs
import Derived.WalkKit
import Derived.ProofKit
import Derived.OpenShut
import Derived.ShutString
import Derived.ChangeOld
import Derived.ChangeSame
import Derived.ChangeVars
import Derived.JoinedOf
import Derived.Handed
import Derived.SizedLaws
import Derived.LaidLaws
import Derived.LaidHandle
import Derived.RowKitTokens
import Derived.Stop.Joined
namespace Go.Proofs.YtmdnnlfoljdfpaaDoor
open Go.ChangeShapes Go.WideShapes Go.ChangeAt Go.RowKit

/-! ### a type's leaves: its cells' own types -/
def leavesF (P : Program) (f : TypeId → Option (List TypeId)) : List Field → Nat → Option (List TypeId)
  | [], _ => some []
  | fd :: r, o => if fd.offset = o then (f fd.type).bind fun l => if P.cellsOf fd.type = l.length then (leavesF P f r (o + l.length)).map (l ++ ·) else none else none
def leavesOf (P : Program) : Nat → TypeId → Option (List TypeId)
  | 0, _ => none
  | n + 1, t => match P.underlying t with
    | some (.struct fs) => (leavesF P (leavesOf P n) fs.toList 0).bind fun l => if P.cellsOf t = l.length then some l else none
    | some (.array m e) => (leavesOf P n e).bind fun l => if P.cellsOf e = l.length ∧ P.cellsOf t = m * l.length then some (List.replicate m l).flatten else none
    | some .bool => some [t]
    | some (.int _) => some [t]
    | some .string => some [t]
    | some (.slice _) => some [t]
    | _ => none
def Leaves (R : TypeId → Value → Prop) : List TypeId → List Value → Prop
  | [], [] => True
  | u :: us, c :: cs => R u c ∧ Leaves R us cs
  | _, _ => False
theorem Leaves.length {R : TypeId → Value → Prop} : ∀ {us cs}, Leaves R us cs → us.length = cs.length
  | [], [], _ => rfl
  | _ :: _, _ :: _, h => by simp [Leaves.length h.2]
  | [], _ :: _, h => h.elim
  | _ :: _, [], h => h.elim
theorem Leaves.append {R : TypeId → Value → Prop} : ∀ {a b x y}, Leaves R a x → Leaves R b y → Leaves R (a ++ b) (x ++ y)
  | [], _, [], _, _, h => h
  | _ :: _, _, _ :: _, _, h, k => ⟨h.1, Leaves.append h.2 k⟩
  | [], _, _ :: _, _, h, _ => h.elim
  | _ :: _, _, [], _, h, _ => h.elim
section
variable {H : Type} {enc : TypeId × Value → H} {P : Program} {w : World} {base : Nat} {spare : Nat → Bool} {held : Bool}
def Reads1 (enc : TypeId × Value → H) (P : Program) (w : World) (base : Nat) (spare : Nat → Bool) (held : Bool) (u : TypeId) (c : Value) : Prop :=
  ∃ (m : Nat) (y : DataW H × List MemPlace), DataW.trod enc P w base spare held m u [c] = some y
theorem take_add_drop (cs : List Value) (o a b : Nat) : (cs.drop o).take (a + b) = (cs.drop o).take a ++ (cs.drop (o + a)).take b := by
  rw [List.take_add, List.drop_drop]
theorem leaves_fields {f : TypeId → Option (List TypeId)} (ih : ∀ t l, f t = some l → ∀ fuel cs x, DataW.trod enc P w base spare held fuel t cs = some x → Leaves (Reads1 enc P w base spare held) l cs) (cs : List Value) :
    ∀ (fs : List Field) (o : Nat) (l : List TypeId), leavesF P f fs o = some l → (∀ fd ∈ fs, ∃ m y, DataW.trod enc P w base spare held m fd.type ((cs.drop fd.offset).take (P.cellsOf fd.type)) = some y) → Leaves (Reads1 enc P w base spare held) l ((cs.drop o).take l.length)
  | [], o, l, h, _ => by
    simp only [leavesF, Option.some.injEq] at h
    subst h
    simp [Leaves]
  | fd :: r, o, l, h, hr => by
    unfold leavesF at h
    by_cases ho : fd.offset = o
    · rw [if_pos ho] at h
      cases hf : f fd.type with
      | none => rw [hf] at h; simp at h
      | some l1 =>
        rw [hf] at h
        simp only [Option.bind_some] at h
        by_cases hc : P.cellsOf fd.type = l1.length
        · rw [if_pos hc] at h
          cases h2 : leavesF P f r (o + l1.length) with
          | none => rw [h2] at h; simp at h
          | some l2 =>
            rw [h2] at h
            simp only [Option.map_some, Option.some.injEq] at h
            subst h
            obtain ⟨m, y, hy⟩ := hr fd (List.mem_cons_self ..)
            have a := ih _ _ hf _ _ _ hy
            rw [ho, hc] at a
            have b := leaves_fields ih cs r _ _ h2 (fun q hq => hr q (List.mem_cons_of_mem _ hq))
            rw [List.length_append, take_add_drop]
            exact a.append b
        · rw [if_neg hc] at h; cases h
    · rw [if_neg ho] at h; cases h
theorem leaves_array {l : List TypeId} (cs : List Value) : ∀ m : Nat, (∀ i, i < m → Leaves (Reads1 enc P w base spare held) l ((cs.drop (i * l.length)).take l.length)) → Leaves (Reads1 enc P w base spare held) (List.replicate m l).flatten (cs.take (m * l.length))
  | 0, _ => by simp [Leaves]
  | m + 1, h => by
    have a := leaves_array cs m (fun i hi => h i (by omega))
    have b := h m (by omega)
    rw [List.replicate_succ', List.flatten_append, Nat.succ_mul, List.take_add]
    refine a.append ?_
    simpa using b
theorem leaves : ∀ (n : Nat) (t : TypeId) (l : List TypeId), leavesOf P n t = some l → ∀ (fuel : Nat) (cs : List Value) (x : DataW H × List MemPlace), DataW.trod enc P w base spare held fuel t cs = some x → Leaves (Reads1 enc P w base spare held) l cs := by
  intro n
  induction n with
  | zero => intro t l h; cases h
  | succ n ih =>
    intro t l h fuel cs x hx
    unfold leavesOf at h
    cases ht : P.underlying t with
    | none => rw [ht] at h; cases h
    | some u =>
      rw [ht] at h
      by_cases hs : ∃ fs, u = .struct fs
      · obtain ⟨fs, rfl⟩ := hs
        simp only at h
        cases h1 : leavesF P (leavesOf P n) fs.toList 0 with
        | none => rw [h1] at h; cases h
        | some l1 =>
          rw [h1] at h
          simp only [Option.bind_some] at h
          by_cases hc : P.cellsOf t = l1.length
          · rw [if_pos hc] at h
            obtain rfl := Option.some.inj h
            obtain ⟨xs, m, _, _, hl, hxl, hf⟩ := DataW.trod_struct ht hx
            have a := leaves_fields ih cs fs.toList 0 l1 h1 (fun fd hfd => by
              obtain ⟨i, hi, e⟩ := List.mem_iff_getElem.mp hfd
              have e' : fs[i]? = some fd := by rw [← e]; simp at hi ⊢
              have k := hf i fd e'
              have hi' : i < xs.length := by simp at hi; omega
              exact ⟨m, xs[i], by rw [k, List.getElem?_eq_getElem hi']⟩)
            rw [List.drop_zero, List.take_of_length_le (by omega)] at a
            exact a
          · rw [if_neg hc] at h; cases h
      · by_cases ha : ∃ m e, u = .array m e
        · obtain ⟨m, e, rfl⟩ := ha
          simp only at h
          cases h1 : leavesOf P n e with
          | none => rw [h1] at h; cases h
          | some l1 =>
            rw [h1] at h
            simp only [Option.bind_some] at h
            by_cases hc : P.cellsOf e = l1.length ∧ P.cellsOf t = m * l1.length
            · rw [if_pos hc] at h
              obtain rfl := Option.some.inj h
              obtain ⟨xs, q, _, _, hl, hxl, hf⟩ := DataW.trod_array ht hx
              have a := leaves_array (enc := enc) (P := P) (w := w) (base := base) (spare := spare) (held := held) (l := l1) cs m (fun i hi => by
                have k := hf i hi
                rw [hc.1] at k
                have hi' : i < xs.length := by omega
                exact ih _ _ h1 _ _ _ (k.trans (List.getElem?_eq_getElem hi')))
              rw [List.take_of_length_le (by omega)] at a
              exact a
            · rw [if_neg hc] at h; cases h
        · cases u with
          | bool =>
            obtain rfl := Option.some.inj h
            obtain ⟨b, rfl, _⟩ := DataW.trod_bool ht hx
            exact ⟨⟨_, _, hx⟩, trivial⟩
          | int k =>
            obtain rfl := Option.some.inj h
            obtain ⟨b, rfl, _⟩ := DataW.trod_int ht hx
            exact ⟨⟨_, _, hx⟩, trivial⟩
          | string =>
            obtain rfl := Option.some.inj h
            obtain ⟨b, rfl, _⟩ := DataW.trod_string ht hx
            exact ⟨⟨_, _, hx⟩, trivial⟩
          | slice e =>
            obtain rfl := Option.some.inj h
            rcases DataW.trod_slice ht hx with ⟨rfl, _⟩ | ⟨a, len, cap, el, re, m, _, rfl, _⟩
            · exact ⟨⟨_, _, hx⟩, trivial⟩
            · exact ⟨⟨_, _, hx⟩, trivial⟩
          | struct fs => exact absurd ⟨_, rfl⟩ hs
          | array m e => exact absurd ⟨_, _, rfl⟩ ha
          | _ => cases h
theorem Reads1.int {u : TypeId} {k : IntKind} {c : Value} (ht : P.underlying u = some (.int k)) (h : Reads1 enc P w base spare held u c) : ∃ n, c = .int k n ∧ (Lit.int k n).wf = true := by
  obtain ⟨m, y, h⟩ := h
  obtain ⟨n, e, _, hw⟩ := DataW.trod_int ht h
  exact ⟨n, (List.cons.inj e).1, hw⟩
theorem Reads1.bool {u : TypeId} {c : Value} (ht : P.underlying u = some .bool) (h : Reads1 enc P w base spare held u c) : ∃ b, c = .bool b := by
  obtain ⟨m, y, h⟩ := h
  obtain ⟨n, e, _⟩ := DataW.trod_bool ht h
  exact ⟨n, (List.cons.inj e).1⟩
theorem Reads1.string {u : TypeId} {c : Value} (ht : P.underlying u = some .string) (h : Reads1 enc P w base spare held u c) : ∃ s : ByteArray, c = .string s ∧ s.size ≤ maxLen := by
  obtain ⟨m, y, h⟩ := h
  obtain ⟨n, e, _, hw⟩ := DataW.trod_string ht h
  exact ⟨n, (List.cons.inj e).1, hw⟩
theorem okWide_agg {r : Reach} {b0 : Nat} {t : TypeId} {v : Value} (ht : (∃ fs, P.underlying t = some (.struct fs)) ∨ ∃ m e, P.underlying t = some (.array m e)) (h : Value.okWide P w r b0 t v) : ∃ cs, v = .agg cs ∧ cs.size = P.cellsOf t := by
  rcases ht with ⟨fs, ht⟩ | ⟨m, e, ht⟩ <;>
  · simp only [Value.okWide, ht] at h
    obtain ⟨cs, h1, h2, _⟩ := h
    exact ⟨cs, h1, h2⟩
/-- A struct or an array by value, laid open: its cells, each read as its leaf. -/
theorem open_leaves {r : Reach} {b0 : Nat} {t : TypeId} {l : List TypeId} {v : Value} {d : DataW H} {p : List MemPlace} (hl : leavesOf P 9 t = some l) (ht : (∃ fs, P.underlying t = some (.struct fs)) ∨ ∃ m e, P.underlying t = some (.array m e)) (hv : Value.okWide P w r b0 t v) (h : DataW.Trod enc P w base spare held t v d p) :
    ∃ cs : List Value, v = .agg cs.toArray ∧ Leaves (Reads1 enc P w base spare held) l cs := by
  obtain ⟨cs, rfl, _⟩ := okWide_agg ht hv
  obtain ⟨fuel, hf⟩ := h
  exact ⟨cs.toList, by simp, leaves 9 t l hl fuel _ _ hf⟩
/-- What the arguments read as they read behind a call that only made memory. -/
theorem trodAll_stays (hl : laidOutB P = true) {W W' : World} (hb : Below W.heap.size W W') : ∀ {ts : List TypeId} {vs : List Value} {ds : List (DataW H)} {ps : List MemPlace}, (∀ t ∈ ts, P.readableRec t = true ∧ t < P.types.size) →
    DataW.TrodAll enc P W 0 (fun _ => true) true ts vs ds ps → DataW.TrodAll enc P W' 0 (fun b => decide (b < W.heap.size)) true ts vs ds ps
  | [], [], [], _, _, h => h
  | t :: ts, v :: vs, d :: ds, ps, hr, h => by
    obtain ⟨p, q, h1, h2, e⟩ := h
    have lt : ∀ x ∈ p, x.block < W.heap.size := by obtain ⟨m, hm⟩ := h1; exact DataW.trod_lt m _ _ _ hm
    exact ⟨p, q, Below.trod hl (hr t (List.mem_cons_self ..)).1 (hr t (List.mem_cons_self ..)).2 h1 hb lt, trodAll_stays hl hb (fun u hu => hr u (List.mem_cons_of_mem _ hu)) h2, e⟩
  | [], _ :: _, _, _, _, h => by simp [DataW.TrodAll] at h
  | [], [], _ :: _, _, _, h => by simp [DataW.TrodAll] at h
  | _ :: _, [], _, _, _, h => by simp [DataW.TrodAll] at h
  | _ :: _, _ :: _, [], _, _, h => by simp [DataW.TrodAll] at h
end

/-! ### what the listed variable gives -/
theorem Tryd.own : ownKnob Tryd.prog.godebug = none := by kernel_rfl
theorem Tryd.laidOut : laidOutB Tryd.prog = true := by kernel_rfl
theorem Tryd.et : Tryd.prog.globalNamed "errors.errorType" = some 0 := by kernel_rfl
theorem Tryd.rt : (Tryd.prog.cutTypes.find? (·.1 == "internal/reflectlite.rtype")).map (·.2) = some 188 := by kernel_rfl
theorem Tryd.oneRow : ((List.range 268).filter fun t => Tryd.prog.rowNamed t [101, 114, 114, 111, 114]) = [32] := by kernel_rfl
theorem Tryd.size : Tryd.prog.types.size = 268 := by kernel_rfl
def laidL : List (String × DataW Unit) := [("errors.errorType", Rows.laid_errors_errorType)]
theorem laid_of {W : World} (h : laidMetH Tryd.prog laidL W) : LaidW W := by
  have h' : laidMet Tryd.prog [] W ∧ handlesMet Tryd.prog laidL W := h
  obtain ⟨name, u, ty, e1, e2, e3, e4, e5⟩ := h'.2 _ (List.mem_singleton.2 rfl)
  have en : name = [101, 114, 114, 111, 114] := (Option.some.inj e1).symm
  subst en
  obtain rfl := Option.some.inj (Tryd.rt.symm.trans e2)
  have hm : ty ∈ (List.range 268).filter fun t => Tryd.prog.rowNamed t [101, 114, 114, 111, 114] := List.mem_filter.2 ⟨List.mem_range.2 (by rw [← Tryd.size]; exact e3), e4⟩
  rw [Tryd.oneRow] at hm
  obtain rfl := List.mem_singleton.1 hm
  have hh : typeHandle Tryd.prog 32 = .pointer (some ⟨6, 32, none⟩) := by kernel_rfl
  rw [hh] at e5
  have := World.var?_cell Tryd.et e5 0
  unfold LaidW
  simpa using this
/-- A world that meets the condition: the settled one, the variable's cell laid. -/
noncomputable def laidWorld (os : Os) : World :=
  let w0 := World.holding Tryd.prog os ⟨#[], #[], []⟩
  { w0 with heap := w0.heap.modify 0 fun
      | .cells _ t frozen => .cells #[.iface 188 (.agg #[.pointer (some ⟨6, 32, none⟩)])] t frozen
      | o => o }
theorem laidWorld_met (os : Os) (args : Array Value) : laidMetH Tryd.prog laidL ((laidWorld os).forCall (fun _ _ => 0) ⟨#[], args, []⟩).memory :=
  laidMetH_of_parts (laidMet_nil _ _) (by kernel_rfl)
end Go.Proofs.YtmdnnlfoljdfpaaDoor
