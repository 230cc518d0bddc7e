/- The mirror's tables, and what joins its parts. Nothing here names the program. -/
import Derived.Test.YtmdnnlfoljdfpaaDoorMirL
import Derived.KernelRfl
namespace Go.Proofs.YtmdnnlfoljdfpaaDoor.Mir
open Go Go.RowKit

def lookF : List (Nat × Sum) → Nat → Option Sum
  | [], _ => none
  | (g, S) :: r, f => bif Nat.beq f g then some S else lookF r f
def lookL : List (Nat × LSum) → Nat → Option LSum
  | [], _ => none
  | (g, S) :: r, f => bif Nat.beq f g then some S else lookL r f
def lookT : List (Nat × TI) → Nat → Option TI
  | [], _ => none
  | (g, S) :: r, f => bif Nat.beq f g then some S else lookT r f
def lookE : List (Nat × (List C → List C → Option Bool)) → Nat → Option (List C → List C → Option Bool)
  | [], _ => none
  | (g, S) :: r, f => bif Nat.beq f g then some S else lookE r f
def bodyOf (f : Func) : Code := match f.body with | some c => c | none => .skip
def findK (k : Nat) : List (Nat × Code) → Code
  | [] => .skip
  | (j, c) :: r => bif Nat.beq k j then c else findK k r
def unloop : Code → Code
  | .loop x => x
  | c => c
def loopAt (cur k : Nat) (c : Code) : Code := findK k (loopsIn cur c)
def iter {π θ : Type} (b : (π → Option θ) → π → Option θ) : Nat → π → Option θ
  | 0 => fun _ => none
  | n + 1 => b (iter b n)

section
variable {P : Program} {laid : List (Nat × Nat × Value)}
def FnsOk (P : Program) (laid : List (Nat × Nat × Value)) (l : List (Nat × Sum)) : Prop := ∀ f S, lookF l f = some S → SumOk P laid f S
theorem fnsOk_nil : FnsOk P laid [] := fun _ _ h => by cases h
theorem fnsOk_cons {g : Nat} {S : Sum} {l : List (Nat × Sum)} (h : SumOk P laid g S) (t : FnsOk P laid l) : FnsOk P laid ((g, S) :: l) := fun f S' e => by
  unfold lookF at e
  cases hb : Nat.beq f g with
  | true => rw [hb] at e; obtain rfl := Nat.eq_of_beq_eq_true hb; obtain rfl := Option.some.inj e; exact h
  | false => rw [hb] at e; exact t f S' e
theorem FnsOk.get {l : List (Nat × Sum)} (h : FnsOk P laid l) {f : Nat} {S : Sum} (e : lookF l f = some S) : SumOk P laid f S := h f S e
def LksOk (P : Program) (laid : List (Nat × Nat × Value)) (nOut N : Nat) (cur : Nat) (c : Code) (l : List (Nat × LSum)) : Prop := ∀ k L, lookL l k = some L → SegOk P laid nOut N (loopAt cur k c) L
theorem lookOk_nil {nOut N cur : Nat} {c : Code} : LksOk P laid nOut N cur c [] := fun _ _ h => by cases h
theorem lookOk_cons {nOut N cur : Nat} {c : Code} {k : Nat} {L : LSum} {l : List (Nat × LSum)} (h : SegOk P laid nOut N (loopAt cur k c) L) (t : LksOk P laid nOut N cur c l) : LksOk P laid nOut N cur c ((k, L) :: l) := fun j L' e => by
  unfold lookL at e
  cases hb : Nat.beq j k with
  | true => rw [hb] at e; obtain rfl := Nat.eq_of_beq_eq_true hb; obtain rfl := Option.some.inj e; exact h
  | false => rw [hb] at e; exact t j L' e
theorem findK_mem : ∀ {l : List (Nat × Code)} {p : Nat × Code}, nodupB (l.map (·.1)) = true → p ∈ l → findK p.1 l = p.2
  | [], _, _, h => by cases h
  | (j, c) :: r, p, hn, h => by
    simp only [List.map_cons, nodupB, Bool.and_eq_true, Bool.not_eq_true'] at hn
    unfold findK
    rcases List.mem_cons.1 h with rfl | h
    · simp
    · cases hb : Nat.beq p.1 j with
      | true =>
        have e := Nat.eq_of_beq_eq_true hb
        have : hasN j (r.map (·.1)) = true := hasN_iff.2 (e ▸ List.mem_map_of_mem h)
        rw [this] at hn; cases hn.1
      | false => exact findK_mem hn.2 h
theorem loopsAll {nOut N cur : Nat} {c : Code} {l : List (Nat × LSum)} (hn : nodupB ((loopsIn cur c).map (·.1)) = true) (h : LksOk P laid nOut N cur c l) :
    ∀ p ∈ loopsIn cur c, ∀ L, lookL l p.1 = some L → SegOk P laid nOut N p.2 L := fun p hp L e => by
  have := h p.1 L e
  unfold loopAt at this
  rwa [findK_mem hn hp] at this
/-- A type's row is the program's. -/
structure TyOk1 (P : Program) (t : TypeId) (i : TI) : Prop where
  und : P.underlying t = some i.desc
  fields : ∀ fs, i.desc = .struct fs → ∀ f ∈ fs.toList, (P.info? f.type).isSome = true
  inf : ∃ f z, P.info? t = some f ∧ f.size = i.size ∧ f.bytes = i.bytes ∧ f.zero = some z ∧ concL i.zero = some z.cells.toList
theorem fieldsNone {i : TI} (h : ∀ fs, i.desc = .struct fs → False) : ∀ fs, i.desc = .struct fs → ∀ f ∈ fs.toList, (P.info? f.type).isSome = true := fun fs e => (h fs e).elim
theorem fieldsSome {i : TI} {gs : Array Field} (h : i.desc = .struct gs) (hb : gs.toList.all (fun f => (P.info? f.type).isSome) = true) : ∀ fs, i.desc = .struct fs → ∀ f ∈ fs.toList, (P.info? f.type).isSome = true := fun fs e f hf => by
  rw [h] at e
  injection e with e
  subst e
  exact List.all_eq_true.1 hb f hf
def TysOk (P : Program) (l : List (Nat × TI)) : Prop := ∀ t i, lookT l t = some i → TyOk1 P t i
theorem tysOk_nil : TysOk P [] := fun _ _ h => by cases h
theorem tysOk_cons {t : Nat} {i : TI} {l : List (Nat × TI)} (h : TyOk1 P t i) (r : TysOk P l) : TysOk P ((t, i) :: l) := fun j L' e => by
  unfold lookT at e
  cases hb : Nat.beq j t with
  | true => rw [hb] at e; obtain rfl := Nat.eq_of_beq_eq_true hb; obtain rfl := Option.some.inj e; exact h
  | false => rw [hb] at e; exact r j L' e
theorem TysOk.ok {l : List (Nat × TI)} (h : TysOk P l) : TyOk P (lookT l) := ⟨fun t i e => (h t i e).und, fun t i fs e => (h t i e).fields fs, fun t i e => (h t i e).inf⟩
def EqsOk (P : Program) (l : List (Nat × (List C → List C → Option Bool))) : Prop := ∀ t q, lookE l t = some q → EqOk P t q
theorem eqsOk_nil : EqsOk P [] := fun _ _ h => by cases h
theorem eqsOk_cons {t : Nat} {i : List C → List C → Option Bool} {l : List (Nat × (List C → List C → Option Bool))} (h : EqOk P t i) (r : EqsOk P l) : EqsOk P ((t, i) :: l) := fun j L' e => by
  unfold lookE at e
  cases hb : Nat.beq j t with
  | true => rw [hb] at e; obtain rfl := Nat.eq_of_beq_eq_true hb; obtain rfl := Option.some.inj e; exact h
  | false => rw [hb] at e; exact r j L' e
end
end Go.Proofs.YtmdnnlfoljdfpaaDoor.Mir
