/- The mirror's operations: what each does to abstract values and memory. Nothing here names the program. -/
import Derived.Test.YtmdnnlfoljdfpaaDoorMirP
namespace Go.Proofs.YtmdnnlfoljdfpaaDoor.Mir
open Go

/-- What an operation turns: its result; the blocks that it writes (new contents); the blocks that it has looked at (those that it writes among them). -/
structure Delta where
  v : V
  wr : List (Nat × List C)
  rd : List Nat
inductive Pl : Type 1 where
  | no
  | val (d : Delta)
  | test (b : Bool) (p q : Pl)
  | call (ρ : Type) (x : Option ρ) (f : ρ → Pl)
def Pl.run {α : Type} (K : Delta → Option α) : Pl → Option α
  | .no => none
  | .val d => K d
  | .test b p q => bif b then p.run K else q.run K
  | .call _ x f => x.bind fun r => (f r).run K
theorem Pl.run_nat {α : Type} (K : Delta → Option α) : ∀ p : Pl, p.run K = (p.run some).bind K
  | .no => rfl
  | .val d => rfl
  | .test b p q => by cases b <;> simp only [Pl.run, cond_true, cond_false] <;> exact Pl.run_nat K _
  | .call _ x f => by
    cases x with
    | none => rfl
    | some r => simp only [Pl.run, Option.bind_some]; exact Pl.run_nat K (f r)
theorem Pl.run_some {α : Type} {K : Delta → Option α} {p : Pl} {r : α} (h : p.run K = some r) : ∃ d, p.run some = some d ∧ K d = some r := by
  rw [Pl.run_nat] at h
  cases hp : p.run some with
  | none => rw [hp] at h; cases h
  | some d => rw [hp] at h; exact ⟨d, rfl, h⟩

/-- A type's row. -/
structure TI where
  desc : TypeDesc
  size : Nat
  bytes : Nat
  zero : List C
  sh : List Sh
def aggD : TypeDesc → Bool
  | .struct _ | .array _ _ => true
  | _ => false
abbrev Tks := List (Option (Nat × Nat × List Sh))
/-- A function's summary: what it comes to on abstract arguments and on the blocks that they lead to; the blocks behind it (new ones at the end). -/
structure Sum where
  ρ : Type
  run : List A → List (List C) → Option ρ
  out : List A → List (List C) → ρ → V × List (List C)
  tin : List Tks
  tks : List (Nat × Nat)
structure Ctx where
  ty : TypeId → Option TI
  fn : FuncId → Option Sum
  eqs : TypeId → Option (List C → List C → Option Bool)

def ev (fr : Nat → V) : Operand → V
  | .tmp t => fr t
  | .const v => .a (.one (.lit v))
  | .global g => .a (.one (.lit (.pointer (some ⟨g, 0, none⟩))))
  | .func f => .a (.one (.lit (.func (.func f) #[] #[])))
def one (c : C) : V := .a (.one c)
def pval (v : V) : Pl := .val ⟨v, [], []⟩
def oint (k : IntKind) (n : Int) : Pl := pval (one (int k n))
def obool (b : Bool) : Pl := pval (one (boolC b))

/-! ### names -/
def own (d k : Nat) : Nat := 128 + 16 * d + 2 * k
def tkN (d i : Nat) : Nat := 129 + 16 * d + 2 * i
def nameC : C → List Nat
  | .ptr n _ => [n]
  | .pel n _ _ _ => [n]
  | .ifp _ n _ => [n]
  | _ => []
def nameL : List C → List Nat
  | [] => []
  | c :: cs => nameC c ++ nameL cs
def nameA : A → List Nat
  | .one c => nameC c
  | .agg cs => nameL cs
def nameAs : List A → List Nat
  | [] => []
  | a :: as => nameA a ++ nameAs as
def hasN (n : Nat) : List Nat → Bool
  | [] => false
  | m :: r => bif Nat.beq n m then true else hasN n r
def dedup : List Nat → List Nat → List Nat
  | [], acc => acc
  | n :: r, acc => bif hasN n acc then dedup r acc else dedup r (acc ++ [n])
def idxN (n : Nat) : List Nat → Nat
  | [] => 0
  | m :: r => bif Nat.beq n m then 0 else Nat.succ (idxN n r)
/-- Other names for blocks (f) and tickets (h). -/
def renC (f : Nat → Nat) (h : Nat → Option (Nat × Nat)) : C → C
  | .ptr n o => .ptr (f n) o
  | .pel n o l i => .pel (f n) o l i
  | .ifp t n o => .ifp t (f n) o
  | .sl tk l xs => .sl (match tk with | some (n, _) => h n | none => none) l xs
  | c => c
def renL (f : Nat → Nat) (h : Nat → Option (Nat × Nat)) : List C → List C
  | [] => []
  | c :: cs => renC f h c :: renL f h cs
def renA (f : Nat → Nat) (h : Nat → Option (Nat × Nat)) : A → A
  | .one c => .one (renC f h c)
  | .agg cs => .agg (renL f h cs)
def renAs (f : Nat → Nat) (h : Nat → Option (Nat × Nat)) : List A → List A
  | [] => []
  | a :: as => renA f h a :: renAs f h as
def renV (f : Nat → Nat) (h : Nat → Option (Nat × Nat)) : V → V
  | .a x => .a (renA f h x)
  | .tup l => .tup (renAs f h l)
def noTk (_ : Nat) : Option (Nat × Nat) := none

/-! ### memory -/
def cellsA : A → List C
  | .one c => [c]
  | .agg cs => cs
def newBlk (mem : Nat → Option (List C)) (dst : Option Nat) (cs : List C) : Pl :=
  match dst with
  | some d => match mem (own d 0) with
    | none => .val ⟨one (.ptr (own d 0) 0), [(own d 0, cs)], [own d 0]⟩
    | some _ => .no
  | none => .no
def ploadAt (i : TI) (mem : Nat → Option (List C)) (n off : Nat) : Pl :=
  match mem n with
  | none => .no
  | some cs => match subC cs off i.size with
    | none => .no
    | some es => bif aggD i.desc then .val ⟨.a (.agg es), [], [n]⟩ else match es with
      | [c] => bif isArr c then .no else .val ⟨one c, [], [n]⟩
      | _ => .no
def pload (i : TI) (mem : Nat → Option (List C)) : V → Pl
  | .a (.one (.ptr n off)) => ploadAt i mem n off
  | .a (.one (.pel n off len ix)) => bif aggD i.desc then .no else match mem n with
    | none => .no
    | some cs => match dropC cs off with
      | some (.arr k m xs :: _) => bif Nat.beq m len then .val ⟨one (int k (xs.getD ix.toNat 0)), [], [n]⟩ else .no
      | _ => .no
  | .a (.one (.kpd l x off)) => (match subC (encL l x) off i.size with
    | none => .no
    | some es => bif aggD i.desc then .val ⟨.a (.agg es), [], []⟩ else match es with
      | [c] => bif isArr c then .no else .val ⟨one c, [], []⟩
      | _ => .no)
  | _ => .no
def okCell : C → Bool
  | .junk => false
  | .tkt .. => false
  | .lit v => v.oneCell'
  | _ => true
def okCells : List C → Bool
  | [] => true
  | c :: cs => okCell c && okCells cs
def okA : A → Bool
  | .one c => okCell c
  | .agg _ => true
def pstore (i : TI) (mem : Nat → Option (List C)) (p : V) (x : V) : Pl :=
  match x with
  | .tup _ => .no
  | .a y =>
    let cs' := cellsA y
    bif Nat.beq (widL cs') i.size && okCells cs' then
      match p with
      | .a (.one (.ptr n off)) => match mem n with
        | none => .no
        | some cs => match putC cs off cs' with
          | none => .no
          | some es => .val ⟨undefV, [(n, es)], [n]⟩
      | .a (.one (.pel n off len ix)) => match mem n with
        | none => .no
        | some cs => match dropC cs off, cs' with
          | some (.arr k m xs :: _), [.lit (.int k' v)] =>
            bif (decide (k = k')) && Nat.beq m len then (match putC cs off [.arr k m (xs.set ix.toNat v)] with
              | none => .no
              | some es => .val ⟨undefV, [(n, es)], [n]⟩) else .no
          | _, _ => .no
      | _ => .no
    else .no
/-! ### numbers -/
def ibits (op : BinOp) (k : IntKind) (x y : Int) : Int :=
  let a := BitVec.ofInt k.bits x
  let b := BitVec.ofInt k.bits y
  match op with
  | .and => k.wrap (a &&& b).toNat
  | .or => k.wrap (a ||| b).toNat
  | .xor => k.wrap (a ^^^ b).toNat
  | _ => k.wrap (a &&& ~~~b).toNat
def pintBin (op : BinOp) (k : IntKind) (a b : Int) : Pl :=
  match op with
  | .add => oint k (k.wrap (a + b))
  | .sub => oint k (k.wrap (a - b))
  | .mul => oint k (k.wrap (a * b))
  | .quo => .test (decide (b = 0)) .no (oint k (k.wrap (a.tdiv b)))
  | .rem => .test (decide (b = 0)) .no (oint k (a.tmod b))
  | .and => oint k (ibits .and k a b)
  | .or => oint k (ibits .or k a b)
  | .xor => oint k (ibits .xor k a b)
  | .andNot => oint k (ibits .andNot k a b)
  | .eql => obool (a == b)
  | .neq => obool (a != b)
  | .lss => obool (decide (a < b))
  | .leq => obool (decide (a ≤ b))
  | .gtr => obool (decide (a > b))
  | .geq => obool (decide (a ≥ b))
  | _ => .no
def pshift (op : BinOp) (k : IntKind) (a b : Int) : Pl :=
  match op with
  | .shl => .test (decide (b < 0)) .no (oint k (k.wrap (a * 2 ^ (min b.toNat k.bits))))
  | .shr => .test (decide (b < 0)) .no (oint k (a / 2 ^ (min b.toNat k.bits)))
  | _ => .no
def pstrBin (op : BinOp) (x y : ByteArray) : Pl :=
  match op with
  | .add => .test (decide (((x.size + y.size : Nat) : Int) > 9223372036854775807)) .no (pval (one (.lit (.string (x ++ y)))))
  | .eql => obool (x.toList == y.toList)
  | .neq => obool (!(x.toList == y.toList))
  | .lss => obool (Op.bytesLess x.toList y.toList)
  | .leq => obool (Op.bytesLess x.toList y.toList || x.toList == y.toList)
  | .gtr => obool (!(Op.bytesLess x.toList y.toList || x.toList == y.toList))
  | .geq => obool (!(Op.bytesLess x.toList y.toList))
  | _ => .no
def isNilC : Operand → Bool
  | .const .nilIface => true
  | _ => false
def pbin (X : Ctx) (op : BinOp) (t : TypeId) (_ox oy : Operand) (x y : V) : Pl :=
  match x, y with
  | .a (.one (.lit (.int k a))), .a (.one (.lit (.int k' b))) =>
    (match op with
    | .shl | .shr => pshift op k a b
    | _ => bif decide (k = k') then pintBin op k a b else .no)
  | .a (.one (.lit (.string a))), .a (.one (.lit (.string b))) => pstrBin op a b
  | .a (.one (.lit (.bool a))), .a (.one (.lit (.bool b))) =>
    (match X.ty t, op with
    | some ⟨.bool, _, _, _, _⟩, .eql => obool (a == b)
    | some ⟨.bool, _, _, _, _⟩, .neq => obool (!(a == b))
    | _, _ => .no)
  | .a (.one (.err _ e)), .a (.one (.lit .nilIface)) =>
    (bif isNilC oy then (match X.ty t, op with
    | some ⟨.interface _, _, _, _, _⟩, .eql => obool e.isNone
    | some ⟨.interface _, _, _, _, _⟩, .neq => obool (!e.isNone)
    | _, _ => .no) else .no)
  | .a (.one (.lit .nilIface)), .a (.one (.lit .nilIface)) =>
    (bif isNilC oy then (match X.ty t, op with
    | some ⟨.interface _, _, _, _, _⟩, .eql => obool true
    | some ⟨.interface _, _, _, _, _⟩, .neq => obool false
    | _, _ => .no) else .no)
  | .a (.one (.ptr _ _)), .a (.one (.lit (.pointer none))) =>
    (match X.ty t, op with
    | some ⟨.pointer _, _, _, _, _⟩, .eql => obool false
    | some ⟨.pointer _, _, _, _, _⟩, .neq => obool true
    | _, _ => .no)
  | .a (.agg xs), .a (.agg ys) =>
    (match X.eqs t, op with
    | some q, .eql => (match q xs ys with | some b => obool b | none => .no)
    | some q, .neq => (match q xs ys with | some b => obool (!b) | none => .no)
    | _, _ => .no)
  | _, _ => .no
def punary (op : UnOp) : V → Pl
  | .a (.one (.lit (.int k n))) => (match op with
    | .neg => oint k (k.wrap (0 - n))
    | .xor => oint k (ibits .xor k (if k.signed then -1 else k.max) n)
    | _ => .no)
  | .a (.one (.lit (.bool b))) => (match op with
    | .not => obool (!b)
    | _ => .no)
  | _ => .no
def bytesS (xs : List Int) : ByteArray := ⟨(xs.map fun n => UInt8.ofNat n.toNat).toArray⟩
def bytesL (s : ByteArray) : List Int := s.data.toList.map fun b => (b.toNat : Int)
def byteAt (s : ByteArray) (i : Nat) : Int := ((s.data.toList.getD i 0).toNat : Int)
def pconvert (X : Ctx) (src dst : TypeId) (x : V) : Pl :=
  match X.ty src, X.ty dst, x with
  | some _, some ⟨.int k, _, _, _, _⟩, .a (.one (.lit (.int _ n))) => oint k (k.wrap n)
  | some _, some ⟨.string, _, _, _, _⟩, .a (.one (.lit (.string s))) => pval (one (.lit (.string s)))
  | some ⟨.slice e, _, _, _, _⟩, some ⟨.string, _, _, _, _⟩, .a (.one (.sl _ l xs)) => (match X.ty e with
    | some ⟨.int .u8, _, _, _, _⟩ => (if h : shEqL l [.int .u8] = true then pval (one (.lit (.string (bytesS (castL h xs))))) else .no)
    | _ => .no)
  | some ⟨.slice e, _, _, _, _⟩, some ⟨.string, _, _, _, _⟩, .a (.one (.lit (.slice none 0 0))) => (match X.ty e with
    | some ⟨.int .u8, _, _, _, _⟩ => pval (one (.lit (.string ByteArray.empty)))
    | _ => .no)
  | _, _, _ => .no
def piface (X : Ctx) (t : TypeId) (x : V) : Pl :=
  match X.ty t, x with
  | some ⟨.int _, _, _, _, _⟩, .a (.one (.lit (.int .i64 n))) => pval (one (.err t (some n)))
  | some ⟨.pointer _, _, _, _, _⟩, .a (.one (.ptr n off)) => pval (one (.ifp t n off))
  | _, _ => .no
def pextract (x : V) (i : Nat) : Pl :=
  match x with
  | .tup l => (match l[i]? with | some a => pval (.a a) | none => .no)
  | _ => .no
def pfield (X : Ctx) (t : TypeId) (x : V) (f : Nat) : Pl :=
  match X.ty t, x with
  | some ⟨.struct fs, _, _, _, _⟩, .a (.agg cs) => (match fs[f]? with
    | none => .no
    | some fd => match X.ty fd.type with
      | none => .no
      | some i => match subC cs fd.offset i.size with
        | none => .no
        | some es => bif aggD i.desc then pval (.a (.agg es)) else match es with
          | [c] => bif isArr c then .no else pval (one c)
          | _ => .no)
  | _, _ => .no
def pfieldAddr (X : Ctx) (t : TypeId) (x : V) (f : Nat) : Pl :=
  match X.ty t, x with
  | some ⟨.struct fs, _, _, _, _⟩, .a (.one (.ptr n off)) => (match fs[f]? with
    | none => .no
    | some fd => match X.ty fd.type with
      | none => .no
      | some i => bif Nat.beq i.size 0 then .no else pval (one (.ptr n (off + fd.offset))))
  | some ⟨.struct fs, _, _, _, _⟩, .a (.one (.kpd l y off)) => (match fs[f]? with
    | none => .no
    | some fd => match X.ty fd.type with
      | none => .no
      | some i => bif Nat.beq i.size 0 then .no else pval (one (.kpd l y (off + fd.offset))))
  | _, _ => .no
/-- One of several, by a number. -/
def pick (p : Nat → Pl) (i : Int) : Nat → Nat → Pl
  | _, 0 => .no
  | j, m + 1 => .test (decide (i = (j : Int))) (p j) (pick p i (j + 1) m)
def partA (i : TI) (cs : List C) (off : Nat) : Pl :=
  match subC cs off i.size with
  | none => .no
  | some es => bif aggD i.desc then pval (.a (.agg es)) else match es with
    | [c] => bif isArr c then .no else pval (one c)
    | _ => .no
def pindexAddr (X : Ctx) (t : TypeId) (x ix : V) : Pl :=
  match X.ty t, x, ix with
  | some ⟨.array len e, _, _, _, _⟩, .a (.one (.ptr n off)), .a (.one (.lit (.int _ i))) =>
    (match X.ty e with
    | some ⟨.int _, 1, _, _, _⟩ => .test (decide (0 ≤ i ∧ i < len)) (pval (one (.pel n off len i))) .no
    | some ie => pick (fun j => pval (one (.ptr n (off + j * ie.size)))) i 0 len
    | _ => .no)
  | some ⟨.slice e, _, _, _, _⟩, .a (.one (.sl _ l xs)), .a (.one (.lit (.int _ i))) =>
    (match X.ty e with
    | some ie => bif Nat.beq (widSL l) ie.size then .test (decide (0 ≤ i ∧ i < xs.length)) (pval (one (.kpd l (xs.getD i.toNat (dfltL l)) 0))) .no else .no
    | none => .no)
  | _, _, _ => .no
def pindex (X : Ctx) (t : TypeId) (x ix : V) : Pl :=
  match X.ty t, x, ix with
  | some ⟨.string, _, _, _, _⟩, .a (.one (.lit (.string s))), .a (.one (.lit (.int _ i))) =>
    .test (decide (0 ≤ i ∧ i < (s.size : Int))) (oint .u8 (byteAt s i.toNat)) .no
  | some ⟨.array len e, _, _, _, _⟩, .a (.agg cs), .a (.one (.lit (.int _ i))) =>
    (match X.ty e, cs with
    | some ⟨.int _, 1, _, _, _⟩, [.arr k n xs] => .test (decide (0 ≤ i ∧ i < len ∧ n = len)) (oint k (xs.getD i.toNat 0)) .no
    | some ie, cs => pick (fun j => partA ie cs (j * ie.size)) i 0 len
    | _, _ => .no)
  | _, _, _ => .no
def pbuildArr (k : IntKind) (n : Nat) (xs : List Int) : List (Nat × V) → Pl
  | [] => pval (.a (.agg [.arr k n xs]))
  | (i, .a (.one (.lit (.int k' v)))) :: r => bif decide (k = k') && Nat.blt i n then pbuildArr k n (xs.set i v) r else .no
  | _ => .no
def pbuild (X : Ctx) (t : TypeId) (parts : List (Nat × V)) : Pl :=
  match X.ty t with
  | some ⟨.struct fs, _, _, z, _⟩ => go fs z parts
  | some ⟨.array n e, _, _, z, _⟩ => (match X.ty e, z with
    | some ⟨.int k, 1, _, _, _⟩, [.arr k' m xs] => bif decide (k = k') && Nat.beq n m then pbuildArr k n xs parts else .no
    | _, _ => .no)
  | _ => .no
where
  go (fs : Array Field) (cs : List C) : List (Nat × V) → Pl
    | [] => pval (.a (.agg cs))
    | (i, .a y) :: r => (match fs[i]? with
      | none => .no
      | some fd => match X.ty fd.type with
        | none => .no
        | some ti => bif okA y && Nat.beq (widL (cellsA y)) ti.size then (match putC cs fd.offset (cellsA y) with
          | none => .no
          | some es => go fs es r) else .no)
    | _ => .no
def plen (X : Ctx) (t : TypeId) (x : V) : Pl :=
  match X.ty t, x with
  | some ⟨.string, _, _, _, _⟩, .a (.one (.lit (.string s))) => oint .i64 s.size
  | some ⟨.array n _, _, _, _, _⟩, .a _ => oint .i64 n
  | some ⟨.slice _, _, _, _, _⟩, .a (.one (.sl _ _ xs)) => oint .i64 xs.length
  | some ⟨.slice _, _, _, _, _⟩, .a (.one (.lit (.slice none 0 0))) => oint .i64 0
  | _, _ => .no
/-! ### slices -/
/-- The version that a new ticket of this name takes. -/
def nextV (mem : Nat → Option (List C)) (n : Nat) : Option Nat :=
  match mem n with
  | none => some 0
  | some [.tkt _ v _ _] => some (v + 2 - v % 2)
  | _ => none
/-- .. where its row surely is a block of one's own. -/
def nextO (mem : Nat → Option (List C)) (n : Nat) : Option Nat :=
  match mem n with
  | none => some 1
  | some [.tkt _ v _ _] => some (v + 1 + v % 2)
  | _ => none
def alive (mem : Nat → Option (List C)) (n ver E sz : Nat) : Bool :=
  match mem n with
  | some [.tkt a v E' sz'] => a && Nat.beq v ver && Nat.beq E' E && Nat.beq sz' sz
  | _ => false
/-- A slice's elements, as data of a shape. -/
def asSl (l : List Sh) : V → Option (Option (Nat × Nat) × List (TL l))
  | .a (.one (.lit (.slice none 0 0))) => some (none, [])
  | .a (.one (.sl tk l' xs)) => if h : shEqL l' l = true then some (tk, castL h xs) else none
  | _ => none
/-- What is appended: a slice's elements, or a string's bytes. -/
def asSrc (X : Ctx) (l : List Sh) (t' : TypeId) (x : V) : Option (List (TL l)) :=
  match X.ty t', x with
  | some ⟨.slice _, _, _, _, _⟩, x => (match asSl l x with | some (_, ys) => some ys | none => none)
  | some ⟨.string, _, _, _, _⟩, .a (.one (.lit (.string s))) => if h : shEqL [.int .u8] l = true then some (castL (l := [.int .u8]) h (bytesL s)) else none
  | _, _ => none
def isNilS : V → Bool
  | .a (.one (.lit (.slice none 0 0))) => true
  | _ => false
def newSl (mem : Nat → Option (List C)) (dst : Option Nat) (E sz : Nat) (l : List Sh) (xs : List (TL l)) (wr : List (Nat × List C)) (rd : List Nat) : Pl :=
  match dst with
  | some d => (match nextV mem (tkN d 0) with
    | some v => .val ⟨one (.sl (some (tkN d 0, v)) l xs), wr ++ [(tkN d 0, [.tkt true v E sz])], rd ++ [tkN d 0]⟩
    | none => .no)
  | none => .no
def newSlO (mem : Nat → Option (List C)) (dst : Option Nat) (E sz : Nat) (l : List Sh) (xs : List (TL l)) (wr : List (Nat × List C)) (rd : List Nat) : Pl :=
  match dst with
  | some d => (match nextO mem (tkN d 0) with
    | some v => .val ⟨one (.sl (some (tkN d 0, v)) l xs), wr ++ [(tkN d 0, [.tkt true v E sz])], rd ++ [tkN d 0]⟩
    | none => .no)
  | none => .no
def dstTk : Option Nat → List Nat
  | some d => [tkN d 0]
  | none => []
def pappend (X : Ctx) (mem : Nat → Option (List C)) (dst : Option Nat) (t t' : TypeId) (s x : V) : Pl :=
  match X.ty t with
  | some ⟨.slice e, _, _, _, _⟩ => (match X.ty e with
    | some ie =>
      bif Nat.beq (widSL ie.sh) ie.size && Nat.beq (widL ie.zero) ie.size && Nat.ble 1 ie.bytes then
        (match asSl ie.sh s, asSrc X ie.sh t' x with
        | some (tk, xs), some ys =>
          .test (decide ((xs.length + ys.length) * ie.bytes ≤ 140737488355328)) (bif isNilS s then newSl mem dst e ie.size ie.sh (xs ++ ys) [] [] else (match tk with
            | some (n, ver) => bif alive mem n ver e ie.size && !hasN n (dstTk dst) then newSl mem dst e ie.size ie.sh (xs ++ ys) [(n, [.tkt false ver e ie.size])] [n] else .no
            | none => .no)) .no
        | _, _ => .no) else .no
    | none => .no)
  | _ => .no
def pbuildSl (ie : TI) : List (TL ie.sh) → List (Nat × V) → Option (List (TL ie.sh))
  | xs, [] => some xs
  | xs, (i, .a y) :: r => bif okA y && Nat.blt i xs.length then (match decL ie.sh (cellsA y) with
    | some x => pbuildSl ie (xs.set i x) r
    | none => none) else none
  | _, _ => none
def pbuildSlice (X : Ctx) (mem : Nat → Option (List C)) (dst : Option Nat) (t : TypeId) (len : Nat) (parts : List (Nat × V)) : Pl :=
  match X.ty t with
  | some ⟨.slice e, _, _, _, _⟩ => (match X.ty e with
    | some ie =>
      bif Nat.beq (widSL ie.sh) ie.size && Nat.ble 1 ie.size && Nat.ble (len * ie.size) 16777216 then
        (match decL ie.sh ie.zero with
        | some z => (match pbuildSl ie (List.replicate len z) parts with
          | some xs => newSlO mem dst e ie.size ie.sh xs [] []
          | none => .no)
        | none => .no) else .no
    | none => .no)
  | _ => .no
/-- Bytes of a string. -/
def pbytes (X : Ctx) (mem : Nat → Option (List C)) (dst : Option Nat) (src dt : TypeId) (x : V) : Pl :=
  match X.ty src, X.ty dt, x with
  | some _, some ⟨.slice e, _, _, _, _⟩, .a (.one (.lit (.string s))) => (match X.ty e with
    | some ⟨.int .u8, _, _, _, _⟩ => .test (decide (s.size ≤ 140737488355328)) (newSl mem dst e 1 [.int .u8] (bytesL s) [] []) .no
    | _ => .no)
  | _, _, _ => .no
/-- '[]byte("..")' of a constant: the row is marked. -/
def pmark (X : Ctx) (mem : Nat → Option (List C)) (dst : Option Nat) (src dt : TypeId) (x : V) : Pl :=
  match X.ty dt, x with
  | some ⟨.slice e, _, _, _, _⟩, .a (.one (.sl (some (n, v)) l xs)) => (match X.ty e with
    | some ⟨.int .u8, _, _, _, _⟩ => bif Nat.beq src dt && (Nat.beq (v % 2) 1 && (Nat.beq (widSL l) 1 && (alive mem n v e 1 && !hasN n (dstTk dst)))) then newSlO mem dst e 1 l xs [(n, [.tkt false v e 1])] [n] else .no
    | _ => .no)
  | _, _ => .no
def pconv (X : Ctx) (mem : Nat → Option (List C)) (dst : Option Nat) (src dt : TypeId) (x : V) : Pl :=
  match X.ty dt with
  | some ⟨.slice _, _, _, _, _⟩ => (match x with
    | .a (.one (.sl _ _ _)) => pmark X mem dst src dt x
    | _ => pbytes X mem dst src dt x)
  | _ => pconvert X src dt x
def optI : Option V → Option (Option Int)
  | none => some none
  | some (.a (.one (.lit (.int _ n)))) => some (some n)
  | _ => none
def pslice (X : Ctx) (mem : Nat → Option (List C)) (dst : Option Nat) (t : TypeId) (x : V) (lo hi mx : Option V) : Pl :=
  match X.ty t, x, optI lo, optI hi, optI mx with
  | some ⟨.string, _, _, _, _⟩, .a (.one (.lit (.string s))), some lo, some hi, some none =>
    let h := hi.getD (s.size : Int)
    let l := lo.getD 0
    .test (decide (0 ≤ h ∧ h ≤ (s.size : Int))) (.test (decide (0 ≤ l ∧ l ≤ h)) (pval (one (.lit (.string (s.extract l.toNat h.toNat))))) .no) .no
  | some ⟨.slice e, _, _, _, _⟩, .a (.one (.sl _ sh xs)), some lo, some hi, some mx => (match X.ty e with
    | some ie => bif Nat.beq (widSL sh) ie.size then
      let h := hi.getD (xs.length : Int)
      let l := lo.getD 0
      .test (decide (0 ≤ h ∧ h ≤ (xs.length : Int))) (.test (decide (0 ≤ l ∧ l ≤ h)) (match mx, hi with
        | none, _ => pval (one (.sl none sh ((xs.take h.toNat).drop l.toNat)))
        | some m, some _ => .test (decide (m = h)) (newSl mem dst e ie.size sh ((xs.take h.toNat).drop l.toNat) [] []) .no
        | some _, none => .no) .no) .no else .no
    | none => .no)
  | _, _, _, _, _ => .no
def pminmax (b : Builtin) : List V → Pl
  | [.a (.one (.lit (.int k x))), .a (.one (.lit (.int k' y)))] => bif decide (k = k') then (match b with
    | .min => oint k (if y < x then y else x)
    | .max => oint k (if y > x then y else x)
    | _ => .no) else .no
  | _ => .no
/-! ### calls -/
def asAs : List V → Option (List A)
  | [] => some []
  | .a x :: r => (match asAs r with | some l => some (x :: l) | none => none)
  | .tup _ :: _ => none
def blksOf (mem : Nat → Option (List C)) : List Nat → Option (List A)
  | [] => some []
  | n :: r => match mem n, blksOf mem r with
    | some cs, some l => (match nameL cs with | [] => some (.agg cs :: l) | _ => none)
    | _, _ => none
def noneAt (mem : Nat → Option (List C)) : List Nat → Bool
  | [] => true
  | n :: r => match mem n with | none => noneAt mem r | some _ => false
def newNames (d : Nat) : Nat → Nat → List Nat
  | _, 0 => []
  | k, m + 1 => own d k :: newNames d (k + 1) m
def zipN (f : Nat → Nat) (h : Nat → Option (Nat × Nat)) : List Nat → List (List C) → List (Nat × List C)
  | n :: ns, b :: bs => (n, renL f h b) :: zipN f h ns bs
  | _, _ => []
def nthN (ns : List Nat) (i : Nat) : Nat := ns.getD (i / 2) 1
/-- New tickets of a call: their names, with their versions. -/
def callTks (mem : Nat → Option (List C)) (d : Nat) : Nat → List (Nat × Nat) → Option (List (Nat × Nat))
  | _, [] => some []
  | i, _ :: r => match nextV mem (tkN d i), callTks mem d (i + 1) r with
    | some v, some l => some ((tkN d i, v) :: l)
    | _, _ => none
def tkMap (l : List (Nat × Nat)) (n : Nat) : Option (Nat × Nat) := bif Nat.beq (n % 2) 1 then l[n / 2]? else none
def tkWr : List (Nat × Nat) → List (Nat × Nat) → List (Nat × List C)
  | (n, v) :: r, (E, sz) :: q => (n, [.tkt true v E sz]) :: tkWr r q
  | _, _ => []
/-- A slice that is handed over with its ticket: its new name 2p+1; the tickets that are used up. -/
def tkOne (mem : Nat → Option (List C)) (p : Nat) (t : Nat × Nat × List Sh) (us : List (Nat × Nat × Nat × Nat)) : C → Option (C × List (Nat × Nat × Nat × Nat))
  | .lit (.slice none 0 0) => some (.sl (some (2 * p + 1, 0)) t.2.2 [], us)
  | .sl (some (n, v)) l' xs => bif alive mem n v t.1 t.2.1 && !hasN n (us.map (·.1)) then some (.sl (some (2 * p + 1, 0)) l' xs, (n, v, t.1, t.2.1) :: us) else none
  | _ => none
def cntT : Tks → Nat
  | [] => 0
  | none :: r => cntT r
  | some _ :: r => cntT r + 1
def specs : Tks → List (Nat × Nat × List Sh)
  | [] => []
  | none :: r => specs r
  | some t :: r => t :: specs r
/-- Cells, in other names: p tickets ahead, 'us' used up behind. -/
def tkC (mem : Nat → Option (List C)) (f : Nat → Nat) : Nat → Tks → List C → List (Nat × Nat × Nat × Nat) → Option (List C × List (Nat × Nat × Nat × Nat))
  | _, [], [], us => some ([], us)
  | _, _ :: _, [], _ => none
  | p, [], c :: cs, us => (match tkC mem f p [] cs us with
    | some (r, us') => some (renC f noTk c :: r, us')
    | none => none)
  | p, none :: ts, c :: cs, us => (match tkC mem f p ts cs us with
    | some (r, us') => some (renC f noTk c :: r, us')
    | none => none)
  | p, some t :: ts, c :: cs, us => (match tkC mem f (p + 1) ts cs us with
    | some (r, us') => (match tkOne mem p t us' c with
      | some (c', us'') => some (c' :: r, us'')
      | none => none)
    | none => none)
def reA : A → List C → Option A
  | .one _, [c] => bif isArr c then none else some (.one c)
  | .one _, _ => none
  | .agg _, cs => some (.agg cs)
def tkAs (mem : Nat → Option (List C)) (f : Nat → Nat) : Nat → List Tks → List A → Option (List A × List (Nat × Nat × Nat × Nat))
  | _, [], [] => some ([], [])
  | _, _ :: _, [] => none
  | p, [], a :: as => (match tkAs mem f p [] as with
    | some (r, us) => some (renA f noTk a :: r, us)
    | none => none)
  | p, ts :: tss, a :: as => (match tkAs mem f (p + cntT ts) tss as with
    | some (r, us) => (match tkC mem f p ts (cellsA a) us with
      | some (cs, us') => (match reA a cs with
        | some a' => some (a' :: r, us')
        | none => none)
      | none => none)
    | none => none)
def specsL : List Tks → List (Nat × Nat × List Sh)
  | [] => []
  | ts :: r => specs ts ++ specsL r
def disjN : List Nat → List Nat → Bool
  | [], _ => true
  | n :: r, l => !hasN n l && disjN r l
def pcall (S : Sum) (mem : Nat → Option (List C)) (dst : Option Nat) (vs : List V) : Pl :=
  match asAs vs, dst with
  | some as, some d =>
    let ns := dedup (nameAs as) []
    (match blksOf mem ns, callTks mem d 0 S.tks with
    | some bs, some tl => (match tkAs mem (fun n => 2 * idxN n ns) 0 S.tin (as ++ bs) with
      | some (al, us) =>
        let as' := al.take as.length
        let bs' := (al.drop as.length).map cellsA
        bif disjN (us.map (·.1)) (tl.map (·.1)) then .call S.ρ (S.run as' bs') fun r =>
          let o := S.out as' bs' r
          let more := newNames d 0 (o.2.length - bs'.length)
          let all := ns ++ more
          bif Nat.beq o.2.length all.length && noneAt mem more then
            .val ⟨renV (nthN all) (tkMap tl) o.1, tkWr tl S.tks ++ (zipN (nthN all) (tkMap tl) all o.2 ++ us.map (fun u => (u.1, [C.tkt false u.2.1 u.2.2.1 u.2.2.2]))), tl.map (·.1) ++ (all ++ us.map (·.1))⟩
          else .no
        else .no
      | none => .no)
    | _, _ => .no)
  | _, _ => .no
def evs (fr : Nat → V) : List Operand → List V
  | [] => []
  | x :: r => ev fr x :: evs fr r
def evps (fr : Nat → V) : List (Nat × Operand) → List (Nat × V)
  | [] => []
  | (i, x) :: r => (i, ev fr x) :: evps fr r
/-- The function that a value is, if it holds nothing. -/
def fnOf : V → Option FuncId
  | .a (.one (.lit (.func (.func f) a b))) => bif Nat.beq a.size 0 && Nat.beq b.size 0 then some f else none
  | _ => none
/-- One operation. -/
def plan (X : Ctx) (o : Oper) (fr : Nat → V) (mem : Nat → Option (List C)) : Pl :=
  match o.op with
  | .move x => pval (ev fr x)
  | .assign x => pval (ev fr x)
  | .pick c a b => (match ev fr c with
    | .a (.one (.lit (.bool t))) => .test t (pval (ev fr a)) (pval (ev fr b))
    | _ => .no)
  | .alloc t => (match X.ty t with | some i => newBlk mem o.dst i.zero | none => .no)
  | .box _ x => (match ev fr x with | .a y => bif okA y then newBlk mem o.dst (cellsA y) else .no | _ => .no)
  | .build t parts => pbuild X t (evps fr parts.toList)
  | .load t x => (match X.ty t with | some i => pload i mem (ev fr x) | none => .no)
  | .store t p x => (match X.ty t with | some i => pstore i mem (ev fr p) (ev fr x) | none => .no)
  | .nilCheck x => (match ev fr x with
    | .a (.one (.ptr n off)) => pval (one (.ptr n off))
    | .a (.one (.kpd l y off)) => pval (one (.kpd l y off))
    | _ => .no)
  | .binOp op t x y _ => pbin X op t x y (ev fr x) (ev fr y)
  | .unOp op _ x => punary op (ev fr x)
  | .convert s d x => pconv X mem o.dst s d (ev fr x)
  | .makeInterface t x => piface X t (ev fr x)
  | .fieldAddr t x f => pfieldAddr X t (ev fr x) f
  | .field t x f => pfield X t (ev fr x) f
  | .indexAddr t x i => pindexAddr X t (ev fr x) (ev fr i)
  | .index t x i => pindex X t (ev fr x) (ev fr i)
  | .slice t x lo hi mx => pslice X mem o.dst t (ev fr x) (lo.map (ev fr)) (hi.map (ev fr)) (mx.map (ev fr))
  | .buildSlice t len parts => pbuildSlice X mem o.dst t len (evps fr parts.toList)
  | .extract t i => pextract (ev fr t) i
  | .call ⟨.value (.func f), args, _⟩ => (match X.fn f with
    | some S => pcall S mem o.dst (evs fr args.toList)
    | none => .no)
  | .call ⟨.value (.tmp t), args, _⟩ => (match fnOf (fr t) with
    | some f => (match X.fn f with
      | some S => pcall S mem o.dst (evs fr args.toList)
      | none => .no)
    | none => .no)
  | .call ⟨.builtin .len, args, ts⟩ => (match args.toList, ts.toList with
    | [x], [t] => plen X t (ev fr x)
    | _, _ => .no)
  | .call ⟨.builtin .append, args, ts⟩ => (match args.toList, ts.toList with
    | [s, x], [t, t'] => pappend X mem o.dst t t' (ev fr s) (ev fr x)
    | _, _ => .no)
  | .call ⟨.builtin .min, args, _⟩ => pminmax .min (evs fr args.toList)
  | .call ⟨.builtin .max, args, _⟩ => pminmax .max (evs fr args.toList)
  | _ => .no
end Go.Proofs.YtmdnnlfoljdfpaaDoor.Mir
