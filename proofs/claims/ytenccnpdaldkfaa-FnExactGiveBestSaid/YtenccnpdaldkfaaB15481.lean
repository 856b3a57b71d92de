/-
  The head of the program's dump: its words, read once (a row's closed facts lean on them).
-/
import Derived.Test.YtenccnpdaldkfaaRows
import Derived.WalkKit
import Derived.ProofKit
import Derived.Calls
import Derived.Orders
import Derived.Below
import Derived.Laws.Cover1
import Derived.Laws.Concat
import Derived.Laws.StructEq
import Derived.Laws.BytesString
import Derived.Laws.Tables
import Derived.Laws.MakeOwn
set_option linter.unusedSimpArgs false
set_option linter.unusedVariables false
namespace Go.Proofs.Ytenccnpdaldkfaa.Head
set_option maxRecDepth 100000
def signs : List Char := List.map Char.ofNat [104, 97, 114, 110, 101, 115, 115, 32, 48, 99, 100, 56, 100, 55, 102, 52, 98, 100, 99, 51, 48, 57, 56, 99, 49, 97, 55, 57, 53, 101, 53, 49, 53, 54, 50, 53, 52, 97, 56, 55, 57, 98, 99, 55, 100, 53, 102, 53, 53, 101, 56, 102, 51, 52, 102, 56, 49, 56, 52, 49, 56, 99, 49, 55, 98, 102, 54, 97, 54, 54, 52, 102, 32, 99, 117, 116, 32, 97, 116, 32, 108, 111, 111, 112, 46, 101, 120, 97, 109, 112, 108, 101, 47, 108, 97, 112, 103, 105, 118, 101, 47, 108, 97, 119, 115, 46, 70, 110, 69, 120, 97, 99, 116, 67, 111, 110, 115, 116, 97, 110, 116, 115, 32, 108, 111, 111, 112, 46, 101, 120, 97, 109, 112, 108, 101, 47, 108, 97, 112, 103, 105, 118, 101, 47, 108, 97, 119, 115, 46, 70, 110, 69, 120, 97, 99, 116, 71, 105, 118, 101, 78, 101, 97, 114, 32, 108, 111, 111, 112, 46, 101, 120, 97, 109, 112, 108, 101, 47, 108, 97, 112, 103, 105, 118, 101, 47, 108, 97, 119, 115, 46, 70, 110, 69, 120, 97, 99, 116, 71, 105, 118, 101, 67, 117, 116, 32, 108, 111, 111, 112, 46, 101, 120, 97, 109, 112, 108, 101, 47, 108, 97, 112, 103, 105, 118, 101, 47, 108, 97, 119, 115, 46, 70, 110, 69, 120, 97, 99, 116, 71, 105, 118, 101, 84, 117, 98, 101, 79, 107, 32, 108, 111, 111, 112, 46, 101, 120, 97, 109, 112, 108, 101, 47, 108, 97, 112, 103, 105, 118, 101, 47, 108, 97, 119, 115, 46, 70, 110, 67, 117, 116, 32, 108, 111, 111, 112, 46, 101, 120, 97, 109, 112, 108, 101, 47, 108, 97, 112, 103, 105, 118, 101, 47, 108, 97, 119, 115, 46, 70, 110, 69, 120, 97, 99, 116, 71, 105, 118, 101, 84, 117, 98, 101, 79, 102, 32, 108, 111, 111, 112, 46, 101, 120, 97, 109, 112, 108, 101, 47, 108, 97, 112, 103, 105, 118, 101, 47, 108, 97, 119, 115, 46, 70, 110, 69, 120, 97, 99, 116, 71, 105, 118, 101, 87, 105, 115, 104, 79, 107, 32, 108, 111, 111, 112, 46, 101, 120, 97, 109, 112, 108, 101, 47, 108, 97, 112, 103, 105, 118, 101, 47, 108, 97, 119, 115, 46, 70, 110, 69, 120, 97, 99, 116, 71, 105, 118, 101, 66, 111, 111, 107, 79, 107, 32, 108, 111, 111, 112, 46, 101, 120, 97, 109, 112, 108, 101, 47, 108, 97, 112, 103, 105, 118, 101, 47, 108, 97, 119, 115, 46, 70, 110, 69, 120, 97, 99, 116, 71, 105, 118, 101, 70, 114, 101, 101, 32, 108, 111, 111, 112, 46, 101, 120, 97, 109, 112, 108, 101, 47, 108, 97, 112, 103, 105, 118, 101, 47, 108, 97, 119, 115, 46, 70, 110, 69, 120, 97, 99, 116, 71, 105, 118, 101, 69, 97, 114, 108, 105, 101, 115, 116, 32, 108, 111, 111, 112, 46, 101, 120, 97, 109, 112, 108, 101, 47, 108, 97, 112, 103, 105, 118, 101, 47, 108, 97, 119, 115, 46, 70, 110, 69, 120, 97, 99, 116, 71, 105, 118, 101, 66, 97, 114, 115, 32, 108, 111, 111, 112, 46, 101, 120, 97, 109, 112, 108, 101, 47, 108, 97, 112, 103, 105, 118, 101, 47, 108, 97, 119, 115, 46, 70, 110, 69, 120, 97, 99, 116, 71, 105, 118, 101, 72, 101, 97, 114, 32, 108, 111, 111, 112, 46, 101, 120, 97, 109, 112, 108, 101, 47, 108, 97, 112, 103, 105, 118, 101, 47, 108, 97, 119, 115, 46, 70, 110, 69, 120, 97, 99, 116, 71, 105, 118, 101, 84, 105, 99, 107, 32, 108, 111, 111, 112, 46, 101, 120, 97, 109, 112, 108, 101, 47, 108, 97, 112, 103, 105, 118, 101, 47, 108, 97, 119, 115, 46, 70, 110, 69, 120, 97, 99, 116, 71, 105, 118, 101, 65, 109, 101, 110, 100, 32, 108, 111, 111, 112, 46, 101, 120, 97, 109, 112, 108, 101, 47, 108, 97, 112, 103, 105, 118, 101, 47, 108, 97, 119, 115, 46, 70, 110, 66, 97, 114, 115, 32, 108, 111, 111, 112, 46, 101, 120, 97, 109, 112, 108, 101, 47, 108, 97, 112, 103, 105, 118, 101, 47, 108, 97, 119, 115, 46, 70, 110, 84, 105, 99, 107, 32, 108, 111, 111, 112, 46, 101, 120, 97, 109, 112, 108, 101, 47, 108, 97, 112, 103, 105, 118, 101, 47, 108, 97, 119, 115, 46, 70, 110, 69, 120, 97, 99, 116, 71, 105, 118, 101, 66, 101, 115, 116, 32, 108, 111, 111, 112, 46, 101, 120, 97, 109, 112, 108, 101, 47, 108, 97, 112, 103, 105, 118, 101, 47, 108, 97, 119, 115, 46, 70, 110, 65, 109, 101, 110, 100, 32, 108, 111, 111, 112, 46, 101, 120, 97, 109, 112, 108, 101, 47, 108, 97, 112, 103, 105, 118, 101, 47, 108, 97, 119, 115, 46, 70, 110, 66, 101, 115, 116, 32, 108, 111, 111, 112, 46, 101, 120, 97, 109, 112, 108, 101, 47, 108, 97, 112, 103, 105, 118, 101, 47, 108, 97, 119, 115, 46, 70, 110, 69, 120, 97, 99, 116, 71, 105, 118, 101, 67, 104, 111, 105, 99, 101, 115]
theorem io : Try.prog.initOrder = String.ofList signs := by kernel_rfl
theorem ios : Try.prog.initOrder.toList = signs := by rw [io]; exact String.toList_ofList
theorem ws : (behindMainWord (wordsSigns signs)).take 2 = ["cut".toList, "at".toList] := by kernel_rfl

theorem strip_cut (r : List (List Char)) : stripLifts liftWords ("cut".toList :: r) = ([], "cut".toList :: r) := by
  simp only [liftWords, stripLifts]
  repeat rw [if_neg (by decide)]
theorem head_cut : ∃ r, behindMainWord (wordsSigns signs) = "cut".toList :: r := by
  have h : (behindMainWord (wordsSigns signs)).head? = some "cut".toList := by kernel_rfl
  cases hb : behindMainWord (wordsSigns signs) with
  | nil => rw [hb] at h; cases h
  | cons a r =>
    rw [hb] at h
    simp only [List.head?_cons, Option.some.injEq] at h
    exact ⟨r, by rw [h]⟩
theorem headLifts_of {P : Program} {l : List Char} {r : List (List Char)} (h : P.initOrder.toList = l) (h3 : behindMainWord (wordsSigns l) = "cut".toList :: r) : P.headLifts = [] := by
  unfold Program.headLifts
  rw [h, h3, strip_cut]
  simp
theorem lifts_of {P : Program} {l : List Char} {r : List (List Char)} (h : P.initOrder.toList = l) (h3 : behindMainWord (wordsSigns l) = "cut".toList :: r) : P.liftsFinal = false := by
  unfold Program.liftsFinal
  have e : ((some "cut".toList : Option (List Char)) == some "carried".toList) = false := by decide
  simp only [h, headLifts_of h h3, h3, List.head?_cons, e]
  rfl
theorem make_of {P : Program} {l : List Char} {r : List (List Char)} (h : P.initOrder.toList = l) (h3 : behindMainWord (wordsSigns l) = "cut".toList :: r) : P.make = some .cut := by
  unfold Program.make
  rw [h, h3]
  simp only
  rw [if_neg (by decide), if_pos (by simp)]
theorem enter_of {P : Program} {l : List Char} {r : List (List Char)} (h : P.initOrder.toList = l) (h3 : behindMainWord (wordsSigns l) = "cut".toList :: r) (h4 : P.laysLater = false) (h5 : P.bearsReflect = false) (h6 : P.doorFits [] = true) : P.mayEnter = true := by
  unfold Program.mayEnter
  rw [h, h3]
  simp only
  rw [strip_cut]
  simp [h4, h5, h6]
theorem lifts : Try.prog.liftsFinal = false := head_cut.elim fun _ h => lifts_of ios h
theorem make : Try.prog.make = some .cut := head_cut.elim fun _ h => make_of ios h
theorem enter : Try.prog.mayEnter = true := head_cut.elim fun _ h => enter_of ios h (by kernel_rfl) (by kernel_rfl) (by kernel_rfl)
end Go.Proofs.Ytenccnpdaldkfaa.Head

/-
  The abstract machine: what a Go function of plain data does, over blocks that have names and no addresses, in the order of the text.
  Definitions alone; what they have to do with the model stands in the texts behind this one.
-/

namespace Go.Abs

/-- A block's name: a local variable's (by the slot that holds its address), or one of the heap. -/
abbrev Key := Sum Nat Nat

inductive Md where
  | own
  | exact
  | any

/-- What one cell holds. -/
inductive Ce where
  | int (k : IntKind) (n : Int)
  | bool (b : Bool)
  | str (s : ByteArray)
  | nils
  | sl (q : Key) (o n : Nat) (m : Md)
  | nilp
  | ptr (q : Key) (o : Nat)
  | fn (f : Nat) (ps : List (Key × Nat))

inductive Tv where
  | c (x : Ce)
  | agg (l : List Ce)

inductive Av where
  | v (t : Tv)
  | tup (l : List Tv)
  | no

structure Row where
  cs : List Ce
  sz : Nat
  rw : Bool

structure Heap where
  nx : Nat
  hp : Nat → Option Row

structure St where
  h : Heap
  lc : Nat → Option Row

def St.get (s : St) : Key → Option Row
  | .inl k => s.lc k
  | .inr b => s.h.hp b

def Heap.get (h : Heap) : Key → Option Row
  | .inl _ => none
  | .inr b => h.hp b

def upd {α : Type} (f : Nat → α) (i : Nat) (v : α) : Nat → α := fun j => if j = i then v else f j

def upo {α : Type} (f : Nat → α) (i : Option Nat) (v : α) : Nat → α :=
  match i with
  | some i => upd f i v
  | none => f

def St.set (s : St) (q : Key) (r : Option Row) : St :=
  match q with
  | .inl k => { s with lc := upd s.lc k r }
  | .inr b => { s with h := { s.h with hp := upd s.h.hp b r } }

/-- A new block of the heap. -/
def Heap.push (h : Heap) (r : Row) : Heap := { nx := h.nx + 1, hp := upd h.hp h.nx (some r) }
def St.push (s : St) (r : Row) : St := { s with h := s.h.push r }

abbrev Env := Nat → Option (List Av → Heap → Option (Av × Heap))

def keyLoc : Key → Bool
  | .inl _ => true
  | .inr _ => false

def Ce.noLoc : Ce → Bool
  | .sl q _ _ _ => !keyLoc q
  | .ptr q _ => !keyLoc q
  | .fn _ ps => ps.all fun p => !keyLoc p.1
  | _ => true

def Tv.noLoc : Tv → Bool
  | .c x => x.noLoc
  | .agg _ => true

def Av.noLoc : Av → Bool
  | .v t => t.noLoc
  | .tup l => l.all Tv.noLoc
  | .no => false

def Tv.cells : Tv → List Ce
  | .c x => [x]
  | .agg l => l

inductive Opd where
  | t (n : Nat)
  | k (v : Av)

def ev (T : Nat → Av) : Opd → Av
  | .t n => T n
  | .k v => v

inductive AOp where
  | mov (x : Opd)
  | pick (c a b : Opd)
  | allocL (sz : Nat) (zero : List Ce)
  | allocH (sz : Nat) (zero : List Ce)
  | boxL (sz : Nat) (x : Opd)
  | boxH (sz : Nat) (x : Opd)
  | build (zero : List Ce) (parts : List (Nat × Nat × Opd))
  | mkSlL (sz len : Nat) (zero : List Ce) (parts : List (Nat × Nat × Opd))
  | mkSlH (sz len : Nat) (zero : List Ce) (parts : List (Nat × Nat × Opd))
  | load1 (x : Opd)
  | loadN (n : Nat) (x : Opd)
  | store (n : Nat) (a x : Opd)
  | nilchk (x : Opd)
  | bin (op : BinOp) (x y : Opd)
  | binB (neg : Bool) (x y : Opd)
  | binS (ks : List Nat) (neg : Bool) (x y : Opd)
  | un (op : UnOp) (x : Opd)
  | conv (k : IntKind) (x : Opd)
  | convSB (x : Opd)
  | mkfn (f : Nat) (ps : List Opd)
  | make (sz : Nat) (zero : List Ce) (len cap : Opd)
  | slice (sz : Nat) (x : Opd) (lo hi mx : Option Opd)
  | sliceS (x : Opd) (lo hi : Option Opd)
  | faddr (off : Nat) (x : Opd)
  | iaddr (sz : Nat) (x i : Opd)
  | indexS (x i : Opd)
  | extract (x : Opd) (i : Nat)
  | call (f : Nat) (xs : List Opd)
  | callV (f : Opd) (xs : List Opd)
  | len (x : Opd)
  | lenS (x : Opd)
  | append (sz : Nat) (x y : Opd)
  | maxs (xs : List Opd)
  | mins (xs : List Opd)
  | bad

def Av.ce? : Av → Option Ce
  | .v (.c x) => some x
  | _ => none
def Av.agg? : Av → Option (List Ce)
  | .v (.agg l) => some l
  | _ => none
def Av.tv? : Av → Option Tv
  | .v t => some t
  | _ => none
def Av.bool? : Av → Option Bool
  | .v (.c (.bool b)) => some b
  | _ => none
def Av.int? : Av → Option Int
  | .v (.c (.int _ n)) => some n
  | _ => none
def Av.int64? : Av → Option Int
  | .v (.c (.int .i64 n)) => some n
  | _ => none
def Av.ptr? : Av → Option (Key × Nat)
  | .v (.c (.ptr q o)) => some (q, o)
  | _ => none
def Av.str? : Av → Option ByteArray
  | .v (.c (.str s)) => some s
  | _ => none

def binCe (op : BinOp) : Ce → Ce → Option Ce
  | .int k a, .int k' b =>
    if k = k' then
      match op with
      | .add => some (.int k (k.wrap (a + b)))
      | .sub => some (.int k (k.wrap (a - b)))
      | .mul => some (.int k (k.wrap (a * b)))
      | .quo => if b = 0 then none else some (.int k (k.wrap (a.tdiv b)))
      | .rem => if b = 0 then none else some (.int k (a.tmod b))
      | .xor => some (.int k (k.wrap (BitVec.ofInt k.bits a ^^^ BitVec.ofInt k.bits b).toNat))
      | .eql => some (.bool (a == b))
      | .neq => some (.bool (a != b))
      | .lss => some (.bool (decide (a < b)))
      | .leq => some (.bool (decide (a ≤ b)))
      | .gtr => some (.bool (decide (a > b)))
      | .geq => some (.bool (decide (a ≥ b)))
      | _ => none
    else none
  | .str a, .str b =>
    match op with
    | .add => if a.size + b.size ≤ 9223372036854775807 then some (.str (a ++ b)) else none
    | .eql => some (.bool (a.toList == b.toList))
    | .neq => some (.bool (!(a.toList == b.toList)))
    | .lss => some (.bool (Op.bytesLess a.toList b.toList))
    | .leq => some (.bool (Op.bytesLess a.toList b.toList || a.toList == b.toList))
    | .gtr => some (.bool (!(Op.bytesLess a.toList b.toList || a.toList == b.toList)))
    | .geq => some (.bool (!(Op.bytesLess a.toList b.toList)))
    | _ => none
  | _, _ => none

/-- Cells of whole numbers (0), bools (1) and texts (2), held against each other. -/
def eqCes : List Nat → List Ce → List Ce → Option Bool
  | [], [], [] => some true
  | 0 :: ks, .int k a :: x, .int k' b :: y => if k = k' ∧ x.length = ks.length ∧ y.length = ks.length then (if a == b then eqCes ks x y else some false) else none
  | 1 :: ks, .bool a :: x, .bool b :: y => if x.length = ks.length ∧ y.length = ks.length then (if a == b then eqCes ks x y else some false) else none
  | 2 :: ks, .str a :: x, .str b :: y => if x.length = ks.length ∧ y.length = ks.length then (if a.toList == b.toList then eqCes ks x y else some false) else none
  | _, _, _ => none

def unAv (op : UnOp) : Av → Option Av
  | .v (.c (.int k n)) => match op with
    | .neg => some (.v (.c (.int k (k.wrap (0 - n)))))
    | _ => none
  | .v (.c (.bool b)) => match op with
    | .not => some (.v (.c (.bool (!b))))
    | _ => none
  | _ => none

/-- Parts put into cells: each with its place, its size and its value. -/
def fillA (T : Nat → Av) (cs : List Ce) : List (Nat × Nat × Opd) → Option (List Ce)
  | [] => some cs
  | (off, n, x) :: r =>
    match (ev T x).tv? with
    | some t => if t.noLoc = true ∧ t.cells.length = n ∧ off + n ≤ cs.length then fillA T (cs.take off ++ t.cells ++ cs.drop (off + n)) r else none
    | none => none

def repl (n : Nat) (zero : List Ce) : List Ce := (List.replicate n zero).flatten

def bytesOfCes : List Ce → Option (List UInt8)
  | [] => some []
  | .int .u8 n :: r => (bytesOfCes r).map (UInt8.ofNat n.toNat :: ·)
  | _ => none

/-- A slice's elements' cells, of elements of so many cells. -/
def St.elems (s : St) (sz : Nat) : Ce → Option (List Ce)
  | .nils => some []
  | .sl q o n _ =>
    match s.get q with
    | some r => if o + n * sz ≤ r.cs.length then some ((r.cs.drop o).take (n * sz)) else none
    | none => none
  | _ => none

def Ce.slen : Ce → Option Nat
  | .nils => some 0
  | .sl _ _ n _ => some n
  | _ => none

/-- The elements that are put behind others: of an empty slice there are none, wherever it lies. -/
def St.elemsA (s : St) (sz : Nat) (c : Ce) : Option (List Ce) :=
  if c.slen = some 0 then some [] else s.elems sz c

def lim : Nat := 4294967296

def appendA (s : St) (sz : Nat) (x y : Ce) : Option (Ce × St) :=
  match s.elemsA sz y, y.slen with
  | some new, some m =>
    match x with
    | .nils => if m = 0 then some (.nils, s) else if m ≤ lim then some (.sl (.inr s.h.nx) 0 m .own, s.push ⟨new, sz, true⟩) else none
    | .sl q o n .own =>
      match s.get q with
      | some r =>
        if o = 0 ∧ r.rw = true ∧ r.sz = sz ∧ r.cs.length = n * sz ∧ n + m ≤ lim ∧ keyLoc q = false then
          some (.sl (.inr s.h.nx) 0 (n + m) .own, (s.set q none).push ⟨r.cs ++ new, sz, true⟩)
        else none
      | none => none
    | .sl q o n .exact =>
      match s.get q with
      | some r => if 0 < m ∧ n + m ≤ lim ∧ o + n * sz ≤ r.cs.length then some (.sl (.inr s.h.nx) 0 (n + m) .own, s.push ⟨(r.cs.drop o).take (n * sz) ++ new, sz, true⟩) else none
      | none => none
    | _ => none
  | _, _ => none

def optInt (T : Nat → Av) (d : Nat) : Option Opd → Option Int
  | none => some d
  | some x => (ev T x).int?

def evs (T : Nat → Av) : List Opd → List Av
  | [] => []
  | x :: r => ev T x :: evs T r

def ints : List Av → Option (List Int)
  | [] => some []
  | .v (.c (.int .i64 n)) :: r => (ints r).map (n :: ·)
  | _ => none

def ptrs : List Av → Option (List (Key × Nat))
  | [] => some []
  | .v (.c (.ptr q o)) :: r => if keyLoc q = false then (ptrs r).map ((q, o) :: ·) else none
  | _ => none

def noLocs : List Av → Bool
  | [] => true
  | x :: r => x.noLoc && noLocs r

def callA (env : Env) (f : Nat) (xs : List Av) (s : St) : Option (Av × St) :=
  match env f with
  | some F => if noLocs xs = true then (F xs s.h).map fun p => (p.1, { s with h := p.2 }) else none
  | none => none

def aop (env : Env) (d : Option Nat) (T : Nat → Av) (s : St) : AOp → Option (Av × St)
  | .mov x => some (ev T x, s)
  | .pick c a b => (ev T c).bool?.map fun t => (if t then ev T a else ev T b, s)
  | .allocL sz zero => d.map fun d => (.v (.c (.ptr (.inl d) 0)), s.set (.inl d) (some ⟨zero, sz, true⟩))
  | .allocH sz zero => some (.v (.c (.ptr (.inr s.h.nx) 0)), s.push ⟨zero, sz, true⟩)
  | .boxL sz x => d.bind fun d => (ev T x).tv?.bind fun t =>
      if t.noLoc = true ∧ t.cells.length = sz then some (.v (.c (.ptr (.inl d) 0)), s.set (.inl d) (some ⟨t.cells, sz, true⟩)) else none
  | .boxH sz x => (ev T x).tv?.bind fun t =>
      if t.noLoc = true ∧ t.cells.length = sz then some (.v (.c (.ptr (.inr s.h.nx) 0)), s.push ⟨t.cells, sz, true⟩) else none
  | .build zero parts => (fillA T zero parts).map fun l => (.v (.agg l), s)
  | .mkSlL sz len zero parts => d.bind fun d => (fillA T (repl len zero) parts).map fun l => (.v (.c (.sl (.inl d) 0 len .any)), s.set (.inl d) (some ⟨l, sz, true⟩))
  | .mkSlH sz len zero parts => (fillA T (repl len zero) parts).map fun l => (.v (.c (.sl (.inr s.h.nx) 0 len .own)), s.push ⟨l, sz, true⟩)
  | .load1 x => (ev T x).ptr?.bind fun p => (s.get p.1).bind fun r => (r.cs[p.2]?).map fun c => (.v (.c c), s)
  | .loadN n x => (ev T x).ptr?.bind fun p => (s.get p.1).bind fun r => if p.2 + n ≤ r.cs.length then some (.v (.agg ((r.cs.drop p.2).take n)), s) else none
  | .store n a x => (ev T a).ptr?.bind fun p => (s.get p.1).bind fun r => (ev T x).tv?.bind fun t =>
      if r.rw = true ∧ t.noLoc = true ∧ t.cells.length = n ∧ p.2 + n ≤ r.cs.length then
        some (.tup [], s.set p.1 (some { r with cs := r.cs.take p.2 ++ t.cells ++ r.cs.drop (p.2 + n) })) else none
  | .nilchk x => (ev T x).ptr?.map fun _ => (ev T x, s)
  | .bin op x y => (ev T x).ce?.bind fun a => (ev T y).ce?.bind fun b => (binCe op a b).map fun r => (.v (.c r), s)
  | .binB neg x y => (ev T x).bool?.bind fun a => (ev T y).bool?.map fun b => (.v (.c (.bool (if neg then !(a == b) else a == b))), s)
  | .binS ks neg x y => (ev T x).agg?.bind fun a => (ev T y).agg?.bind fun b =>
      (eqCes ks a b).map fun r => (.v (.c (.bool (if neg then !r else r))), s)
  | .un op x => (unAv op (ev T x)).map fun r => (r, s)
  | .conv k x => (ev T x).int?.map fun n => (.v (.c (.int k (k.wrap n))), s)
  | .convSB x => (ev T x).ce?.bind fun a => (s.elems 1 a).bind fun l => (bytesOfCes l).map fun b => (.v (.c (.str ⟨b.toArray⟩)), s)
  | .mkfn f ps => (ptrs (evs T ps)).map fun l => (.v (.c (.fn f l)), s)
  | .make sz zero len cap => (ev T len).int64?.bind fun n => (ev T cap).int64?.bind fun m =>
      if n = m ∧ 0 ≤ n ∧ n ≤ lim then some (.v (.c (.sl (.inr s.h.nx) 0 n.toNat .own)), s.push ⟨repl n.toNat zero, sz, true⟩) else none
  | .slice sz x lo hi mx => (ev T x).ce?.bind fun a => a.slen.bind fun n =>
      (optInt T n mx).bind fun m => (match hi, mx with | none, some _ => none | _, _ => optInt T n hi).bind fun h => (optInt T 0 lo).bind fun l =>
      if 0 ≤ l ∧ l ≤ h ∧ h ≤ m ∧ m ≤ n then
        match a with
        | .sl q o _ _ => some (.v (.c (.sl q (o + l.toNat * sz) (h - l).toNat (match mx with | some _ => if h = m then .exact else .any | none => .any))), s)
        | .nils => some (.v (.c .nils), s)
        | _ => none
      else none
  | .sliceS x lo hi => (ev T x).str?.bind fun a => (optInt T a.size hi).bind fun h => (optInt T 0 lo).bind fun l =>
      if 0 ≤ l ∧ l ≤ h ∧ h ≤ a.size then some (.v (.c (.str (a.extract l.toNat h.toNat))), s) else none
  | .faddr off x => (ev T x).ptr?.map fun p => (.v (.c (.ptr p.1 (p.2 + off))), s)
  | .iaddr sz x i => (ev T i).int?.bind fun j =>
      match ev T x with
      | .v (.c (.sl q o n _)) => if 0 ≤ j ∧ j < n then some (.v (.c (.ptr q (o + j.toNat * sz))), s) else none
      | _ => none
  | .indexS x i => (ev T x).str?.bind fun a => (ev T i).int?.bind fun j =>
      if 0 ≤ j then (a[j.toNat]?).map fun b => (.v (.c (.int .u8 b.toNat)), s) else none
  | .extract x i => match ev T x with
      | .tup l => (l[i]?).map fun t => (.v t, s)
      | _ => none
  | .call f xs => callA env f (evs T xs) s
  | .callV f xs => match ev T f with
      | .v (.c (.fn g ps)) => callA env g (evs T xs ++ ps.map fun p => .v (.c (.ptr p.1 p.2))) s
      | _ => none
  | .len x => match ev T x with
      | .v (.c .nils) => some (.v (.c (.int .i64 0)), s)
      | .v (.c (.sl _ _ n _)) => some (.v (.c (.int .i64 n)), s)
      | _ => none
  | .lenS x => (ev T x).str?.map fun a => (.v (.c (.int .i64 a.size)), s)
  | .append sz x y => (ev T x).ce?.bind fun a => (ev T y).ce?.bind fun b => (appendA s sz a b).map fun p => (.v (.c p.1), p.2)
  | .maxs xs => (ints (evs T xs)).bind fun l => match l with
      | [] => none
      | a :: r => some (.v (.c (.int .i64 (r.foldl (fun x y => if y > x then y else x) a))), s)
  | .mins xs => (ints (evs T xs)).bind fun l => match l with
      | [] => none
      | a :: r => some (.v (.c (.int .i64 (r.foldl (fun x y => if y < x then y else x) a))), s)
  | .bad => none

structure AO where
  dst : Option Nat
  op : AOp
  guard : Option (Nat × Bool)

/-- Is an operation carried out? Its guard: a slot, and what it must hold. -/
def wantedA (T : Nat → Av) (o : AO) : Option Bool :=
  match o.guard with
  | none => some true
  | some (t, b) =>
    match T t with
    | .v (.c (.bool x)) => some (x == b)
    | .tup _ => some false
    | _ => none

def stepO (env : Env) (o : AO) (p : (Nat → Av) × St) : Option ((Nat → Av) × St) :=
  match wantedA p.1 o with
  | some true => (aop env o.dst p.1 p.2 o.op).map fun r => (upo p.1 o.dst r.1, r.2)
  | some false => some (upo p.1 o.dst (.tup []), p.2)
  | none => none

def runOps (env : Env) : List AO → (Nat → Av) × St → Option ((Nat → Av) × St)
  | [], p => some p
  | o :: r, p => (stepO env o p).bind (runOps env r)

/-- A slot's value, once the local blocks ds are no more. -/
def killV (ds : List Nat) : Av → Av
  | .v (.c (.ptr (.inl k) o)) => if ds.contains k then .no else .v (.c (.ptr (.inl k) o))
  | .v (.c (.sl (.inl k) o n m)) => if ds.contains k then .no else .v (.c (.sl (.inl k) o n m))
  | .v (.c (.fn f ps)) => if ps.all (fun p => !keyLoc p.1) then .v (.c (.fn f ps)) else .no
  | .tup l => if l.all Tv.noLoc then .tup l else .no
  | x => x
def kill (ds : List Nat) (p : (Nat → Av) × St) : (Nat → Av) × St :=
  match ds with
  | [] => p
  | _ => (fun t => killV ds (p.1 t), { p.2 with lc := fun k => if ds.contains k then none else p.2.lc k })

/-- The block that a light operation reads, or makes. -/
def lightKey (T : Nat → Av) (s : St) (o : AO) : Option Key :=
  match o.op with
  | .load1 x | .loadN _ x => (ev T x).ptr?.map (·.1)
  | .allocL .. | .boxL .. | .mkSlL .. => o.dst.map .inl
  | .allocH .. | .boxH .. | .mkSlH .. | .make .. => some (.inr s.h.nx)
  | .convSB x => match (ev T x) with
    | .v (.c (.sl q _ _ _)) => some q
    | _ => none
  | _ => none

/-- The trace in the text's order. -/
def runTrace (env : Env) : List AO → (Nat → Av) × St → Option (List ((Nat → Av) × St))
  | [], p => some [p]
  | o :: r, p => (stepO env o p).bind fun p' => (runTrace env r p').map (p :: ·)

/-- In a region of open order: the heavy operation i leaves alone what the light one j leans on. -/
def chkPair (ops : List AO) (tr : List ((Nat → Av) × St)) (i j : Nat) : Prop :=
  match tr[j]?, ops[j]?, tr[i]?, tr[i + 1]? with
  | some pj, some o, some pi, some pi' =>
    match lightKey pj.1 pj.2 o with
    | some q => pi.2.get q = pi'.2.get q
    | none => True
  | _, _, _, _ => False

def chkAll (ops : List AO) (tr : List ((Nat → Av) × St)) : List (Nat × Nat) → Prop
  | [] => True
  | (i, j) :: r => chkPair ops tr i j ∧ chkAll ops tr r

open Classical in
noncomputable def runRegD (env : Env) (ops : List AO) (chk : List (Nat × Nat)) (p : (Nat → Av) × St) : Option ((Nat → Av) × St) :=
  (runTrace env ops p).bind fun tr => if chkAll ops tr chk then tr[ops.length]? else none

inductive Ex where
  | normal
  | exit (id : Nat)
  | ret

inductive ACode where
  | skip
  | reg (ds : List Nat) (ops : List AO)
  | regD (ds : List Nat) (ops : List AO) (chk : List (Nat × Nat))
  | seq (a b : ACode)
  | cond (c : Opd) (a b : ACode)
  | block (id : Nat) (a : ACode)
  | loop (a : ACode)
  | exit (id : Nat)
  | ret
  | bad

abbrev X := (Nat → Av) × St
abbrev R := Ex × X

def iter (f : X → Option R) : Nat → X → Option R
  | 0, _ => none
  | n + 1, x =>
    match f x with
    | some (.normal, y) => iter f n y
    | r => r

open Classical in
noncomputable def aloop (f : X → Option R) (x : X) : Option R :=
  if h : ∃ n, (iter f n x).isSome = true then iter f (Classical.choose h) x else none

noncomputable def aexec (env : Env) : ACode → X → Option R
  | .skip, x => some (.normal, x)
  | .reg ds ops, x => (runOps env ops (kill ds x)).map fun y => (.normal, y)
  | .regD ds ops chk, x => (runRegD env ops chk (kill ds x)).map fun y => (.normal, y)
  | .seq a b, x =>
    match aexec env a x with
    | some (.normal, y) => aexec env b y
    | r => r
  | .cond c a b, x =>
    match (ev x.1 c).bool? with
    | some t => if t then aexec env a x else aexec env b x
    | none => none
  | .block id a, x =>
    match aexec env a x with
    | some (.exit j, y) => if j = id then some (.normal, y) else some (.exit j, y)
    | r => r
  | .loop a, x => aloop (aexec env a) x
  | .exit id, x => some (.exit id, x)
  | .ret, x => some (.ret, x)
  | .bad, _ => none

/-- A result: a slot, or a variable whose address a slot holds (its size, if it is a struct). -/
inductive RV where
  | t (n : Nat)
  | cell1 (a : Nat)
  | cellN (a n : Nat)

def resA (x : X) : RV → Option Tv
  | .t n => (x.1 n).tv?.bind fun t => if t.noLoc = true then some t else none
  | .cell1 a => (x.1 a).ptr?.bind fun p => (x.2.get p.1).bind fun r => (r.cs[p.2]?).map .c
  | .cellN a n => (x.1 a).ptr?.bind fun p => (x.2.get p.1).bind fun r => if p.2 + n ≤ r.cs.length then some (.agg ((r.cs.drop p.2).take n)) else none

def ressA (x : X) : List RV → Option (List Tv)
  | [] => some []
  | v :: r => (resA x v).bind fun t => (ressA x r).map (t :: ·)

def resOf : List Tv → Av
  | [t] => .v t
  | l => .tup l

def argsT (args : List Av) : Nat → Av := fun t => args.getD t .no

noncomputable def runF (env : Env) (code : ACode) (rs : List RV) (args : List Av) (h : Heap) : Option (Av × Heap) :=
  (aexec env code (argsT args, ⟨h, fun _ => none⟩)).bind fun r =>
    match r.1 with
    | .exit _ => none
    | _ => (ressA r.2 rs).map fun l => (resOf l, r.2.2.h)

end Go.Abs

/-
  What the abstract machine's values and blocks stand for in the model's memory; and first lemmas.
-/

namespace Go.Abs

structure Place where
  B : Nat
  O : Nat
  cap : Nat

abbrev Mp := Key → Option Place

def ConP (μ : Mp) (p : Key × Nat) (v : Value) : Prop :=
  ∃ pl, μ p.1 = some pl ∧ v = .pointer (some ⟨pl.B, pl.O + p.2, none⟩)

def ConPs (μ : Mp) : List (Key × Nat) → List Value → Prop
  | [], [] => True
  | p :: ps, v :: vs => ConP μ p v ∧ ConPs μ ps vs
  | _, _ => False

def ConC (μ : Mp) : Ce → Value → Prop
  | .int k n, v => v = .int k n
  | .bool b, v => v = .bool b
  | .str s, v => v = .string s
  | .nils, v => v = .slice none 0 0
  | .nilp, v => v = .pointer none
  | .ptr q o, v => ConP μ (q, o) v
  | .fn f ps, v => ∃ l : List Value, v = .func (.func f) #[] l.toArray ∧ ConPs μ ps l
  | .sl q o n m, v => ∃ a c, v = .slice a n c ∧ n ≤ c ∧ ∃ pl, μ q = some pl ∧
      match m with
      | .own => a = some ⟨pl.B, pl.O, none⟩ ∧ o = 0 ∧ c = pl.cap
      | .exact => (0 < n → a = some ⟨pl.B, pl.O + o, none⟩) ∧ c = n
      | .any => (0 < n → a = some ⟨pl.B, pl.O + o, none⟩)

def ConL (μ : Mp) : List Ce → List Value → Prop
  | [], [] => True
  | x :: xs, v :: vs => ConC μ x v ∧ ConL μ xs vs
  | _, _ => False

def noLocL : List Ce → Prop
  | [] => True
  | x :: r => x.noLoc = true ∧ noLocL r

def ConT (μ : Mp) : Tv → Value → Prop
  | .c x, v => ConC μ x v
  | .agg l, v => ∃ vs : List Value, v = .agg vs.toArray ∧ ConL μ l vs ∧ noLocL l

def ConTs (μ : Mp) : List Tv → List Value → Prop
  | [], [] => True
  | x :: xs, v :: vs => ConT μ x v ∧ ConTs μ xs vs
  | _, _ => False

def ConA (μ : Mp) : Av → Value → Prop
  | .v t, v => ConT μ t v
  | .tup l, v => ∃ vs : List Value, v = .tuple vs.toArray ∧ ConTs μ l vs
  | .no, _ => True

/-- One block of the abstract memory, at its place in the world. -/
def RowAt (μ : Mp) (w : World) (pl : Place) (r : Row) : Prop :=
  ∃ (cs : Array Value) (e : TypeId) (fr : Nat × Nat), w.heap[pl.B]? = some (.cells cs e fr) ∧ pl.O + r.cs.length ≤ cs.size ∧
    ConL μ r.cs ((cs.toList.drop pl.O).take r.cs.length) ∧ noLocL r.cs ∧
    (r.rw = true → pl.O = 0 ∧ fr = (0, 0) ∧ pl.cap * r.sz ≤ cs.size)

abbrev Mem := Key → Option Row

structure Sim (μ : Mp) (g : Mem) (w : World) : Prop where
  row : ∀ q pl r, μ q = some pl → g q = some r → RowAt μ w pl r
  apart : ∀ q q' pl pl' r r', q ≠ q' → μ q = some pl → μ q' = some pl' → g q = some r → g q' = some r' → r.rw = true → pl.B ≠ pl'.B

def Le (μ μ' : Mp) : Prop := ∀ q pl, μ q = some pl → μ' q = some pl
theorem Le.refl (μ : Mp) : Le μ μ := fun _ _ h => h
theorem Le.trans {a b c : Mp} (h : Le a b) (k : Le b c) : Le a c := fun q p hp => k q p (h q p hp)

theorem ConP.le {μ μ' : Mp} (h : Le μ μ') {p : Key × Nat} {v : Value} (k : ConP μ p v) : ConP μ' p v :=
  let ⟨pl, hp, e⟩ := k; ⟨pl, h _ _ hp, e⟩
theorem ConPs.le {μ μ' : Mp} (h : Le μ μ') : ∀ {ps : List (Key × Nat)} {vs : List Value}, ConPs μ ps vs → ConPs μ' ps vs
  | [], [], _ => trivial
  | _ :: _, _ :: _, k => ⟨k.1.le h, ConPs.le h k.2⟩
  | [], _ :: _, k => k.elim
  | _ :: _, [], k => k.elim
theorem ConC.le {μ μ' : Mp} (h : Le μ μ') {x : Ce} {v : Value} (k : ConC μ x v) : ConC μ' x v := by
  cases x with
  | ptr q o => exact ConP.le h k
  | fn f ps => obtain ⟨l, e, hl⟩ := k; exact ⟨l, e, hl.le h⟩
  | sl q o n m =>
    obtain ⟨a, c, e, hn, pl, hp, hm⟩ := k
    exact ⟨a, c, e, hn, pl, h _ _ hp, hm⟩
  | _ => exact k
theorem ConL.le {μ μ' : Mp} (h : Le μ μ') : ∀ {xs : List Ce} {vs : List Value}, ConL μ xs vs → ConL μ' xs vs
  | [], [], _ => trivial
  | _ :: _, _ :: _, k => ⟨k.1.le h, ConL.le h k.2⟩
  | [], _ :: _, k => k.elim
  | _ :: _, [], k => k.elim
theorem ConT.le {μ μ' : Mp} (h : Le μ μ') {x : Tv} {v : Value} (k : ConT μ x v) : ConT μ' x v := by
  cases x with
  | c x => exact ConC.le h k
  | agg l => obtain ⟨vs, e, hl, hn⟩ := k; exact ⟨vs, e, hl.le h, hn⟩
theorem ConTs.le {μ μ' : Mp} (h : Le μ μ') : ∀ {xs : List Tv} {vs : List Value}, ConTs μ xs vs → ConTs μ' xs vs
  | [], [], _ => trivial
  | _ :: _, _ :: _, k => ⟨k.1.le h, ConTs.le h k.2⟩
  | [], _ :: _, k => k.elim
  | _ :: _, [], k => k.elim
theorem ConA.le {μ μ' : Mp} (h : Le μ μ') {x : Av} {v : Value} (k : ConA μ x v) : ConA μ' x v := by
  cases x with
  | v t => exact ConT.le h k
  | tup l => obtain ⟨vs, e, hl⟩ := k; exact ⟨vs, e, hl.le h⟩
  | no => trivial

theorem ConL.length {μ : Mp} : ∀ {xs : List Ce} {vs : List Value}, ConL μ xs vs → xs.length = vs.length
  | [], [], _ => rfl
  | _ :: _, _ :: _, k => congrArg (· + 1) (ConL.length k.2)
  | [], _ :: _, k => k.elim
  | _ :: _, [], k => k.elim
theorem ConL.append {μ : Mp} : ∀ {xs ys : List Ce} {vs us : List Value}, ConL μ xs vs → ConL μ ys us → ConL μ (xs ++ ys) (vs ++ us)
  | [], _, [], _, _, k => k
  | _ :: _, _, _ :: _, _, h, k => ⟨h.1, ConL.append h.2 k⟩
  | [], _, _ :: _, _, h, _ => h.elim
  | _ :: _, _, [], _, h, _ => h.elim
theorem ConL.take {μ : Mp} : ∀ {xs : List Ce} {vs : List Value} (n : Nat), ConL μ xs vs → ConL μ (xs.take n) (vs.take n)
  | [], [], n, _ => by simp [ConL]
  | _ :: _, _ :: _, 0, _ => by simp [ConL]
  | _ :: _, _ :: _, n + 1, h => ⟨h.1, ConL.take n h.2⟩
  | [], _ :: _, _, h => h.elim
  | _ :: _, [], _, h => h.elim
theorem ConL.drop {μ : Mp} : ∀ {xs : List Ce} {vs : List Value} (n : Nat), ConL μ xs vs → ConL μ (xs.drop n) (vs.drop n)
  | [], [], n, _ => by simp [ConL]
  | _ :: _, _ :: _, 0, h => h
  | _ :: _, _ :: _, n + 1, h => by simpa using ConL.drop n h.2
  | [], _ :: _, _, h => h.elim
  | _ :: _, [], _, h => h.elim
theorem ConL.get {μ : Mp} : ∀ {xs : List Ce} {vs : List Value} (_ : ConL μ xs vs) (i : Nat) (x : Ce), xs[i]? = some x → ∃ v, vs[i]? = some v ∧ ConC μ x v
  | [], [], _, i, x, h => by simp at h
  | a :: _, b :: _, k, 0, x, h => by
    simp only [List.getElem?_cons_zero, Option.some.injEq] at h
    exact ⟨b, by simp, h ▸ k.1⟩
  | a :: _, b :: _, k, i + 1, x, h => by
    simp only [List.getElem?_cons_succ] at h ⊢
    exact ConL.get k.2 i x h
  | [], _ :: _, k, _, _, _ => k.elim
  | _ :: _, [], k, _, _, _ => k.elim

theorem noLocL.append : ∀ {xs ys : List Ce}, noLocL xs → noLocL ys → noLocL (xs ++ ys)
  | [], _, _, k => k
  | _ :: _, _, h, k => ⟨h.1, noLocL.append h.2 k⟩
theorem noLocL.take : ∀ {xs : List Ce} (n : Nat), noLocL xs → noLocL (xs.take n)
  | [], n, _ => by simp [noLocL]
  | _ :: _, 0, _ => by simp [noLocL]
  | _ :: _, n + 1, h => ⟨h.1, noLocL.take n h.2⟩
theorem noLocL.drop : ∀ {xs : List Ce} (n : Nat), noLocL xs → noLocL (xs.drop n)
  | [], n, _ => by simp [noLocL]
  | _ :: _, 0, h => h
  | _ :: _, n + 1, h => by simpa using noLocL.drop n h.2
theorem noLocL.get : ∀ {xs : List Ce} (_ : noLocL xs) (i : Nat) (x : Ce), xs[i]? = some x → x.noLoc = true
  | [], _, i, x, h => by simp at h
  | a :: _, k, 0, x, h => by
    simp only [List.getElem?_cons_zero, Option.some.injEq] at h
    exact h ▸ k.1
  | a :: _, k, i + 1, x, h => by
    simp only [List.getElem?_cons_succ] at h
    exact noLocL.get k.2 i x h

/-- A value that names no local block stands for the same under a map of heap blocks alone. -/
def hpOnly (μ : Mp) : Mp
  | .inl _ => none
  | .inr b => μ (.inr b)
theorem hpOnly_le (μ : Mp) : Le (hpOnly μ) μ := fun q pl h => by
  cases q with
  | inl k => simp [hpOnly] at h
  | inr b => exact h

theorem ConP.agree {μ μ' : Mp} {p : Key × Nat} {v : Value} (h : μ' p.1 = μ p.1) (k : ConP μ p v) : ConP μ' p v :=
  let ⟨pl, hp, e⟩ := k; ⟨pl, h.trans hp, e⟩
theorem ConPs.agree {μ μ' : Mp} (h : ∀ b, μ' (.inr b) = μ (.inr b)) : ∀ {ps : List (Key × Nat)} {vs : List Value}, ps.all (fun p => !keyLoc p.1) = true → ConPs μ ps vs → ConPs μ' ps vs
  | [], [], _, _ => trivial
  | p :: _, _ :: _, hl, k => by
    simp only [List.all_cons, Bool.and_eq_true] at hl
    refine ⟨k.1.agree ?_, ConPs.agree h hl.2 k.2⟩
    obtain ⟨q, o⟩ := p
    cases q with
    | inl k => simp [keyLoc] at hl
    | inr b => exact h b
  | [], _ :: _, _, k => k.elim
  | _ :: _, [], _, k => k.elim
theorem ConC.agree {μ μ' : Mp} (h : ∀ b, μ' (.inr b) = μ (.inr b)) {x : Ce} {v : Value} (hl : x.noLoc = true) (k : ConC μ x v) : ConC μ' x v := by
  cases x with
  | ptr q o =>
    cases q with
    | inl k => simp [Ce.noLoc, keyLoc] at hl
    | inr b => exact ConP.agree (h b) k
  | fn f ps => obtain ⟨l, e, hc⟩ := k; exact ⟨l, e, hc.agree h hl⟩
  | sl q o n m =>
    cases q with
    | inl k => simp [Ce.noLoc, keyLoc] at hl
    | inr b =>
      obtain ⟨a, c, e, hn, pl, hp, hm⟩ := k
      exact ⟨a, c, e, hn, pl, (h b).trans hp, hm⟩
  | _ => exact k
theorem ConL.agree {μ μ' : Mp} (h : ∀ b, μ' (.inr b) = μ (.inr b)) : ∀ {xs : List Ce} {vs : List Value}, noLocL xs → ConL μ xs vs → ConL μ' xs vs
  | [], [], _, _ => trivial
  | _ :: _, _ :: _, hl, k => ⟨k.1.agree h hl.1, ConL.agree h hl.2 k.2⟩
  | [], _ :: _, _, k => k.elim
  | _ :: _, [], _, k => k.elim
theorem ConT.agree {μ μ' : Mp} (h : ∀ b, μ' (.inr b) = μ (.inr b)) {x : Tv} {v : Value} (hl : x.noLoc = true) (k : ConT μ x v) : ConT μ' x v := by
  cases x with
  | c x => exact ConC.agree h hl k
  | agg l => obtain ⟨vs, e, hc, hn⟩ := k; exact ⟨vs, e, hc.agree h hn, hn⟩
theorem ConTs.agree {μ μ' : Mp} (h : ∀ b, μ' (.inr b) = μ (.inr b)) : ∀ {xs : List Tv} {vs : List Value}, xs.all Tv.noLoc = true → ConTs μ xs vs → ConTs μ' xs vs
  | [], [], _, _ => trivial
  | _ :: _, _ :: _, hl, k => by
    simp only [List.all_cons, Bool.and_eq_true] at hl
    exact ⟨k.1.agree h hl.1, ConTs.agree h hl.2 k.2⟩
  | [], _ :: _, _, k => k.elim
  | _ :: _, [], _, k => k.elim
theorem ConA.agree {μ μ' : Mp} (h : ∀ b, μ' (.inr b) = μ (.inr b)) {x : Av} {v : Value} (hl : x.noLoc = true) (k : ConA μ x v) : ConA μ' x v := by
  cases x with
  | v t => exact ConT.agree h hl k
  | tup l => obtain ⟨vs, e, hc⟩ := k; exact ⟨vs, e, hc.agree h hl⟩
  | no => trivial

/-- What a step leaves alone: all but the blocks that may be written. -/
structure Frm (μ : Mp) (g : Mem) (w w' : World) : Prop where
  os : w'.os = w.os
  tape : w'.tape = w.tape
  output : w'.output = w.output
  size : w.heap.size ≤ w'.heap.size
  block : ∀ B, B < w.heap.size → (∀ q pl r, μ q = some pl → g q = some r → r.rw = true → pl.B ≠ B) → w'.heap[B]? = w.heap[B]?

theorem Frm.refl (μ : Mp) (g : Mem) (w : World) : Frm μ g w w := ⟨rfl, rfl, rfl, Nat.le_refl _, fun _ _ _ => rfl⟩

end Go.Abs

/-
  Out of a function's text in the model: its code for the abstract machine.
-/

namespace Go.Abs

def ceOf : Value → Option Ce
  | .int k n => some (.int k n)
  | .bool b => some (.bool b)
  | .string s => some (.str s)
  | .slice none 0 0 => some .nils
  | .pointer none => some .nilp
  | _ => none

def cesOf : List Value → Option (List Ce)
  | [] => some []
  | v :: r => (ceOf v).bind fun c => (cesOf r).map (c :: ·)

def avOf (v : Value) : Av :=
  match ceOf v with
  | some c => .v (.c c)
  | none =>
    match v with
    | .agg cs =>
      match cesOf cs.toList with
      | some l => .v (.agg l)
      | none => .no
    | _ => .no

def opdOf : Operand → Opd
  | .tmp t => .t t
  | .const v => .k (avOf v)
  | .func f => .k (.v (.c (.fn f [])))
  | .global _ => .k .no

def opdsOf : List Operand → List Opd
  | [] => []
  | x :: r => opdOf x :: opdsOf r

def szOf (P : Program) (t : TypeId) : Option Nat := (P.info? t).map (·.size)
def zeroOf (P : Program) (t : TypeId) : Option (List Ce) := (P.info? t).bind fun i => i.zero.bind fun z => cesOf z.cells.toList
def aggOf (P : Program) (t : TypeId) : Option Bool :=
  match P.underlying t with
  | some (.struct _) | some (.array _ _) => some true
  | some _ => some false
  | none => none
def smallOf (P : Program) (t : TypeId) : Bool :=
  match P.info? t with
  | some i => decide (i.bytes ≤ 4096) && decide (0 < i.bytes)
  | none => false

def partsOf (f : Nat → Option (Nat × Nat)) : List (Nat × Operand) → Option (List (Nat × Nat × Opd))
  | [] => some []
  | (i, x) :: r => (f i).bind fun p => (partsOf f r).map ((p.1, p.2, opdOf x) :: ·)

def placesOf (P : Program) (fs : List Field) : Option (List (Nat × Nat)) := fs.mapM fun f => (P.info? f.type).map fun i => (f.offset, i.size)

/-- Fields one behind the other, each of one cell: a whole number (0), a bool (1) or a text (2). -/
def flatKs (P : Program) : Nat → List Field → Option (List Nat)
  | _, [] => some []
  | i, f :: r =>
    if f.offset = i ∧ (f.name == "_") = false then
      match P.underlying f.type with
      | some (.int _) => (flatKs P (i + 1) r).map (0 :: ·)
      | some .bool => (flatKs P (i + 1) r).map (1 :: ·)
      | some .string => (flatKs P (i + 1) r).map (2 :: ·)
      | _ => none
    else none

def stripOp (P : Program) (loc : Bool) : Op → AOp
  | .move x | .assign x => .mov (opdOf x)
  | .pick c a b => .pick (opdOf c) (opdOf a) (opdOf b)
  | .alloc e =>
    match zeroOf P e, szOf P e with
    | some z, some n => if z.length = n then (if loc then .allocL n z else .allocH n z) else .bad
    | _, _ => .bad
  | .box e x =>
    match szOf P e with
    | some n => if loc then .boxL n (opdOf x) else .boxH n (opdOf x)
    | none => .bad
  | .build t parts =>
    match P.underlying t, zeroOf P t with
    | some (.struct fs), some z =>
      match placesOf P fs.toList with
      | some ps =>
        match partsOf (fun i => ps[i]?) parts.toList with
        | some l => .build z l
        | none => .bad
      | none => .bad
    | _, _ => .bad
  | .buildSlice t len parts =>
    match P.underlying t with
    | some (.slice e) =>
      match szOf P e, zeroOf P e with
      | some n, some z =>
        if z.length = n ∧ 0 < n ∧ len * n ≤ 16777216 then
          match partsOf (fun i => some (i * n, n)) parts.toList with
          | some l => if loc then .mkSlL n len z l else .mkSlH n len z l
          | none => .bad
        else .bad
      | _, _ => .bad
    | _ => .bad
  | .load t a =>
    match aggOf P t, szOf P t with
    | some true, some n => .loadN n (opdOf a)
    | some false, _ => .load1 (opdOf a)
    | _, _ => .bad
  | .store t a x =>
    match szOf P t with
    | some n => .store n (opdOf a) (opdOf x)
    | none => .bad
  | .nilCheck x => .nilchk (opdOf x)
  | .binOp op t x y _ =>
    match op with
    | .eql | .neq =>
      match P.underlying t with
      | some (.int _) | some .string => .bin op (opdOf x) (opdOf y)
      | some .bool => .binB (match op with | .neq => true | _ => false) (opdOf x) (opdOf y)
      | some (.struct fs) =>
        match flatKs P 0 fs.toList with
        | some ks => if P.stoodInHeld t = false ∧ P.eqGuardType P.depth t = false then .binS ks (match op with | .neq => true | _ => false) (opdOf x) (opdOf y) else .bad
        | none => .bad
      | _ => .bad
    | _ => .bin op (opdOf x) (opdOf y)
  | .unOp op _ x => .un op (opdOf x)
  | .convert s d x =>
    match P.underlying s, P.underlying d with
    | some (.int _), some (.int k) => .conv k (opdOf x)
    | some (.slice e), some .string =>
      match P.underlying e with
      | some (.int .u8) => .convSB (opdOf x)
      | _ => .bad
    | _, _ => .bad
  | .makeFunc (.func f) first captured => if first.size = 0 then .mkfn f (opdsOf captured.toList) else .bad
  | .makeSlice t l c =>
    match P.underlying t with
    | some (.slice e) =>
      match szOf P e, zeroOf P e with
      | some n, some z => if z.length = n ∧ 0 < n ∧ smallOf P e = true then .make n z (opdOf l) (opdOf c) else .bad
      | _, _ => .bad
    | _ => .bad
  | .slice t x lo hi mx =>
    match P.underlying t with
    | some (.slice e) =>
      match szOf P e with
      | some n => .slice n (opdOf x) (lo.map opdOf) (hi.map opdOf) (mx.map opdOf)
      | none => .bad
    | some .string => if mx.isNone then .sliceS (opdOf x) (lo.map opdOf) (hi.map opdOf) else .bad
    | _ => .bad
  | .fieldAddr s x f =>
    match P.underlying s with
    | some (.struct fs) =>
      match fs[f]? with
      | some fd =>
        match szOf P fd.type with
        | some n => if n = 0 then .bad else .faddr fd.offset (opdOf x)
        | none => .bad
      | none => .bad
    | _ => .bad
  | .indexAddr t x i =>
    match P.underlying t with
    | some (.slice e) =>
      match szOf P e with
      | some n => .iaddr n (opdOf x) (opdOf i)
      | none => .bad
    | _ => .bad
  | .index t x i =>
    match P.underlying t with
    | some .string => .indexS (opdOf x) (opdOf i)
    | _ => .bad
  | .extract x i => .extract (opdOf x) i
  | .call c =>
    match c.callee with
    | .value (.func f) => .call f (opdsOf c.args.toList)
    | .value x => .callV (opdOf x) (opdsOf c.args.toList)
    | .builtin .len =>
      match c.args.toList, c.argTypes.toList with
      | [x], [t] =>
        match P.underlying t with
        | some (.slice _) => .len (opdOf x)
        | some .string => .lenS (opdOf x)
        | _ => .bad
      | _, _ => .bad
    | .builtin .append =>
      match c.args.toList, c.argTypes.toList with
      | [x, y], [t, u] =>
        match P.underlying t, P.underlying u with
        | some (.slice e), some (.slice _) =>
          match szOf P e, zeroOf P e with
          | some n, some z => if z.length = n ∧ 0 < n ∧ smallOf P e = true then .append n (opdOf x) (opdOf y) else .bad
          | _, _ => .bad
        | _, _ => .bad
      | _, _ => .bad
    | .builtin .max => .maxs (opdsOf c.args.toList)
    | .builtin .min => .mins (opdsOf c.args.toList)
    | _ => .bad
  | _ => .bad

/-- The local blocks that a region makes. -/
def madeL (locs : List Nat) : List Oper → List Nat
  | [] => []
  | o :: r =>
    match o.op, o.dst with
    | .alloc _, some d | .box _ _, some d | .buildSlice _ _ _, some d => if locs.contains d then d :: madeL locs r else madeL locs r
    | _, _ => madeL locs r

def isLoc (locs : List Nat) (d : Option Nat) : Bool :=
  match d with
  | some d => locs.contains d
  | none => false

def guardOf (ops : Array Oper) (g : Option (Nat × Bool)) : Option (Option (Nat × Bool)) :=
  match g with
  | none => some none
  | some (j, b) => ((ops[j]?).bind (·.dst)).map fun t => some (t, b)

def dstOk (n : Nat) : Option Nat → Bool
  | some d => decide (d < n)
  | none => true

def stripO (P : Program) (locs : List Nat) (n : Nat) (ops : Array Oper) (o : Oper) : AO :=
  match guardOf ops o.guard with
  | some g => if dstOk n o.dst = true then ⟨o.dst, stripOp P (isLoc locs o.dst) o.op, g⟩ else ⟨o.dst, .bad, none⟩
  | none => ⟨o.dst, .bad, none⟩

def AOp.heavy : AOp → Bool
  | .store .. | .call .. | .callV .. | .append .. => true
  | _ => false
def AOp.light : AOp → Bool
  | .load1 .. | .loadN .. | .convSB .. | .allocL .. | .allocH .. | .boxL .. | .boxH .. | .mkSlL .. | .mkSlH .. | .make .. => true
  | _ => false

def directs (o : Oper) : List Nat := o.after.toList.filterMap fun e => if Region.binds .any e then some e.on else none

def dedup : List Nat → List Nat
  | [] => []
  | x :: r => if (dedup r).contains x then dedup r else x :: dedup r

/-- All that comes ahead of each, through others too. -/
def aheads : List (List Nat) → List (List Nat) → List (List Nat)
  | [], acc => acc
  | d :: r, acc => aheads r (acc ++ [dedup (d ++ d.flatMap fun k => acc.getD k [])])

def AOp.newLoc : AOp → Bool
  | .allocL .. | .boxL .. | .mkSlL .. => true
  | _ => false

/-- The pairs (a heavy one, a light one) whose order is open. -/
def openPairs (ops : List AO) (ah : List (List Nat)) : List (Nat × Nat) :=
  (List.range ops.length).flatMap fun i => (List.range ops.length).filterMap fun j =>
    match ops[i]?, ops[j]? with
    | some a, some b => if a.op.heavy && b.op.light && i != j && !(ah.getD j []).contains i && !(ah.getD i []).contains j then some (i, j) else none
    | _, _ => none

def opTmps (o : Oper) : List Nat := o.op.operands.toList.filterMap fun x => match x with | .tmp t => some t | _ => none
def guardTmps (ops : Array Oper) (o : Oper) : List Nat :=
  match o.guard with
  | some (j, _) => ((ops[j]?).bind (·.dst)).toList
  | none => []

/-- Are i and j in an order that the edges lay down, the one that comes first in the text ahead? -/
def inOrder (ah : List (List Nat)) (i j : Nat) : Bool := if i < j then (ah.getD j []).contains i else (ah.getD i []).contains j

/-- The heavy ones stand in one order; who writes a slot and who names it stand in an order; and each comes behind what the edges say. -/
def openOk (ops : Array Oper) (l : List AO) (ah : List (List Nat)) : Bool :=
  (List.range l.length).all fun i => (List.range l.length).all fun j =>
    i == j ||
      match l[i]?, l[j]?, ops[j]? with
      | some a, some b, some o =>
        (!(a.op.heavy && b.op.heavy) || inOrder ah i j) && !(a.op.newLoc && b.op.newLoc && a.dst == b.dst) &&
        (match a.dst with
          | some d => (!((opTmps o ++ guardTmps ops o).contains d) && b.dst != some d) || inOrder ah i j
          | none => true)
      | _, _, _ => true

/-- Each comes behind what stands ahead of it in the text alone. -/
def backOk (ops : Array Oper) : Bool := (List.range ops.size).all fun i => ((ops[i]?).map directs).all fun d => d.all fun k => decide (k < i)

def stripRegion (P : Program) (locs : List Nat) (n : Nat) (ops : Array Oper) (draw : Bool) : ACode :=
  let l := ops.toList.map (stripO P locs n ops)
  let ds := madeL locs ops.toList
  if ds.Nodup then
    if draw then
      let ah := aheads (ops.toList.map directs) []
      if openOk ops l ah = true ∧ backOk ops = true then .regD ds l (openPairs l ah) else .bad
    else .reg ds l
  else .bad

def strip (P : Program) (locs : List Nat) (n : Nat) : Code → ACode
  | .skip => .skip
  | .region _ ops draw => stripRegion P locs n ops draw
  | .seq a b => .seq (strip P locs n a) (strip P locs n b)
  | .cond c a b => .cond (opdOf c) (strip P locs n a) (strip P locs n b)
  | .block i a => .block i (strip P locs n a)
  | .loop a => .loop (strip P locs n a)
  | .exit i => .exit i
  | .ret => .ret
  | _ => .bad

def rvOf (P : Program) : ResultVar → Option RV
  | .tmp t => some (.t t)
  | .cell a t =>
    match aggOf P t, szOf P t with
    | some true, some n => some (.cellN a n)
    | some false, some _ => some (.cell1 a)
    | _, _ => none

def rvsOf (P : Program) : List ResultVar → Option (List RV)
  | [] => some []
  | r :: l => (rvOf P r).bind fun x => (rvsOf P l).map (x :: ·)

end Go.Abs

/-
  The operations that only reckon: what the model's run of each gives.
-/

namespace Go.Abs

variable {P : Program} {μ : Mp} {T : Nat → Av} {ρ : Operand → Value} {w : World}

theorem ev_ce {x : Av} {c : Ce} (h : x.ce? = some c) : x = .v (.c c) := by
  cases x with
  | v t => cases t <;> simp_all [Av.ce?]
  | _ => simp [Av.ce?] at h
theorem ev_bool {x : Av} {b : Bool} (h : x.bool? = some b) : x = .v (.c (.bool b)) := by
  cases x with
  | v t => cases t with
    | c y => cases y <;> simp_all [Av.bool?]
    | _ => simp [Av.bool?] at h
  | _ => simp [Av.bool?] at h
theorem ev_int {x : Av} {n : Int} (h : x.int? = some n) : ∃ k, x = .v (.c (.int k n)) := by
  cases x with
  | v t => cases t with
    | c y => cases y <;> simp_all [Av.int?]
    | _ => simp [Av.int?] at h
  | _ => simp [Av.int?] at h
theorem ev_int64 {x : Av} {n : Int} (h : x.int64? = some n) : x = .v (.c (.int .i64 n)) := by
  cases x with
  | v t => cases t with
    | c y => cases y with
      | int k m => cases k <;> simp_all [Av.int64?]
      | _ => simp [Av.int64?] at h
    | _ => simp [Av.int64?] at h
  | _ => simp [Av.int64?] at h
theorem ev_ptr {x : Av} {p : Key × Nat} (h : x.ptr? = some p) : x = .v (.c (.ptr p.1 p.2)) := by
  cases x with
  | v t => cases t with
    | c y => cases y <;> simp_all [Av.ptr?]
             subst h; simp
    | _ => simp [Av.ptr?] at h
  | _ => simp [Av.ptr?] at h
theorem ev_str {x : Av} {n : ByteArray} (h : x.str? = some n) : x = .v (.c (.str n)) := by
  cases x with
  | v t => cases t with
    | c y => cases y <;> simp_all [Av.str?]
    | _ => simp [Av.str?] at h
  | _ => simp [Av.str?] at h
theorem ev_agg {x : Av} {l : List Ce} (h : x.agg? = some l) : x = .v (.agg l) := by
  cases x with
  | v t => cases t <;> simp_all [Av.agg?]
  | _ => simp [Av.agg?] at h
theorem ev_tv {x : Av} {t : Tv} (h : x.tv? = some t) : x = .v t := by
  cases x <;> simp_all [Av.tv?]

/-- What is known of an operand's value. -/
theorem con_bool {x : Opd} {v : Value} {b : Bool} (h : ConA μ (ev T x) v) (k : (ev T x).bool? = some b) : v = .bool b := by rw [ev_bool k] at h; exact h
theorem con_int {x : Opd} {v : Value} {b : Int} (h : ConA μ (ev T x) v) (k : (ev T x).int? = some b) : ∃ q, v = .int q b := by
  obtain ⟨q, e⟩ := ev_int k; rw [e] at h; exact ⟨q, h⟩
theorem con_str {x : Opd} {v : Value} {b : ByteArray} (h : ConA μ (ev T x) v) (k : (ev T x).str? = some b) : v = .string b := by rw [ev_str k] at h; exact h
theorem con_ptr {x : Opd} {v : Value} {p : Key × Nat} (h : ConA μ (ev T x) v) (k : (ev T x).ptr? = some p) : ConP μ p v := by rw [ev_ptr k] at h; exact h

/-- The pure result of an operation: a value, the world as it was. -/
def Gives (P : Program) (ρ : Operand → Value) (o : Oper) (w : World) (μ : Mp) (v : Av) : Prop :=
  ∃ v', (execOp ρ o).run P w = .ok (.value v') w ∧ ConA μ v v'

theorem g_mov {o : Oper} {x : Operand} (ho : o.op = .move x ∨ o.op = .assign x) (h : ConA μ (ev T (opdOf x)) (ρ x)) : Gives P ρ o w μ (ev T (opdOf x)) := by
  refine ⟨ρ x, ?_, h⟩
  rcases ho with e | e <;> simp [execOp, e]

theorem g_pick {o : Oper} {c a b : Operand} (ho : o.op = .pick c a b) {t : Bool} (hc : ConA μ (ev T (opdOf c)) (ρ c)) (ht : (ev T (opdOf c)).bool? = some t)
    (ha : ConA μ (ev T (opdOf a)) (ρ a)) (hb : ConA μ (ev T (opdOf b)) (ρ b)) : Gives P ρ o w μ (if t then ev T (opdOf a) else ev T (opdOf b)) := by
  have e := con_bool hc ht
  refine ⟨if t then ρ a else ρ b, ?_, ?_⟩
  · cases t <;> simp [execOp, ho, e, asBool]
  · cases t
    · exact hb
    · exact ha

theorem g_nilchk {o : Oper} {x : Operand} (ho : o.op = .nilCheck x) {p : Key × Nat} (h : ConA μ (ev T (opdOf x)) (ρ x)) (k : (ev T (opdOf x)).ptr? = some p) : Gives P ρ o w μ (ev T (opdOf x)) := by
  obtain ⟨pl, _, e⟩ := con_ptr h k
  exact ⟨ρ x, by simp [execOp, ho, e], h⟩

theorem binCe_run {op : BinOp} {a b r : Ce} {t : TypeId} {va vb : Value} (h : binCe op a b = some r) (ha : ConC μ a va) (hb : ConC μ b vb) (X Y : Operand) :
    ∃ v', (do eqGuard op t X Y va vb; binOp op t va vb : Sem Value).run P w = .ok v' w ∧ ConC μ r v' := by
  unfold binCe at h
  split at h
  · rename_i k n k' m
    obtain rfl : va = .int k n := ha
    obtain rfl : vb = .int k' m := hb
    split at h
    · rename_i hk
      subst hk
      cases op <;> simp only [Option.some.injEq, reduceCtorEq] at h
      case quo =>
        split at h
        · exact absurd h (by simp)
        · rename_i h0
          simp only [Option.some.injEq] at h
          subst h
          exact ⟨_, by simp [go_sem, Op.intDiv, h0], rfl⟩
      case rem =>
        split at h
        · exact absurd h (by simp)
        · rename_i h0
          simp only [Option.some.injEq] at h
          subst h
          exact ⟨_, by simp [go_sem, Op.intDiv, h0], rfl⟩
      all_goals (subst h; exact ⟨_, by simp [go_sem, Op.intArith, Op.intBits], rfl⟩)
    · exact absurd h (by simp)
  · rename_i x y
    obtain rfl : va = .string x := ha
    obtain rfl : vb = .string y := hb
    cases op <;> simp only [Option.some.injEq, reduceCtorEq] at h
    case add =>
      split at h
      · rename_i hs
        simp only [Option.some.injEq] at h
        subst h
        exact ⟨_, by simp [go_sem, binOp, run_string_add_sum w x y hs], rfl⟩
      · exact absurd h (by simp)
    all_goals (subst h; exact ⟨_, by simp [go_sem, binOp, Op.stringOp], rfl⟩)
  · exact absurd h (by simp)

theorem g_bin {o : Oper} {op : BinOp} {t t' : TypeId} {x y : Operand} (ho : o.op = .binOp op t x y t') {a b r : Ce} (hx : ConA μ (ev T (opdOf x)) (ρ x)) (hy : ConA μ (ev T (opdOf y)) (ρ y))
    (ka : (ev T (opdOf x)).ce? = some a) (kb : (ev T (opdOf y)).ce? = some b) (h : binCe op a b = some r) : Gives P ρ o w μ (.v (.c r)) := by
  rw [ev_ce ka] at hx
  rw [ev_ce kb] at hy
  obtain ⟨v', hv, hc⟩ := binCe_run (P := P) (w := w) (t := t) h hx hy x y
  refine ⟨v', ?_, hc⟩
  simp only [execOp, ho, Sem.run_bind] at hv ⊢
  rw [hv]
  rfl

theorem equalIn_bool {t : TypeId} (ht : P.underlying t = some .bool) (d : Nat) (a b : Bool) (w : World) : (Op.equalIn (d + 1) t (.bool a) (.bool b)).run P w = .ok (a == b) w := by
  simp [Op.equalIn, underlying, ht]
theorem equalIn_int {t : TypeId} {k0 : IntKind} (ht : P.underlying t = some (.int k0)) (d : Nat) (k : IntKind) (a b : Int) (w : World) : (Op.equalIn (d + 1) t (.int k a) (.int k b)).run P w = .ok (a == b) w := by
  simp [Op.equalIn, underlying, ht]
theorem equalIn_str {t : TypeId} (ht : P.underlying t = some .string) (d : Nat) (a b : ByteArray) (w : World) : (Op.equalIn (d + 1) t (.string a) (.string b)).run P w = .ok (a.toList == b.toList) w := by
  rw [← beq_toListBytes]
  simp [Op.equalIn, underlying, ht]

theorem equal_bool {t : TypeId} (ht : P.underlying t = some .bool) (a b : Bool) (w : World) : (Op.equal t (.bool a) (.bool b)).run P w = .ok (a == b) w := equalIn_bool ht 9999 a b w

theorem g_binB {o : Oper} {op : BinOp} {t t' : TypeId} {x y : Operand} (ho : o.op = .binOp op t x y t') (ht : P.underlying t = some .bool) {a b : Bool} (hx : ConA μ (ev T (opdOf x)) (ρ x)) (hy : ConA μ (ev T (opdOf y)) (ρ y))
    (ka : (ev T (opdOf x)).bool? = some a) (kb : (ev T (opdOf y)).bool? = some b) (neg : Bool) (hop : op = if neg then .neq else .eql) : Gives P ρ o w μ (.v (.c (.bool (if neg then !(a == b) else a == b)))) := by
  have ex := con_bool hx ka
  have ey := con_bool hy kb
  refine ⟨.bool (if neg then !(a == b) else a == b), ?_, rfl⟩
  subst hop
  cases neg <;> simp only [execOp, ho, ex, ey, eqGuard_at_bool, binOp, Sem.run_bind, if_true, Bool.false_eq_true, if_false] <;> simp [equal_bool ht]

theorem eqCes_nil {asx bs : List Ce} {r : Bool} (h : eqCes [] asx bs = some r) : r = true := by
  cases asx <;> cases bs <;> simp_all [eqCes]
theorem eqCes_0 {ks : List Nat} {asx bs : List Ce} {r : Bool} (h : eqCes (0 :: ks) asx bs = some r) : ∃ k a x b y, asx = .int k a :: x ∧ bs = .int k b :: y ∧ ((a == b) = true ∧ eqCes ks x y = some r ∨ (a == b) = false ∧ r = false) := by
  cases asx with
  | nil => simp [eqCes] at h
  | cons u asx =>
    cases bs with
    | nil => cases u <;> simp [eqCes] at h
    | cons v bs =>
      cases u <;> cases v <;> simp only [eqCes, reduceCtorEq] at h
      rename_i k a k' b
      split at h
      · rename_i hc
        obtain ⟨rfl, _, _⟩ := hc
        refine ⟨k, a, asx, b, bs, rfl, rfl, ?_⟩
        split at h
        · rename_i hab; exact .inl ⟨hab, h⟩
        · rename_i hab; exact .inr ⟨by simpa using hab, by simpa using h.symm⟩
      · exact absurd h (by simp)
theorem eqCes_1 {ks : List Nat} {asx bs : List Ce} {r : Bool} (h : eqCes (1 :: ks) asx bs = some r) : ∃ a x b y, asx = .bool a :: x ∧ bs = .bool b :: y ∧ ((a == b) = true ∧ eqCes ks x y = some r ∨ (a == b) = false ∧ r = false) := by
  cases asx with
  | nil => simp [eqCes] at h
  | cons u asx =>
    cases bs with
    | nil => cases u <;> simp [eqCes] at h
    | cons v bs =>
      cases u <;> cases v <;> simp only [eqCes, reduceCtorEq] at h
      rename_i a b
      split at h
      · refine ⟨a, asx, b, bs, rfl, rfl, ?_⟩
        split at h
        · rename_i hab; exact .inl ⟨hab, h⟩
        · rename_i hab; exact .inr ⟨by simpa using hab, by simpa using h.symm⟩
      · exact absurd h (by simp)
theorem eqCes_2 {ks : List Nat} {asx bs : List Ce} {r : Bool} (h : eqCes (2 :: ks) asx bs = some r) : ∃ a x b y, asx = .str a :: x ∧ bs = .str b :: y ∧ ((a.toList == b.toList) = true ∧ eqCes ks x y = some r ∨ (a.toList == b.toList) = false ∧ r = false) := by
  cases asx with
  | nil => simp [eqCes] at h
  | cons u asx =>
    cases bs with
    | nil => cases u <;> simp [eqCes] at h
    | cons v bs =>
      cases u <;> cases v <;> simp only [eqCes, reduceCtorEq] at h
      rename_i a b
      split at h
      · refine ⟨a, asx, b, bs, rfl, rfl, ?_⟩
        split at h
        · rename_i hab; exact .inl ⟨hab, h⟩
        · rename_i hab; exact .inr ⟨by simpa using hab, by simpa using h.symm⟩
      · exact absurd h (by simp)

theorem part_at {f : Field} {i : Nat} (hoff : f.offset = i) {u : TypeDesc} (hu : P.underlying f.type = some u) (h1 : ∀ q, u ≠ .struct q) (h2 : ∀ q q', u ≠ .array q q') (zs : Array Value) (c : Ce) (cs : List Ce) (w : World)
    (hc : ConL μ (c :: cs) (zs.toList.drop i)) : ∃ v, (part f.type zs f.offset).run P w = .ok v w ∧ ConC μ c v ∧ ConL μ cs (zs.toList.drop (i + 1)) := by
  cases hd : zs.toList.drop i with
  | nil => rw [hd] at hc; exact hc.elim
  | cons v vs =>
    rw [hd] at hc
    have hv : zs.toList[i]? = some v := by
      have := congrArg (·[0]?) hd
      simpa using this
    have hvs : zs.toList.drop (i + 1) = vs := by
      have := congrArg (·.drop 1) hd
      simpa [Nat.add_comm] using this
    refine ⟨v, ?_, hc.1, hvs ▸ hc.2⟩
    have hz : zs[i]? = some v := by simpa using hv
    have hagg : (isAgg f.type).run P w = .ok false w := by
      cases u <;> simp_all [isAgg, underlying]
    simp [part, hagg, hoff, hz]

theorem eqCes_run (d : Nat) (xs ys : Array Value) (w : World) : ∀ (fs : List Field) (ks : List Nat) (i : Nat) (asx bs : List Ce) (r : Bool), flatKs P i fs = some ks →
    ConL μ asx (xs.toList.drop i) → ConL μ bs (ys.toList.drop i) → eqCes ks asx bs = some r → (Op.eqFields (d + 1) xs ys fs).run P w = .ok r w := by
  intro fs
  induction fs with
  | nil =>
    intro ks i asx bs r hk ha hb h
    simp only [flatKs, Option.some.injEq] at hk
    subst hk
    obtain rfl := eqCes_nil h
    simp [Op.eqFields]
  | cons f fs ih =>
    intro ks i asx bs r hk ha hb h
    simp only [flatKs] at hk
    split at hk
    · rename_i hf
      obtain ⟨hoff, hn⟩ := hf
      have hn' : f.name ≠ "_" := by simpa using hn
      have step : ∀ (va vb : Value) (q : Bool), (part f.type xs f.offset).run P w = .ok va w → (part f.type ys f.offset).run P w = .ok vb w → (Op.equalIn (d + 1) f.type va vb).run P w = .ok q w →
          (q = true → (Op.eqFields (d + 1) xs ys fs).run P w = .ok r w) → (q = false → r = false) → (Op.eqFields (d + 1) xs ys (f :: fs)).run P w = .ok r w := by
        intro va vb q h1 h2 h3 h4 h5
        rw [Op.eqFields, if_pos hn']
        simp only [Sem.run_bind, h1, h2, h3, Result.andThen_ok]
        cases q with
        | true => simpa using h4 rfl
        | false => rw [h5 rfl]; simp
      split at hk
      · rename_i kk hu
        cases hks : flatKs P (i + 1) fs with
        | none => rw [hks] at hk; simp at hk
        | some ks' =>
          rw [hks] at hk
          obtain rfl := Option.some.inj hk
          obtain ⟨k, a, x, b, y, rfl, rfl, hcase⟩ := eqCes_0 h
          obtain ⟨va, p1, c1, r1⟩ := part_at hoff hu (by simp) (by simp) xs _ _ w ha
          obtain ⟨vb, p2, c2, r2⟩ := part_at hoff hu (by simp) (by simp) ys _ _ w hb
          obtain rfl : va = .int _ a := c1
          obtain rfl : vb = .int _ b := c2
          refine step _ _ (a == b) p1 p2 (equalIn_int hu d k a b w) ?_ ?_
          · intro hq
            rcases hcase with ⟨_, h'⟩ | ⟨hq', _⟩
            · exact ih _ _ _ _ _ hks r1 r2 h'
            · rw [hq'] at hq; cases hq
          · intro hq
            rcases hcase with ⟨hq', _⟩ | ⟨_, h'⟩
            · rw [hq'] at hq; cases hq
            · exact h'
      · rename_i hu
        cases hks : flatKs P (i + 1) fs with
        | none => rw [hks] at hk; simp at hk
        | some ks' =>
          rw [hks] at hk
          obtain rfl := Option.some.inj hk
          obtain ⟨a, x, b, y, rfl, rfl, hcase⟩ := eqCes_1 h
          obtain ⟨va, p1, c1, r1⟩ := part_at hoff hu (by simp) (by simp) xs _ _ w ha
          obtain ⟨vb, p2, c2, r2⟩ := part_at hoff hu (by simp) (by simp) ys _ _ w hb
          obtain rfl : va = .bool a := c1
          obtain rfl : vb = .bool b := c2
          refine step _ _ (a == b) p1 p2 (equalIn_bool hu d a b w) ?_ ?_
          · intro hq
            rcases hcase with ⟨_, h'⟩ | ⟨hq', _⟩
            · exact ih _ _ _ _ _ hks r1 r2 h'
            · rw [hq'] at hq; cases hq
          · intro hq
            rcases hcase with ⟨hq', _⟩ | ⟨_, h'⟩
            · rw [hq'] at hq; cases hq
            · exact h'
      · rename_i hu
        cases hks : flatKs P (i + 1) fs with
        | none => rw [hks] at hk; simp at hk
        | some ks' =>
          rw [hks] at hk
          obtain rfl := Option.some.inj hk
          obtain ⟨a, x, b, y, rfl, rfl, hcase⟩ := eqCes_2 h
          obtain ⟨va, p1, c1, r1⟩ := part_at hoff hu (by simp) (by simp) xs _ _ w ha
          obtain ⟨vb, p2, c2, r2⟩ := part_at hoff hu (by simp) (by simp) ys _ _ w hb
          obtain rfl : va = .string a := c1
          obtain rfl : vb = .string b := c2
          refine step _ _ (a.toList == b.toList) p1 p2 (equalIn_str hu d a b w) ?_ ?_
          · intro hq
            rcases hcase with ⟨_, h'⟩ | ⟨hq', _⟩
            · exact ih _ _ _ _ _ hks r1 r2 h'
            · rw [hq'] at hq; cases hq
          · intro hq
            rcases hcase with ⟨hq', _⟩ | ⟨_, h'⟩
            · rw [hq'] at hq; cases hq
            · exact h'
      · exact absurd hk (by simp)
    · exact absurd hk (by simp)

theorem g_binS {o : Oper} {op : BinOp} {t t' : TypeId} {x y : Operand} (ho : o.op = .binOp op t x y t') {fs : Array Field} (ht : P.underlying t = some (.struct fs)) {ks : List Nat} (hk : flatKs P 0 fs.toList = some ks)
    (hs : P.stoodInHeld t = false) (hg : P.eqGuardType P.depth t = false) {a b : List Ce} {r : Bool} (hx : ConA μ (ev T (opdOf x)) (ρ x)) (hy : ConA μ (ev T (opdOf y)) (ρ y))
    (ka : (ev T (opdOf x)).agg? = some a) (kb : (ev T (opdOf y)).agg? = some b) (h : eqCes ks a b = some r) (neg : Bool) (hop : op = if neg then .neq else .eql) :
    Gives P ρ o w μ (.v (.c (.bool (if neg then !r else r)))) := by
  rw [ev_agg ka] at hx
  rw [ev_agg kb] at hy
  obtain ⟨vs, ex, hvs, _⟩ := hx
  obtain ⟨us, ey, hus, _⟩ := hy
  have he : (Op.equal t (.agg vs.toArray) (.agg us.toArray)).run P w = .ok r w := by
    have hf : P.fieldsOf t = fs := by simp [Program.fieldsOf, ht]
    show (Op.equalIn (9999 + 1) t _ _).run P w = _
    rw [run_equalIn_struct (P := P) w 9999 t vs.toArray us.toArray (by rw [hf]; exact ht) hs, hf]
    exact eqCes_run (P := P) (μ := μ) 9998 _ _ w _ _ 0 _ _ _ hk (by simpa using hvs) (by simpa using hus) h
  have hgu : ∀ (op : BinOp) (X Y : Operand), (op = .eql ∨ op = .neq) → (eqGuard op t X Y (.agg vs.toArray) (.agg us.toArray)).run P w = .ok () w := by
    intro op X Y hop
    rcases hop with rfl | rfl <;> simp [eqGuard, program, Sem.run, hg]
  refine ⟨.bool (if neg then !r else r), ?_, rfl⟩
  subst hop
  cases neg
  · simp only [execOp, ho, ex, ey, Sem.run_bind, if_true, Bool.false_eq_true, if_false, hgu .eql x y (.inl rfl), Result.andThen_ok, binOp, he]
    simp
  · simp only [execOp, ho, ex, ey, Sem.run_bind, if_true, hgu .neq x y (.inr rfl), Result.andThen_ok, binOp, he]
    simp

end Go.Abs

/-
  The operations that only reckon, second part: addresses, slices, texts, tuples, structs put together.
-/

namespace Go.Abs

variable {P : Program} {μ : Mp} {T : Nat → Av} {ρ : Operand → Value} {w : World}

theorem g_un {o : Oper} {op : UnOp} {t : TypeId} {x : Operand} (ho : o.op = .unOp op t x) {r : Av} (hx : ConA μ (ev T (opdOf x)) (ρ x)) (h : unAv op (ev T (opdOf x)) = some r) : Gives P ρ o w μ r := by
  unfold unAv at h
  split at h
  · rename_i k n he
    rw [he] at hx
    have e : ρ x = .int k n := hx
    cases op <;> simp only [Option.some.injEq, reduceCtorEq] at h
    subst h
    exact ⟨_, by simp [execOp, ho, e, Op.unary, Op.intArith], rfl⟩
  · rename_i b he
    rw [he] at hx
    have e : ρ x = .bool b := hx
    cases op <;> simp only [Option.some.injEq, reduceCtorEq] at h
    subst h
    exact ⟨_, by simp [execOp, ho, e, Op.unary], rfl⟩
  · exact absurd h (by simp)

theorem g_conv {o : Oper} {s d : TypeId} {x : Operand} (ho : o.op = .convert s d x) {k0 k : IntKind} (hs : P.underlying s = some (.int k0)) (hd : P.underlying d = some (.int k)) {n : Int} (hx : ConA μ (ev T (opdOf x)) (ρ x)) (h : (ev T (opdOf x)).int? = some n) :
    Gives P ρ o w μ (.v (.c (.int k (k.wrap n)))) := by
  obtain ⟨q, e⟩ := con_int hx h
  exact ⟨_, by simp [execOp, ho, e, convert, underlying, hs, hd, Conv.intToInt], rfl⟩

theorem opds_con {xs : List Operand} (h : ∀ X ∈ xs, ConA μ (ev T (opdOf X)) (ρ X)) : ∀ (i : Nat) (x : Av), (evs T (opdsOf xs))[i]? = some x → ∃ X, xs[i]? = some X ∧ ConA μ x (ρ X) := by
  induction xs with
  | nil => intro i x hx; simp [opdsOf, evs] at hx
  | cons X xs ih =>
    intro i x hx
    cases i with
    | zero =>
      simp only [opdsOf, evs, List.getElem?_cons_zero, Option.some.injEq] at hx
      exact ⟨X, by simp, hx ▸ h X (by simp)⟩
    | succ i =>
      simp only [opdsOf, evs, List.getElem?_cons_succ] at hx ⊢
      exact ih (fun Y hY => h Y (by simp [hY])) i x hx

theorem ptrs_con {xs : List Operand} : (∀ X ∈ xs, ConA μ (ev T (opdOf X)) (ρ X)) → ∀ {l : List (Key × Nat)}, ptrs (evs T (opdsOf xs)) = some l → ConPs μ l (xs.map ρ) := by
  induction xs with
  | nil => intro _ l hl; simp only [opdsOf, evs, ptrs, Option.some.injEq] at hl; subst hl; trivial
  | cons X xs ih =>
    intro h l hl
    simp only [opdsOf, evs] at hl
    unfold ptrs at hl
    split at hl
    · rename_i heq; exact absurd heq (by simp)
    · rename_i q o r heq
      injection heq with h1 h2
      split at hl
      · rename_i hk
        cases hp : ptrs r with
        | none => rw [hp] at hl; simp at hl
        | some l' =>
          rw [hp] at hl
          obtain rfl := Option.some.inj hl
          have hX := h X (by simp)
          rw [h1] at hX
          exact ⟨hX, ih (fun Y hY => h Y (by simp [hY])) (h2 ▸ hp)⟩
      · exact absurd hl (by simp)
    · exact absurd hl (by simp)

theorem g_mkfn {o : Oper} {f : FuncId} {first captured : Array Operand} (ho : o.op = .makeFunc (.func f) first captured) (hf : first.size = 0) {l : List (Key × Nat)} (h : ∀ X ∈ captured.toList, ConA μ (ev T (opdOf X)) (ρ X))
    (hl : ptrs (evs T (opdsOf captured.toList)) = some l) : Gives P ρ o w μ (.v (.c (.fn f l))) := by
  have h0 : first = #[] := Array.eq_empty_of_size_eq_zero hf
  refine ⟨.func (.func f) #[] (captured.map ρ), by simp [execOp, ho, Instr.makeFunc, h0], (captured.toList.map ρ), ?_, ptrs_con h hl⟩
  rw [← Array.toList_map]

theorem g_faddr {o : Oper} {s : TypeId} {x : Operand} {f : Nat} (ho : o.op = .fieldAddr s x f) {fs : Array Field} {fd : Field} {n : Nat} (hs : P.underlying s = some (.struct fs)) (hf : fs[f]? = some fd) (hz : szOf P fd.type = some n) (hn : n ≠ 0)
    {p : Key × Nat} (hx : ConA μ (ev T (opdOf x)) (ρ x)) (h : (ev T (opdOf x)).ptr? = some p) : Gives P ρ o w μ (.v (.c (.ptr p.1 (p.2 + fd.offset)))) := by
  obtain ⟨pl, hp, e⟩ := con_ptr hx h
  simp only [szOf, Option.map_eq_some_iff] at hz
  obtain ⟨i, hi, rfl⟩ := hz
  refine ⟨.pointer (some ⟨pl.B, pl.O + (p.2 + fd.offset), none⟩), ?_, pl, hp, rfl⟩
  simp [execOp, ho, e, Instr.fieldAt, underlying, hs, hf, Instr.sureAddr, fieldPlace, sizeOf, typeInfo, program, Sem.run, hi, hn, Addr.add_lit, Nat.add_assoc]

theorem g_iaddr {o : Oper} {t : TypeId} {x i : Operand} (ho : o.op = .indexAddr t x i) {e : TypeId} {n : Nat} (ht : P.underlying t = some (.slice e)) (hz : szOf P e = some n) {q : Key} {off len : Nat} {m : Md} {j : Int}
    (hx : ConA μ (ev T (opdOf x)) (ρ x)) (hi : ConA μ (ev T (opdOf i)) (ρ i)) (kx : ev T (opdOf x) = .v (.c (.sl q off len m))) (ki : (ev T (opdOf i)).int? = some j) (h0 : 0 ≤ j) (h1 : j < len) :
    Gives P ρ o w μ (.v (.c (.ptr q (off + j.toNat * n)))) := by
  obtain ⟨k, ei⟩ := con_int hi ki
  rw [kx] at hx
  obtain ⟨a, c, ex, hc, pl, hp, hm⟩ := hx
  simp only [szOf, Option.map_eq_some_iff] at hz
  obtain ⟨ii, hii, rfl⟩ := hz
  have ha : a = some ⟨pl.B, pl.O + off, none⟩ := by
    cases m with
    | own => obtain ⟨h1, h2, _⟩ := hm; rw [h1, h2]; simp
    | exact => exact hm.1 (by omega)
    | any => exact hm (by omega)
  subst ha
  refine ⟨.pointer (some ⟨pl.B, pl.O + (off + j.toNat * ii.size), none⟩), ?_, pl, hp, rfl⟩
  simp [execOp, ho, ex, ei, Instr.indexAt, asIntOf, underlying, ht, sizeOf, typeInfo, program, Sem.run, hii, h0, h1, Addr.add_lit, Nat.add_assoc]

theorem g_indexS {o : Oper} {t : TypeId} {x i : Operand} (ho : o.op = .index t x i) (ht : P.underlying t = some .string) {s : ByteArray} {j : Int} {b : UInt8}
    (hx : ConA μ (ev T (opdOf x)) (ρ x)) (hi : ConA μ (ev T (opdOf i)) (ρ i)) (kx : (ev T (opdOf x)).str? = some s) (ki : (ev T (opdOf i)).int? = some j) (h0 : 0 ≤ j) (h1 : s[j.toNat]? = some b) :
    Gives P ρ o w μ (.v (.c (.int .u8 b.toNat))) := by
  obtain ⟨k, ei⟩ := con_int hi ki
  have ex := con_str hx kx
  refine ⟨_, ?_, rfl⟩
  simp [execOp, ho, ex, ei, Instr.index, asIntOf, underlying, ht, h0, h1]

theorem ConTs.get {μ : Mp} : ∀ {xs : List Tv} {vs : List Value} (_ : ConTs μ xs vs) (i : Nat) (x : Tv), xs[i]? = some x → ∃ v, vs[i]? = some v ∧ ConT μ x v
  | [], [], _, i, x, h => by simp at h
  | a :: _, b :: _, k, 0, x, h => by
    simp only [List.getElem?_cons_zero, Option.some.injEq] at h
    exact ⟨b, by simp, h ▸ k.1⟩
  | a :: _, b :: _, k, i + 1, x, h => by
    simp only [List.getElem?_cons_succ] at h ⊢
    exact ConTs.get k.2 i x h
  | [], _ :: _, k, _, _, _ => k.elim
  | _ :: _, [], k, _, _, _ => k.elim

theorem g_extract {o : Oper} {x : Operand} {i : Nat} (ho : o.op = .extract x i) {l : List Tv} {t : Tv} (hx : ConA μ (ev T (opdOf x)) (ρ x)) (kx : ev T (opdOf x) = .tup l) (ht : l[i]? = some t) : Gives P ρ o w μ (.v t) := by
  rw [kx] at hx
  obtain ⟨vs, ex, hvs⟩ := hx
  obtain ⟨v, hv, hc⟩ := hvs.get i t ht
  refine ⟨v, ?_, hc⟩
  simp [execOp, ho, ex, Instr.extract, hv]

theorem g_len {o : Oper} {c : Call} {x : Operand} {t : TypeId} (ho : o.op = .call c) (hc : c.callee = .builtin .len) (hx : c.args.toList = [x]) (ht : c.argTypes.toList = [t]) {e : TypeId} (hu : P.underlying t = some (.slice e)) {n : Nat}
    (h : ConA μ (ev T (opdOf x)) (ρ x)) (k : ev T (opdOf x) = .v (.c .nils) ∧ n = 0 ∨ ∃ q o m, ev T (opdOf x) = .v (.c (.sl q o n m))) : Gives P ρ o w μ (.v (.c (.int .i64 n))) := by
  have e1 : c.args = #[x] := by rw [← hx]
  have e2 : c.argTypes = #[t] := by rw [← ht]
  refine ⟨.int .i64 n, ?_, rfl⟩
  rcases k with ⟨k, rfl⟩ | ⟨q, off, m, k⟩
  · rw [k] at h
    have ev' : ρ x = .slice none 0 0 := h
    simp [execOp, ho, hc, resolve, invoke, builtin, Builtin.len_, e1, e2, underlying, hu, ev', goInt]
  · rw [k] at h
    obtain ⟨a, cc, ev', _⟩ := h
    simp [execOp, ho, hc, resolve, invoke, builtin, Builtin.len_, e1, e2, underlying, hu, ev', goInt]

theorem g_lenS {o : Oper} {c : Call} {x : Operand} {t : TypeId} (ho : o.op = .call c) (hc : c.callee = .builtin .len) (hx : c.args.toList = [x]) (ht : c.argTypes.toList = [t]) (hu : P.underlying t = some .string) {s : ByteArray}
    (h : ConA μ (ev T (opdOf x)) (ρ x)) (k : (ev T (opdOf x)).str? = some s) : Gives P ρ o w μ (.v (.c (.int .i64 s.size))) := by
  have e1 : c.args = #[x] := by rw [← hx]
  have e2 : c.argTypes = #[t] := by rw [← ht]
  have ev' := con_str h k
  exact ⟨_, by simp [execOp, ho, hc, resolve, invoke, builtin, Builtin.len_, e1, e2, underlying, hu, ev', goInt], rfl⟩

theorem ints_con {xs : List Operand} : (∀ X ∈ xs, ConA μ (ev T (opdOf X)) (ρ X)) → ∀ {l : List Int}, ints (evs T (opdsOf xs)) = some l → xs.map ρ = l.map (Value.int .i64) := by
  induction xs with
  | nil => intro _ l hl; simp only [opdsOf, evs, ints, Option.some.injEq] at hl; subst hl; rfl
  | cons X xs ih =>
    intro h l hl
    simp only [opdsOf, evs] at hl
    unfold ints at hl
    split at hl
    · rename_i heq; exact absurd heq (by simp)
    · rename_i n r heq
      injection heq with h1 h2
      cases hp : ints r with
      | none => rw [hp] at hl; simp at hl
      | some l' =>
        rw [hp] at hl
        obtain rfl := Option.some.inj hl
        have hX := h X (by simp)
        rw [h1] at hX
        have eX : ρ X = .int .i64 n := hX
        simp only [List.map_cons, eX, ih (fun Y hY => h Y (by simp [hY])) (h2 ▸ hp)]
    · exact absurd hl (by simp)

theorem fold_max (w : World) : ∀ (l : List Int) (a : Int), ((l.map (Value.int .i64)).foldlM Builtin.max2 (.int .i64 a)).run P w = .ok (.int .i64 (l.foldl (fun x y => if y > x then y else x) a)) w
  | [], a => by simp
  | b :: l, a => by
    simp only [List.map_cons, List.foldlM_cons, List.foldl_cons, Sem.run_bind]
    have : (Builtin.max2 (.int .i64 a) (.int .i64 b)).run P w = .ok (.int .i64 (if b > a then b else a)) w := by simp [Builtin.max2]
    rw [this]
    exact fold_max w l _
theorem fold_min (w : World) : ∀ (l : List Int) (a : Int), ((l.map (Value.int .i64)).foldlM Builtin.min2 (.int .i64 a)).run P w = .ok (.int .i64 (l.foldl (fun x y => if y < x then y else x) a)) w
  | [], a => by simp
  | b :: l, a => by
    simp only [List.map_cons, List.foldlM_cons, List.foldl_cons, Sem.run_bind]
    have : (Builtin.min2 (.int .i64 a) (.int .i64 b)).run P w = .ok (.int .i64 (if b < a then b else a)) w := by simp [Builtin.min2]
    rw [this]
    exact fold_min w l _

theorem g_maxs {o : Oper} {c : Call} (ho : o.op = .call c) (hc : c.callee = .builtin .max) {a : Int} {l : List Int} (h : ∀ X ∈ c.args.toList, ConA μ (ev T (opdOf X)) (ρ X)) (k : ints (evs T (opdsOf c.args.toList)) = some (a :: l)) :
    Gives P ρ o w μ (.v (.c (.int .i64 (l.foldl (fun x y => if y > x then y else x) a)))) := by
  have e := ints_con h k
  refine ⟨_, ?_, rfl⟩
  have e' : (c.args.map ρ).toList = (a :: l).map (Value.int .i64) := by simpa using e
  simp only [execOp, ho, hc, resolve, invoke, builtin, Builtin.max_, Sem.run_bind, Sem.run_pure, Result.andThen_ok]
  rw [e']
  simp only [List.map_cons]
  rw [fold_max]
  simp
theorem g_mins {o : Oper} {c : Call} (ho : o.op = .call c) (hc : c.callee = .builtin .min) {a : Int} {l : List Int} (h : ∀ X ∈ c.args.toList, ConA μ (ev T (opdOf X)) (ρ X)) (k : ints (evs T (opdsOf c.args.toList)) = some (a :: l)) :
    Gives P ρ o w μ (.v (.c (.int .i64 (l.foldl (fun x y => if y < x then y else x) a)))) := by
  have e := ints_con h k
  refine ⟨_, ?_, rfl⟩
  have e' : (c.args.map ρ).toList = (a :: l).map (Value.int .i64) := by simpa using e
  simp only [execOp, ho, hc, resolve, invoke, builtin, Builtin.min_, Sem.run_bind, Sem.run_pure, Result.andThen_ok]
  rw [e']
  simp only [List.map_cons]
  rw [fold_min]
  simp

end Go.Abs

/-
  The operations that only reckon, third part: slicing; structs put together.
-/

namespace Go.Abs

variable {P : Program} {μ : Mp} {T : Nat → Av} {ρ : Operand → Value} {w : World}

theorem bound_run (k : IntKind) (i : Int) (y : Nat) (code : BoundsCode) (h0 : 0 ≤ i) (h1 : i ≤ y) : (Instr.sliceBound (.int k i) y code).run P w = .ok i.toNat w := by
  simp [Instr.sliceBound, asIntOf, h0, h1]

def OptCon (μ : Mp) (T : Nat → Av) (ρ : Operand → Value) : Option Operand → Prop
  | none => True
  | some X => ConA μ (ev T (opdOf X)) (ρ X)

theorem opt_some {X : Operand} {d : Nat} {n : Int} (h : OptCon μ T ρ (some X)) (k : optInt T d (some (opdOf X)) = some n) : ∃ q, ρ X = .int q n := con_int h k

theorem bounds_run (isS : Bool) (len cap : Nat) (hlc : len ≤ cap) (lo hi mx : Option Operand) (hlo : OptCon μ T ρ lo) (hhi : OptCon μ T ρ hi) (hmx : OptCon μ T ρ mx) {l h m : Int}
    (km : optInt T len (mx.map opdOf) = some m) (kh : (match hi.map opdOf, mx.map opdOf with | none, some _ => none | _, _ => optInt T len (hi.map opdOf)) = some h) (kl : optInt T 0 (lo.map opdOf) = some l)
    (h0 : 0 ≤ l) (h1 : l ≤ h) (h2 : h ≤ m) (h3 : m ≤ len) :
    (Instr.sliceBounds isS len cap (lo.map ρ) (hi.map ρ) (mx.map ρ)).run P w = .ok (l.toNat, h.toNat, if mx.isSome then m.toNat else cap) w := by
  have B := fun q i y code => bound_run (P := P) (w := w) q i y code
  cases mx with
  | none =>
    simp only [Option.map_none, optInt, Option.some.injEq] at km
    subst km
    cases hi with
    | none =>
      simp only [Option.map_none, optInt, Option.some.injEq] at kh
      subst kh
      cases lo with
      | none =>
        simp only [Option.map_none, optInt, Option.some.injEq] at kl
        subst kl
        simp [Instr.sliceBounds]
      | some Z =>
        obtain ⟨q, e⟩ := opt_some (d := 0) hlo kl
        simp [Instr.sliceBounds, e, B q l len .sliceB h0 h1]
    | some X =>
      obtain ⟨q', e'⟩ := opt_some (d := len) hhi kh
      cases lo with
      | none =>
        simp only [Option.map_none, optInt, Option.some.injEq] at kl
        subst kl
        cases isS <;> simp [Instr.sliceBounds, e', B q' h cap _ (by omega) (by omega)]
      | some Z =>
        obtain ⟨q, e⟩ := opt_some (d := 0) hlo kl
        cases isS <;> simp [Instr.sliceBounds, e, e', B q' h cap _ (by omega) (by omega), B q l h.toNat .sliceB h0 (by omega)]
  | some Y =>
    obtain ⟨q2, e2⟩ := opt_some (d := len) hmx km
    cases hi with
    | none => simp at kh
    | some X =>
      have kh' : optInt T len (some (opdOf X)) = some h := by simpa using kh
      obtain ⟨q', e'⟩ := opt_some (d := len) hhi kh'
      cases lo with
      | none =>
        simp only [Option.map_none, optInt, Option.some.injEq] at kl
        subst kl
        cases isS <;> simp [Instr.sliceBounds, e', e2, B q2 m cap _ (by omega) (by omega), B q' h m.toNat _ (by omega) (by omega)]
      | some Z =>
        obtain ⟨q, e⟩ := opt_some (d := 0) hlo kl
        cases isS <;> simp [Instr.sliceBounds, e, e', e2, B q2 m cap _ (by omega) (by omega), B q' h m.toNat _ (by omega) (by omega), B q l h.toNat _ h0 (by omega)]

theorem g_slice {o : Oper} {t : TypeId} {x : Operand} {lo hi mx : Option Operand} (ho : o.op = .slice t x lo hi mx) {e : TypeId} {sz : Nat} (ht : P.underlying t = some (.slice e)) (hz : szOf P e = some sz) {c r : Ce} {n : Nat} {l h m : Int}
    (hx : ConA μ (ev T (opdOf x)) (ρ x)) (hlo : OptCon μ T ρ lo) (hhi : OptCon μ T ρ hi) (hmx : OptCon μ T ρ mx) (kx : (ev T (opdOf x)).ce? = some c) (kn : c.slen = some n)
    (km : optInt T n (mx.map opdOf) = some m) (kh : (match hi.map opdOf, mx.map opdOf with | none, some _ => none | _, _ => optInt T n (hi.map opdOf)) = some h) (kl : optInt T 0 (lo.map opdOf) = some l)
    (h0 : 0 ≤ l) (h1 : l ≤ h) (h2 : h ≤ m) (h3 : m ≤ n)
    (kr : c = .nils ∧ r = .nils ∨ ∃ q off md, c = .sl q off n md ∧ r = .sl q (off + l.toNat * sz) (h - l).toNat (match mx.map opdOf with | some _ => if h = m then .exact else .any | none => .any)) :
    Gives P ρ o w μ (.v (.c r)) := by
  rw [ev_ce kx] at hx
  simp only [szOf, Option.map_eq_some_iff] at hz
  obtain ⟨ii, hii, rfl⟩ := hz
  have runs : ∀ (a : Option Addr) (cp : Nat), ρ x = .slice a n cp → n ≤ cp →
      (execOp ρ o).run P w = .ok (.value (.slice (if (if mx.isSome then m.toNat else cp) = l.toNat then a else a.map (·.add (l.toNat * ii.size))) (h.toNat - l.toNat) ((if mx.isSome then m.toNat else cp) - l.toNat))) w := by
    intro a cp hv hcp
    have hb := bounds_run (P := P) (w := w) true n cp hcp lo hi mx hlo hhi hmx km kh kl h0 h1 h2 h3
    simp [execOp, ho, hv, Instr.sliceAt, Instr.slice, underlying, ht, hb, sizeOf, typeInfo, program, Sem.run, hii]
  rcases kr with ⟨rfl, rfl⟩ | ⟨q, off, md, rfl, rfl⟩
  · simp only [Ce.slen, Option.some.injEq] at kn
    subst kn
    have hv : ρ x = .slice none 0 0 := hx
    refine ⟨_, runs none 0 hv (Nat.le_refl _), ?_⟩
    have e1 : h.toNat = 0 := by omega
    have e2 : l.toNat = 0 := by omega
    have e3 : m.toNat = 0 := by omega
    show _ = _
    simp [e1, e2, e3]
  · obtain ⟨a, cp, hv, hcp, pl, hp, hm⟩ := hx
    have hlen : h.toNat - l.toNat = (h - l).toNat := by omega
    refine ⟨_, runs a cp hv hcp, _, _, by rw [hlen], ?_, pl, hp, ?_⟩
    · cases mx with
      | none => simp; omega
      | some Y => simp; omega
    · have ha : 0 < n → a = some ⟨pl.B, pl.O + off, none⟩ := by
        intro hn
        cases md with
        | own => obtain ⟨e1, e2, _⟩ := hm; rw [e1, e2]; simp
        | exact => exact hm.1 hn
        | any => exact hm hn
      have hadd : 0 < (h - l).toNat → (if (if mx.isSome then m.toNat else cp) = l.toNat then a else a.map (·.add (l.toNat * ii.size))) = some ⟨pl.B, pl.O + (off + l.toNat * ii.size), none⟩ := by
        intro hpos
        rw [if_neg (by split <;> omega), ha (by omega)]
        simp [Addr.add_lit, Nat.add_assoc]
      cases mx with
      | none => exact hadd
      | some Y =>
        simp only [Option.map_some]
        by_cases hhm : h = m
        · rw [if_pos hhm]
          exact ⟨hadd, by simp; omega⟩
        · rw [if_neg hhm]
          exact hadd

theorem g_sliceS {o : Oper} {t : TypeId} {x : Operand} {lo hi : Option Operand} (ho : o.op = .slice t x lo hi none) (ht : P.underlying t = some .string) {s : ByteArray} {l h : Int}
    (hx : ConA μ (ev T (opdOf x)) (ρ x)) (hlo : OptCon μ T ρ lo) (hhi : OptCon μ T ρ hi) (kx : (ev T (opdOf x)).str? = some s)
    (kh : optInt T s.size (hi.map opdOf) = some h) (kl : optInt T 0 (lo.map opdOf) = some l) (h0 : 0 ≤ l) (h1 : l ≤ h) (h2 : h ≤ s.size) :
    Gives P ρ o w μ (.v (.c (.str (s.extract l.toNat h.toNat)))) := by
  have hv := con_str hx kx
  have hb := bounds_run (P := P) (w := w) (mx := none) false s.size s.size (Nat.le_refl _) lo hi hlo hhi trivial (m := s.size) rfl (by simpa using kh) kl h0 h1 h2 (Int.le_refl _)
  simp only [Option.map_none] at hb
  refine ⟨_, ?_, rfl⟩
  simp [execOp, ho, hv, Instr.sliceAt, Instr.slice, underlying, ht, hb]

/-- Cells written one behind the other. -/
def setsL {α : Type} (cs : List α) (off : Nat) : List α → List α
  | [] => cs
  | u :: us => setsL (cs.set off u) (off + 1) us
theorem setsL_eq {α : Type} : ∀ (us cs : List α) (off : Nat), off + us.length ≤ cs.length → setsL cs off us = cs.take off ++ us ++ cs.drop (off + us.length)
  | [], cs, off, _ => by simp [setsL]
  | u :: us, cs, off, h => by
    simp only [List.length_cons] at h
    rw [setsL, setsL_eq us _ _ (by simp; omega)]
    have e1 : (cs.set off u).take (off + 1) = cs.take off ++ [u] := by
      rw [List.take_add_one, List.take_set_of_le (Nat.le_refl _)]
      simp [show off < cs.length by omega]
    have e2 : (cs.set off u).drop (off + 1 + us.length) = cs.drop (off + (us.length + 1)) := by
      rw [List.drop_set_of_lt (by omega)]
      congr 1
      omega
    rw [e1, e2]
    simp
theorem setsL_array (off : Nat) : ∀ (us : List Value) (j : Nat) (cs : Array Value),
    ((us.zipIdx j).foldl (fun cs (p : Value × Nat) => cs.setIfInBounds (off + p.2) p.1) cs).toList = setsL cs.toList (off + j) us
  | [], j, cs => rfl
  | u :: us, j, cs => by
    rw [List.zipIdx_cons, List.foldl_cons, setsL_array off us (j + 1)]
    simp [setsL, Nat.add_assoc]

theorem setsL_length {α : Type} : ∀ (us cs : List α) (off : Nat), (setsL cs off us).length = cs.length
  | [], _, _ => rfl
  | u :: us, cs, off => by rw [setsL, setsL_length us]; simp
theorem ConL.sets {μ : Mp} {xs ys : List Ce} {vs us : List Value} {off : Nat} (h : ConL μ xs vs) (k : ConL μ ys us) (hb : off + ys.length ≤ xs.length) :
    ConL μ (xs.take off ++ ys ++ xs.drop (off + ys.length)) (setsL vs off us) := by
  rw [setsL_eq us vs off (by rw [← h.length, ← k.length]; exact hb), k.length]
  exact ((h.take off).append k).append (h.drop _)
theorem noLocL.sets {xs ys : List Ce} {off n : Nat} (h : noLocL xs) (k : noLocL ys) : noLocL (xs.take off ++ ys ++ xs.drop (off + n)) :=
  noLocL.append (noLocL.append (h.take off) k) (h.drop _)

theorem con_cells {t : Tv} {v : Value} (h : ConT μ t v) (hn : t.noLoc = true) : ConL μ t.cells v.cells.toList ∧ noLocL t.cells := by
  cases t with
  | c x =>
    have hv : v.cells = #[v] := by
      cases x with
      | int k n => obtain rfl : v = .int k n := h; rfl
      | bool b => obtain rfl : v = .bool b := h; rfl
      | str s => obtain rfl : v = .string s := h; rfl
      | nils => obtain rfl : v = .slice none 0 0 := h; rfl
      | nilp => obtain rfl : v = .pointer none := h; rfl
      | ptr q o => obtain ⟨pl, _, rfl⟩ := h; rfl
      | fn f ps => obtain ⟨l, rfl, _⟩ := h; rfl
      | sl q o n m => obtain ⟨a, c, rfl, _⟩ := h; rfl
    rw [hv]
    exact ⟨⟨h, trivial⟩, hn, trivial⟩
  | agg l =>
    obtain ⟨vs, rfl, hl, hnl⟩ := h
    exact ⟨by simpa [Value.cells, Tv.cells] using hl, hnl⟩

theorem fill_con {place : Nat → Option (Nat × Nat)} : ∀ (parts : List (Nat × Operand)) (ps : List (Nat × Nat × Opd)) (xs r : List Ce) (cs : Array Value), partsOf place parts = some ps → fillA T xs ps = some r → ConL μ xs cs.toList → noLocL xs →
    (∀ p ∈ parts, ConA μ (ev T (opdOf p.2)) (ρ p.2)) → ∃ cs', Instr.fill place cs (parts.map fun p => (p.1, ρ p.2)) = some cs' ∧ ConL μ r cs'.toList ∧ noLocL r ∧ r.length = xs.length
  | [], ps, xs, r, cs, hp, hf, hc, hn, _ => by
    simp only [partsOf, Option.some.injEq] at hp
    subst hp
    simp only [fillA, Option.some.injEq] at hf
    subst hf
    exact ⟨cs, rfl, hc, hn, rfl⟩
  | (i, x) :: parts, ps, xs, r, cs, hp, hf, hc, hn, ha => by
    simp only [partsOf, Option.bind_eq_some_iff, Option.map_eq_some_iff] at hp
    obtain ⟨⟨off, n⟩, hpl, ps', hps, rfl⟩ := hp
    simp only [fillA] at hf
    split at hf
    · rename_i t ht
      split at hf
      · rename_i hcond
        obtain ⟨hl, hlen, hfit⟩ := hcond
        have hv := ha (i, x) (by simp)
        rw [ev_tv ht] at hv
        obtain ⟨hcells, hnl⟩ := con_cells hv hl
        have hvl : (ρ x).cells.size = n := by rw [← hlen, hcells.length]; simp
        have hcl : xs.length = cs.size := by rw [hc.length]; simp
        have e : (((ρ x).cells.zipIdx.foldl (fun cs (p : Value × Nat) => cs.setIfInBounds (off + p.2) p.1) cs)).toList = setsL cs.toList off (ρ x).cells.toList := by
          rw [← Array.foldl_toList, Array.toList_zipIdx]
          simpa using setsL_array off (ρ x).cells.toList 0 cs
        have hc' := ConL.sets hc hcells (off := off) (by rw [hlen]; exact hfit)
        rw [hlen] at hc'
        obtain ⟨cs', h1, h2, h3, h4⟩ := fill_con parts ps' _ r _ hps hf (by rw [e]; exact hc') (hn.sets hnl) (fun p hp => ha p (by simp [hp]))
        refine ⟨cs', ?_, h2, h3, ?_⟩
        · simp only [List.map_cons, Instr.fill, hpl]
          rw [if_neg (by simp [hvl]; omega)]
          exact h1
        · rw [h4]; simp; omega
      · exact absurd hf (by simp)
    · exact absurd hf (by simp)

theorem zero_con {z : List Ce} : ∀ {vs : List Value}, cesOf vs = some z → ConL μ z vs ∧ noLocL z := by
  intro vs
  induction vs generalizing z with
  | nil => intro h; simp only [cesOf, Option.some.injEq] at h; subst h; exact ⟨trivial, trivial⟩
  | cons u us ih =>
    intro h
    simp only [cesOf, Option.bind_eq_some_iff, Option.map_eq_some_iff] at h
    obtain ⟨c, hc, l, hl, rfl⟩ := h
    obtain ⟨h1, h2⟩ := ih hl
    unfold ceOf at hc
    split at hc <;> simp only [Option.some.injEq, reduceCtorEq] at hc <;> subst hc <;> exact ⟨⟨rfl, h1⟩, rfl, h2⟩

theorem zeroOf_some {t : TypeId} {z : List Ce} (h : zeroOf P t = some z) : ∃ i v, P.info? t = some i ∧ i.zero = some v ∧ cesOf v.cells.toList = some z := by
  simp only [zeroOf, Option.bind_eq_some_iff] at h
  obtain ⟨i, hi, v, hv, hz⟩ := h
  exact ⟨i, v, hi, hv, hz⟩

theorem g_build {o : Oper} {t : TypeId} {parts : Array (Nat × Operand)} (ho : o.op = .build t parts) {fs : Array Field} (ht : P.underlying t = some (.struct fs)) {z : List Ce} (hz : zeroOf P t = some z) {ps : List (Nat × Nat)}
    (hps : placesOf P fs.toList = some ps) {l : List (Nat × Nat × Opd)} (hl : partsOf (fun i => ps[i]?) parts.toList = some l) {r : List Ce} (hr : fillA T z l = some r) (ha : ∀ p ∈ parts.toList, ConA μ (ev T (opdOf p.2)) (ρ p.2)) :
    Gives P ρ o w μ (.v (.agg r)) := by
  obtain ⟨it, v, hit, hv, hc⟩ := zeroOf_some hz
  obtain ⟨h1, h2⟩ := zero_con (μ := μ) hc
  obtain ⟨cs', hf, hcs, hn, _⟩ := fill_con parts.toList l z r v.cells hl hr h1 h2 ha
  have hb : P.built t (parts.map fun p => (p.1, ρ p.2)).toList = some cs' := by
    unfold Program.built
    simp only [placesOf] at hps
    simp only [hit, ht, hv, hps]
    simpa using hf
  refine ⟨.agg cs', ?_, cs'.toList, rfl, hcs, hn⟩
  simp only [execOp, ho, Sem.run_bind]
  rw [show (parts.map fun (x : Nat × Operand) => match x with | (i, x) => (i, ρ x)) = parts.map fun p => (p.1, ρ p.2) from rfl, run_build w t _ cs' hb]
  rfl

end Go.Abs

/-
  The light operations: reads, and new blocks.
-/

namespace Go.Abs

variable {P : Program} {μ : Mp} {T : Nat → Av} {ρ : Operand → Value} {w : World} {g : Mem}

theorem cell_row {w : World} {B : Nat} {cs : Array Value} {e : TypeId} {fr : Nat × Nat} (h : w.heap[B]? = some (.cells cs e fr)) (i : Nat) : w.cell? ⟨B, i, none⟩ = cs[i]? := by
  simp [World.cell?, h]

theorem RowAt.cell {pl : Place} {r : Row} (h : RowAt μ w pl r) {i : Nat} {c : Ce} (hc : r.cs[i]? = some c) : ∃ v, w.cell? ⟨pl.B, pl.O + i, none⟩ = some v ∧ ConC μ c v := by
  obtain ⟨cs, e, fr, hb, hsz, hl, _, _⟩ := h
  obtain ⟨v, hv, hcon⟩ := hl.get i c hc
  refine ⟨v, ?_, hcon⟩
  rw [cell_row hb]
  have hi : i < r.cs.length := (List.getElem?_eq_some_iff.1 hc).1
  rw [List.getElem?_take, if_pos hi, List.getElem?_drop] at hv
  simpa using hv

theorem RowAt.cells {pl : Place} {r : Row} (h : RowAt μ w pl r) {o n : Nat} (hn : o + n ≤ r.cs.length) :
    ∃ vs : List Value, vs.length = n ∧ (∀ (j : Nat) v, vs[j]? = some v → w.cell? ((⟨pl.B, pl.O + o, none⟩ : Addr).add j) = some v) ∧ ConL μ ((r.cs.drop o).take n) vs := by
  obtain ⟨cs, e, fr, hb, hsz, hl, _, _⟩ := h
  refine ⟨(((cs.toList.drop pl.O).take r.cs.length).drop o).take n, ?_, ?_, (hl.drop o).take n⟩
  · simp; omega
  · intro j v hv
    rw [Addr.add_lit, cell_row hb]
    have hj : j < n := by
      have := (List.getElem?_eq_some_iff.1 hv).1
      simp at this
      omega
    rw [List.getElem?_take, if_pos hj, List.getElem?_drop, List.getElem?_take, if_pos (by omega), List.getElem?_drop] at hv
    simpa [Nat.add_assoc] using hv

theorem agg_true {t : TypeId} (h : aggOf P t = some true) (w : World) : (isAgg t).run P w = .ok true w := by
  unfold aggOf at h
  split at h
  · rename_i q hu; simp [isAgg, underlying, hu]
  · rename_i q q' hu; simp [isAgg, underlying, hu]
  · simp at h
  · simp at h
theorem agg_false {t : TypeId} (h : aggOf P t = some false) (w : World) : (isAgg t).run P w = .ok false w := by
  unfold aggOf at h
  split at h
  · simp at h
  · simp at h
  · rename_i u h1 h2 hu
    cases u <;> simp_all [isAgg, underlying]
  · simp at h

theorem g_load1 {o : Oper} {t : TypeId} {x : Operand} (ho : o.op = .load t x) (ht : aggOf P t = some false) {p : Key × Nat} {r : Row} {c : Ce} (hs : Sim μ g w) (hx : ConA μ (ev T (opdOf x)) (ρ x)) (kx : (ev T (opdOf x)).ptr? = some p)
    (kr : g p.1 = some r) (kc : r.cs[p.2]? = some c) : Gives P ρ o w μ (.v (.c c)) := by
  obtain ⟨pl, hp, e⟩ := con_ptr hx kx
  obtain ⟨v, hv, hcon⟩ := (hs.row _ _ _ hp kr).cell kc
  exact ⟨v, by simp [execOp, ho, e, Instr.loadAt, Instr.sureAddr, loadVar, agg_false ht, hv], hcon⟩

theorem g_loadN {o : Oper} {t : TypeId} {x : Operand} (ho : o.op = .load t x) (ht : aggOf P t = some true) {n : Nat} (hz : szOf P t = some n) {p : Key × Nat} {r : Row} (hs : Sim μ g w) (hx : ConA μ (ev T (opdOf x)) (ρ x)) (kx : (ev T (opdOf x)).ptr? = some p)
    (kr : g p.1 = some r) (kc : p.2 + n ≤ r.cs.length) : Gives P ρ o w μ (.v (.agg ((r.cs.drop p.2).take n))) := by
  obtain ⟨pl, hp, e⟩ := con_ptr hx kx
  obtain ⟨vs, hl, hc, hcon⟩ := (hs.row _ _ _ hp kr).cells kc
  obtain ⟨_, _, _, _, _, _, hnl, _⟩ := hs.row _ _ _ hp kr
  simp only [szOf, Option.map_eq_some_iff] at hz
  obtain ⟨i, hi, rfl⟩ := hz
  have hr := run_loadCells_list (P := P) w _ vs hc
  rw [hl] at hr
  exact ⟨.agg vs.toArray, by simp [execOp, ho, e, Instr.loadAt, Instr.sureAddr, loadVar, agg_true ht, sizeOf, typeInfo, hi, hr], vs, rfl, hcon, (hnl.drop _).take _⟩

/-- What a slice's elements are, in the world. -/
theorem elems_run {sz : Nat} {c : Ce} {v : Value} {s : St} {l : List Ce} (hg : ∀ q r, (∃ o n m, c = .sl q o n m) → s.get q = some r → g q = some r) (hs : Sim μ g w) (hc : ConC μ c v) (he : s.elems sz c = some l) :
    ∃ (a : Option Addr) (n cap : Nat) (vs : List Value), v = .slice a n cap ∧ n ≤ cap ∧ c.slen = some n ∧ vs.length = n * sz ∧ ConL μ l vs ∧ noLocL l ∧ l.length = n * sz ∧ (a = none → vs = []) ∧ (∀ A, a = some A → ∀ w' : World, w'.heap = w.heap → (loadCells A (n * sz)).run P w' = .ok vs.toArray w') := by
  cases c with
  | nils =>
    simp only [St.elems, Option.some.injEq] at he
    subst he
    exact ⟨none, 0, 0, [], hc, Nat.le_refl _, rfl, by simp, trivial, trivial, by simp, fun _ => rfl, fun A h => by cases h⟩
  | sl q o n m =>
    simp only [St.elems] at he
    split at he
    · rename_i r hr
      split at he
      · rename_i hfit
        simp only [Option.some.injEq] at he
        subst he
        obtain ⟨a, cap, rfl, hcap, pl, hp, hm⟩ := hc
        have hrow := hs.row _ _ _ hp (hg q r ⟨o, n, m, rfl⟩ hr)
        obtain ⟨vs, hl, hcell, hcon⟩ := hrow.cells hfit
        obtain ⟨_, _, _, _, _, _, hnl, _⟩ := hrow
        refine ⟨a, n, cap, vs, rfl, hcap, rfl, hl, hcon, (hnl.drop _).take _, by simp; omega, ?_, ?_⟩
        · intro ha
          subst ha
          have : n = 0 := by
            rcases Nat.eq_zero_or_pos n with h | h
            · exact h
            · cases m with
              | own => obtain ⟨h1, _⟩ := hm; cases h1
              | exact => exact absurd (hm.1 h) (by simp)
              | any => exact absurd (hm h) (by simp)
          subst this
          simpa using hl
        · intro A hA w' hw'
          subst hA
          rcases Nat.eq_zero_or_pos n with h | h
          · subst h
            have : vs = [] := by simpa using hl
            subst this
            simp [loadCells, loadCellsFrom]
          · have hAd : A = ⟨pl.B, pl.O + o, none⟩ := by
              cases m with
              | own => obtain ⟨h1, h2, _⟩ := hm; rw [h2]; simpa using h1
              | exact => simpa using hm.1 h
              | any => simpa using hm h
            rw [hAd, ← hl]
            exact run_loadCells_list w' _ vs (fun j v hv => by have := hcell j v hv; simpa [World.cell?, hw'] using this)
      · simp at he
    · simp at he
  | _ => simp [St.elems] at he

theorem bytes_con : ∀ {l : List Ce} {b : List UInt8} {vs : List Value}, bytesOfCes l = some b → ConL μ l vs → ∃ ns : List Int, vs = ns.map (Value.int .u8) ∧ b = ns.map fun n => UInt8.ofNat n.toNat
  | [], b, vs, h, hc => by
    simp only [bytesOfCes, Option.some.injEq] at h
    subst h
    cases vs with
    | nil => exact ⟨[], rfl, rfl⟩
    | cons _ _ => exact hc.elim
  | x :: l, b, vs, h, hc => by
    unfold bytesOfCes at h
    split at h
    · rename_i heq; exact absurd heq (by simp)
    · rename_i n r heq
      injection heq with h1 h2
      subst h1 h2
      cases hb : bytesOfCes l with
      | none => rw [hb] at h; simp at h
      | some b' =>
        rw [hb] at h
        obtain rfl := Option.some.inj h
        cases vs with
        | nil => exact hc.elim
        | cons v vs =>
          obtain ⟨ns, e1, e2⟩ := bytes_con hb hc.2
          have hv : v = .int .u8 n := hc.1
          exact ⟨n :: ns, by rw [hv, e1]; rfl, by rw [e2]; rfl⟩
    · exact absurd h (by simp)

theorem foldl_push (ns : List Int) : ∀ (b : ByteArray), ns.foldl (fun r n => r.push (UInt8.ofNat n.toNat)) b = ⟨b.data ++ (ns.map fun n => UInt8.ofNat n.toNat).toArray⟩ := by
  induction ns with
  | nil => intro b; simp
  | cons n ns ih =>
    intro b
    rw [List.foldl_cons, ih]
    simp [ByteArray.push]

theorem g_convSB {o : Oper} {sT dT e : TypeId} {x : Operand} (ho : o.op = .convert sT dT x) (hsT : P.underlying sT = some (.slice e)) (hdT : P.underlying dT = some .string) (he : P.underlying e = some (.int .u8)) {c : Ce} {s : St} {l : List Ce} {b : List UInt8}
    (hg : ∀ q r, (∃ o n m, c = .sl q o n m) → s.get q = some r → g q = some r) (hs : Sim μ g w) (hx : ConA μ (ev T (opdOf x)) (ρ x)) (kx : (ev T (opdOf x)).ce? = some c) (kl : s.elems 1 c = some l) (kb : bytesOfCes l = some b) :
    Gives P ρ o w μ (.v (.c (.str ⟨b.toArray⟩))) := by
  rw [ev_ce kx] at hx
  obtain ⟨a, n, cap, vs, hv, _, _, hl, hcon, _, _, hnone, hload⟩ := elems_run (P := P) hg hs hx kl
  obtain ⟨ns, e1, e2⟩ := bytes_con kb hcon
  have hr : (convert sT dT (ρ x)).run P w = .ok (.string ⟨b.toArray⟩) w := by
    rw [hv, run_convert_bytes_string w sT dT e a n cap hsT he hdT]
    cases a with
    | none =>
      have h0 := hnone rfl
      subst h0
      have : ns = [] := List.map_eq_nil_iff.1 e1.symm
      subst this
      subst e2
      simp [Conv.bytesToString]
      rfl
    | some A =>
      have h1 := hload A rfl w rfl
      rw [Nat.mul_one] at h1
      rw [run_bytesToString w A n cap ns (by rw [h1, e1]), foldl_push, e2]
      simp [ByteArray.empty, ByteArray.emptyWithCapacity]
      rfl
  exact ⟨_, by simp only [execOp, ho, Sem.run_bind, hr]; rfl, rfl⟩

theorem heap_old (w : World) (o : Obj) (k : Nat) (h : k < w.heap.size) : (w.alloc o).heap[k]? = w.heap[k]? := by
  show (w.heap.push o)[k]? = _
  rw [Array.getElem?_push, if_neg (by omega)]
theorem heap_new (w : World) (o : Obj) : (w.alloc o).heap[w.heap.size]? = some o := by
  show (w.heap.push o)[w.heap.size]? = _
  simp
theorem size_alloc (w : World) (o : Obj) : (w.alloc o).heap.size = w.heap.size + 1 := by
  show (w.heap.push o).size = _
  simp

def upm (μ : Mp) (q : Key) (pl : Place) : Mp := fun k => if k = q then some pl else μ k
def upg (g : Mem) (q : Key) (r : Row) : Mem := fun k => if k = q then some r else g k

theorem upm_le {q : Key} {pl : Place} (h : μ q = none) : Le μ (upm μ q pl) := fun k p hk => by
  unfold upm
  split
  · rename_i e; subst e; rw [h] at hk; cases hk
  · exact hk
theorem upm_self {q : Key} {pl : Place} : upm μ q pl q = some pl := by simp [upm]

theorem RowAt.le {μ' : Mp} {w' : World} {pl : Place} {r : Row} (h : RowAt μ w pl r) (hl : Le μ μ') (hb : w'.heap[pl.B]? = w.heap[pl.B]?) : RowAt μ' w' pl r := by
  obtain ⟨cs, e, fr, h1, h2, h3, h4, h5⟩ := h
  exact ⟨cs, e, fr, hb.trans h1, h2, h3.le hl, h4, h5⟩
theorem RowAt.lt {pl : Place} {r : Row} (h : RowAt μ w pl r) : pl.B < w.heap.size := by
  obtain ⟨cs, e, fr, h1, _⟩ := h
  exact (Array.getElem?_eq_some_iff.1 h1).1

/-- A new block beside the old ones. -/
theorem Sim.new (hs : Sim μ g w) {q : Key} (hq : μ q = none) {cs : Array Value} {e : TypeId} {r : Row} {cap : Nat} (hl : r.cs.length ≤ cs.size) (hc : ConL μ r.cs (cs.toList.take r.cs.length)) (hn : noLocL r.cs) (hcap : cap * r.sz ≤ cs.size) :
    Sim (upm μ q ⟨w.heap.size, 0, cap⟩) (upg g q r) (w.alloc (.cells cs e (0, 0))) := by
  have hle : Le μ (upm μ q ⟨w.heap.size, 0, cap⟩) := upm_le hq
  constructor
  · intro k pl r' hk hr'
    unfold upm at hk
    unfold upg at hr'
    split at hk
    · rename_i he
      subst he
      rw [if_pos rfl] at hr'
      obtain rfl := Option.some.inj hk
      obtain rfl := Option.some.inj hr'
      exact ⟨cs, e, (0, 0), heap_new w _, by simpa using hl, by simpa using hc.le hle, hn, fun _ => ⟨rfl, rfl, hcap⟩⟩
    · rename_i he
      rw [if_neg he] at hr'
      have := hs.row k pl r' hk hr'
      exact this.le hle (heap_old w _ _ this.lt)
  · intro k k' pl pl' r1 r2 hne hk hk' hr1 hr2 hrw
    unfold upm at hk hk'
    unfold upg at hr1 hr2
    split at hk
    · rename_i he
      subst he
      rw [if_neg (fun h => hne h.symm)] at hk' hr2
      obtain rfl := Option.some.inj hk
      have := (hs.row k' pl' r2 hk' hr2).lt
      simp only
      omega
    · rename_i he
      rw [if_neg he] at hr1
      split at hk'
      · rename_i he'
        obtain rfl := Option.some.inj hk'
        have := (hs.row k pl r1 hk hr1).lt
        simp only
        omega
      · rename_i he'
        rw [if_neg he'] at hr2
        exact hs.apart k k' pl pl' r1 r2 hne hk hk' hr1 hr2 hrw

theorem Frm.alloc (μ : Mp) (g : Mem) (w : World) (o : Obj) : Frm μ g w (w.alloc o) :=
  ⟨rfl, rfl, rfl, by rw [size_alloc]; omega, fun B hB _ => heap_old w o B hB⟩

/-- The operation makes the block q, of the row r. -/
def Makes (P : Program) (ρ : Operand → Value) (o : Oper) (w : World) (μ : Mp) (v : Av) (q : Key) (r : Row) : Prop :=
  ∃ v' cs e cap, (execOp ρ o).run P w = .ok (.value v') (w.alloc (.cells cs e (0, 0))) ∧ r.cs.length ≤ cs.size ∧ ConL μ r.cs (cs.toList.take r.cs.length) ∧ noLocL r.cs ∧ cap * r.sz ≤ cs.size ∧
    ConA (upm μ q ⟨w.heap.size, 0, cap⟩) v v'

theorem info_size {t : TypeId} {n : Nat} (h : szOf P t = some n) : ∃ i, P.info? t = some i ∧ i.size = n := by
  simpa [szOf, Option.map_eq_some_iff] using h

theorem m_box {o : Oper} {e : TypeId} {x : Operand} (ho : o.op = .box e x) {n : Nat} {t : Tv} (hx : ConA μ (ev T (opdOf x)) (ρ x)) (kx : (ev T (opdOf x)).tv? = some t) (hl : t.noLoc = true) (hlen : t.cells.length = n) (q : Key) :
    Makes P ρ o w μ (.v (.c (.ptr q 0))) q ⟨t.cells, n, true⟩ := by
  rw [ev_tv kx] at hx
  obtain ⟨hc, hn⟩ := con_cells hx hl
  have hsz : t.cells.length = (ρ x).cells.size := by rw [hc.length]; simp
  refine ⟨.pointer (some ⟨w.heap.size, 0, none⟩), (ρ x).cells, e, 1, ?_, by simp; omega, ?_, hn, by simp; omega, ⟨w.heap.size, 0, 1⟩, upm_self, by simp⟩
  · simp [execOp, ho, Instr.box, newVar, newRow]
  · rw [hsz]
    simpa [List.take_of_length_le] using hc

theorem m_alloc {o : Oper} {e : TypeId} (ho : o.op = .alloc e) {n : Nat} {z : List Ce} (hz : zeroOf P e = some z) (hn : z.length = n) (q : Key) : Makes P ρ o w μ (.v (.c (.ptr q 0))) q ⟨z, n, true⟩ := by
  obtain ⟨i, v, hi, hv, hc⟩ := zeroOf_some hz
  obtain ⟨h1, h2⟩ := zero_con (μ := μ) hc
  have hsz : z.length = v.cells.size := by rw [h1.length]; simp
  refine ⟨.pointer (some ⟨w.heap.size, 0, none⟩), v.cells, e, 1, ?_, by simp; omega, ?_, h2, by simp; omega, ⟨w.heap.size, 0, 1⟩, upm_self, by simp⟩
  · simp [execOp, ho, Instr.alloc, newVar, newRow, zeroValue, typeInfo, hi, hv]
  · rw [hsz]
    simpa [List.take_of_length_le] using h1

theorem repl_con {z : List Ce} {zs : List Value} (h : ConL μ z zs) : ∀ n, ConL μ (repl n z) (List.replicate n zs).flatten
  | 0 => trivial
  | n + 1 => by
    simp only [repl, List.replicate_succ, List.flatten_cons]
    exact h.append (repl_con h n)
theorem repl_noLoc {z : List Ce} (h : noLocL z) : ∀ n, noLocL (repl n z)
  | 0 => trivial
  | n + 1 => by
    simp only [repl, List.replicate_succ, List.flatten_cons]
    exact noLocL.append h (repl_noLoc h n)
theorem repl_length (z : List Ce) (n : Nat) : (repl n z).length = n * z.length := by
  simp [repl]

theorem made_list (z : Array Value) (hz : 0 < z.size) : ∀ n, (madeCells z (n * z.size)).toList = (List.replicate n z.toList).flatten := by
  intro n
  apply List.ext_getElem?
  intro i
  have hlen : ((List.replicate n z.toList).flatten).length = n * z.size := by simp
  by_cases hi : i < n * z.size
  · rw [madeCells, Array.toList_map, Array.toList_range, List.getElem?_map, List.getElem?_range hi]
    have key : ∀ n i, i < n * z.size → ((List.replicate n z.toList).flatten)[i]? = z[i % z.size]? := by
      intro n
      induction n with
      | zero => intro i h; simp at h
      | succ n ih =>
        intro i h
        simp only [List.replicate_succ, List.flatten_cons]
        by_cases h1 : i < z.size
        · rw [List.getElem?_append_left (by simpa using h1), Nat.mod_eq_of_lt h1]
          simp
        · rw [List.getElem?_append_right (by simp; omega)]
          simp only [Array.length_toList]
          rw [ih (i - z.size) (by have h5 : (n + 1) * z.size = n * z.size + z.size := Nat.succ_mul n z.size; omega), Nat.mod_eq_sub_mod (a := i) (by omega)]
    rw [key n i hi]
    simp [Nat.mod_lt _ hz]
  · rw [List.getElem?_eq_none (by rw [madeCells]; simp; omega), List.getElem?_eq_none (by omega)]

theorem m_make {o : Oper} {t : TypeId} {l c : Operand} (ho : o.op = .makeSlice t l c) {e : TypeId} {n : Nat} {z : List Ce} (ht : P.underlying t = some (.slice e)) (hn : szOf P e = some n) (hz : zeroOf P e = some z) (hzl : z.length = n) (h0 : 0 < n) (hsm : smallOf P e = true)
    {m : Int} (hl : ConA μ (ev T (opdOf l)) (ρ l)) (hc : ConA μ (ev T (opdOf c)) (ρ c)) (kl : (ev T (opdOf l)).int64? = some m) (kc : (ev T (opdOf c)).int64? = some m) (hm0 : 0 ≤ m) (hm : m ≤ lim) (q : Key) :
    Makes P ρ o w μ (.v (.c (.sl q 0 m.toNat .own))) q ⟨repl m.toNat z, n, true⟩ := by
  obtain ⟨i, v, hi, hv, hcz⟩ := zeroOf_some hz
  obtain ⟨h1, h2⟩ := zero_con (μ := μ) hcz
  rw [ev_int64 kl] at hl
  rw [ev_int64 kc] at hc
  have el : ρ l = .int .i64 m := hl
  have ec : ρ c = .int .i64 m := hc
  have hsz : v.cells.size = n := by rw [← hzl, h1.length]; simp
  obtain ⟨i', hi', hsz'⟩ := info_size hn
  rw [hi] at hi'
  obtain rfl := Option.some.inj hi'
  unfold smallOf at hsm
  rw [hi] at hsm
  simp only [Bool.and_eq_true, decide_eq_true_eq] at hsm
  have hml : (m : Int) ≤ 4294967296 := by simpa [lim] using hm
  have hb : (i.bytes : Int) * m ≤ 281474976710656 := by
    have h3 : (i.bytes : Int) ≤ 4096 := by omega
    have h4 : (0 : Int) ≤ i.bytes := by omega
    calc (i.bytes : Int) * m ≤ 4096 * m := Int.mul_le_mul_of_nonneg_right h3 hm0
      _ ≤ 281474976710656 := by omega
  have hr := run_make (P := P) w t e i v ht hi hv .i64 .i64 m m hm0 (Int.le_refl _) hb (by omega)
  refine ⟨.slice (some ⟨w.heap.size, 0, none⟩) m.toNat m.toNat, madeCells v.cells (m.toNat * i.size), e, m.toNat, ?_, ?_, ?_, repl_noLoc h2 _, ?_, ?_⟩
  · simp only [execOp, ho, el, ec, Sem.run_bind, hr]
    rfl
  · simp [repl_length, size_madeCells, hzl, hsz']
  · have e1 : (repl m.toNat z).length = (madeCells v.cells (m.toNat * i.size)).toList.length := by simp [repl_length, size_madeCells, hzl, hsz']
    rw [e1, List.take_length]
    have e2 := made_list v.cells (by omega) m.toNat
    rw [hsz] at e2
    rw [hsz', e2]
    exact repl_con h1 _
  · simp [size_madeCells, hsz']
  · exact ⟨_, _, rfl, Nat.le_refl _, _, upm_self, rfl, rfl, rfl⟩

theorem m_mkSl {o : Oper} {t : TypeId} {len : Nat} {parts : Array (Nat × Operand)} (ho : o.op = .buildSlice t len parts) {e : TypeId} {n : Nat} {z : List Ce} (ht : P.underlying t = some (.slice e)) (hn : szOf P e = some n) (hz : zeroOf P e = some z)
    (hzl : z.length = n) (h0 : 0 < n) (hlim : len * n ≤ 16777216) {ps : List (Nat × Nat × Opd)} (hps : partsOf (fun i => some (i * n, n)) parts.toList = some ps) {r : List Ce} (hr : fillA T (repl len z) ps = some r)
    (ha : ∀ p ∈ parts.toList, ConA μ (ev T (opdOf p.2)) (ρ p.2)) (q : Key) :
    Makes P ρ o w μ (.v (.c (.sl q 0 len .own))) q ⟨r, n, true⟩ ∧ Makes P ρ o w μ (.v (.c (.sl q 0 len .any))) q ⟨r, n, true⟩ := by
  obtain ⟨i, v, hi, hv, hcz⟩ := zeroOf_some hz
  obtain ⟨h1, h2⟩ := zero_con (μ := μ) hcz
  have hsz : v.cells.size = n := by rw [← hzl, h1.length]; simp
  obtain ⟨i', hi', hsz'⟩ := info_size hn
  rw [hi] at hi'
  obtain rfl := Option.some.inj hi'
  have hcon : ConL μ (repl len z) (madeCells v.cells (len * n)).toList := by
    have e2 := made_list v.cells (by omega) len
    rw [hsz] at e2
    rw [e2]
    exact repl_con h1 _
  obtain ⟨cs', hf, hc', hn', hlen'⟩ := fill_con parts.toList ps _ r _ hps hr hcon (repl_noLoc h2 _) ha
  have hrl : r.length = len * n := by rw [hlen', repl_length, hzl]
  have hcsz : cs'.size = len * n := by
    have := hc'.length
    rw [hrl] at this
    simpa using this.symm
  have hrun : (execOp ρ o).run P w = .ok (.value (.slice (some ⟨w.heap.size, 0, none⟩) len len)) (w.alloc (.cells cs' e (0, 0))) := by
    have hmap : (parts.map fun (x : Nat × Operand) => match x with | (i, x) => (i, ρ x)) = parts.map fun p => (p.1, ρ p.2) := rfl
    simp only [execOp, ho, Instr.buildSlice, Sem.run_bind, run_underlying ht, Result.andThen_ok, sizeOf, typeInfo, hmap]
    by_cases h : len * n = 0
    · rw [h] at hf
      simp only [madeCells, Array.range_zero', List.map_toArray, List.map_nil] at hf
      simp [hi, hsz', h, hf, newRow, Array.range_zero']
    · simp [madeCells] at hf
      simp [hi, hsz', h, hf, newRow, zeroValue, typeInfo, hv, show ¬ 16777216 < len * n by omega]
  have htake : cs'.toList.take r.length = cs'.toList := by
    apply List.take_of_length_le
    simp; omega
  constructor
  · exact ⟨_, cs', e, len, hrun, by simp; omega, by simpa [htake] using hc', hn', by simp; omega, _, _, rfl, Nat.le_refl _, _, upm_self, rfl, rfl, rfl⟩
  · exact ⟨_, cs', e, len, hrun, by simp; omega, by simpa [htake] using hc', hn', by simp; omega, _, _, rfl, Nat.le_refl _, _, upm_self, fun _ => rfl⟩

end Go.Abs
