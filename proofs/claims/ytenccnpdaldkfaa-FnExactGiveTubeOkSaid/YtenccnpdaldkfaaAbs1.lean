/-
  The abstract machine: what a Go function of plain data does, over blocks that have names and no addresses, in the order of the text.
  Definitions alone; what they have to do with the model stands in the texts behind this one.
-/
import Derived.Calls
import Derived.Orders
namespace Go.Abs

/-- A block's name: a local variable's (by the slot that holds its address), or one of the heap. -/
abbrev Key := Sum Nat Nat

inductive Md where
  | own
  | exact
  | any

/-- What one cell holds. -/
inductive Ce where
  | int (k : IntKind) (n : Int)
  | bool (b : Bool)
  | str (s : ByteArray)
  | nils
  | sl (q : Key) (o n : Nat) (m : Md)
  | nilp
  | ptr (q : Key) (o : Nat)
  | fn (f : Nat) (ps : List (Key × Nat))

inductive Tv where
  | c (x : Ce)
  | agg (l : List Ce)

inductive Av where
  | v (t : Tv)
  | tup (l : List Tv)
  | no

structure Row where
  cs : List Ce
  sz : Nat
  rw : Bool

structure Heap where
  nx : Nat
  hp : Nat → Option Row

structure St where
  h : Heap
  lc : Nat → Option Row

def St.get (s : St) : Key → Option Row
  | .inl k => s.lc k
  | .inr b => s.h.hp b

def Heap.get (h : Heap) : Key → Option Row
  | .inl _ => none
  | .inr b => h.hp b

def upd {α : Type} (f : Nat → α) (i : Nat) (v : α) : Nat → α := fun j => if j = i then v else f j

def upo {α : Type} (f : Nat → α) (i : Option Nat) (v : α) : Nat → α :=
  match i with
  | some i => upd f i v
  | none => f

def St.set (s : St) (q : Key) (r : Option Row) : St :=
  match q with
  | .inl k => { s with lc := upd s.lc k r }
  | .inr b => { s with h := { s.h with hp := upd s.h.hp b r } }

/-- A new block of the heap. -/
def Heap.push (h : Heap) (r : Row) : Heap := { nx := h.nx + 1, hp := upd h.hp h.nx (some r) }
def St.push (s : St) (r : Row) : St := { s with h := s.h.push r }

abbrev Env := Nat → Option (List Av → Heap → Option (Av × Heap))

def keyLoc : Key → Bool
  | .inl _ => true
  | .inr _ => false

def Ce.noLoc : Ce → Bool
  | .sl q _ _ _ => !keyLoc q
  | .ptr q _ => !keyLoc q
  | .fn _ ps => ps.all fun p => !keyLoc p.1
  | _ => true

def Tv.noLoc : Tv → Bool
  | .c x => x.noLoc
  | .agg _ => true

def Av.noLoc : Av → Bool
  | .v t => t.noLoc
  | .tup l => l.all Tv.noLoc
  | .no => false

def Tv.cells : Tv → List Ce
  | .c x => [x]
  | .agg l => l

inductive Opd where
  | t (n : Nat)
  | k (v : Av)

def ev (T : Nat → Av) : Opd → Av
  | .t n => T n
  | .k v => v

inductive AOp where
  | mov (x : Opd)
  | pick (c a b : Opd)
  | allocL (sz : Nat) (zero : List Ce)
  | allocH (sz : Nat) (zero : List Ce)
  | boxL (sz : Nat) (x : Opd)
  | boxH (sz : Nat) (x : Opd)
  | build (zero : List Ce) (parts : List (Nat × Nat × Opd))
  | mkSlL (sz len : Nat) (zero : List Ce) (parts : List (Nat × Nat × Opd))
  | mkSlH (sz len : Nat) (zero : List Ce) (parts : List (Nat × Nat × Opd))
  | load1 (x : Opd)
  | loadN (n : Nat) (x : Opd)
  | store (n : Nat) (a x : Opd)
  | nilchk (x : Opd)
  | bin (op : BinOp) (x y : Opd)
  | binB (neg : Bool) (x y : Opd)
  | binS (ks : List Nat) (neg : Bool) (x y : Opd)
  | un (op : UnOp) (x : Opd)
  | conv (k : IntKind) (x : Opd)
  | convSB (x : Opd)
  | mkfn (f : Nat) (ps : List Opd)
  | make (sz : Nat) (zero : List Ce) (len cap : Opd)
  | slice (sz : Nat) (x : Opd) (lo hi mx : Option Opd)
  | sliceS (x : Opd) (lo hi : Option Opd)
  | faddr (off : Nat) (x : Opd)
  | iaddr (sz : Nat) (x i : Opd)
  | indexS (x i : Opd)
  | extract (x : Opd) (i : Nat)
  | call (f : Nat) (xs : List Opd)
  | callV (f : Opd) (xs : List Opd)
  | len (x : Opd)
  | lenS (x : Opd)
  | append (sz : Nat) (x y : Opd)
  | maxs (xs : List Opd)
  | mins (xs : List Opd)
  | bad

def Av.ce? : Av → Option Ce
  | .v (.c x) => some x
  | _ => none
def Av.agg? : Av → Option (List Ce)
  | .v (.agg l) => some l
  | _ => none
def Av.tv? : Av → Option Tv
  | .v t => some t
  | _ => none
def Av.bool? : Av → Option Bool
  | .v (.c (.bool b)) => some b
  | _ => none
def Av.int? : Av → Option Int
  | .v (.c (.int _ n)) => some n
  | _ => none
def Av.int64? : Av → Option Int
  | .v (.c (.int .i64 n)) => some n
  | _ => none
def Av.ptr? : Av → Option (Key × Nat)
  | .v (.c (.ptr q o)) => some (q, o)
  | _ => none
def Av.str? : Av → Option ByteArray
  | .v (.c (.str s)) => some s
  | _ => none

def binCe (op : BinOp) : Ce → Ce → Option Ce
  | .int k a, .int k' b =>
    if k = k' then
      match op with
      | .add => some (.int k (k.wrap (a + b)))
      | .sub => some (.int k (k.wrap (a - b)))
      | .mul => some (.int k (k.wrap (a * b)))
      | .quo => if b = 0 then none else some (.int k (k.wrap (a.tdiv b)))
      | .rem => if b = 0 then none else some (.int k (a.tmod b))
      | .xor => some (.int k (k.wrap (BitVec.ofInt k.bits a ^^^ BitVec.ofInt k.bits b).toNat))
      | .eql => some (.bool (a == b))
      | .neq => some (.bool (a != b))
      | .lss => some (.bool (decide (a < b)))
      | .leq => some (.bool (decide (a ≤ b)))
      | .gtr => some (.bool (decide (a > b)))
      | .geq => some (.bool (decide (a ≥ b)))
      | _ => none
    else none
  | .str a, .str b =>
    match op with
    | .add => if a.size + b.size ≤ 9223372036854775807 then some (.str (a ++ b)) else none
    | .eql => some (.bool (a.toList == b.toList))
    | .neq => some (.bool (!(a.toList == b.toList)))
    | .lss => some (.bool (Op.bytesLess a.toList b.toList))
    | .leq => some (.bool (Op.bytesLess a.toList b.toList || a.toList == b.toList))
    | .gtr => some (.bool (!(Op.bytesLess a.toList b.toList || a.toList == b.toList)))
    | .geq => some (.bool (!(Op.bytesLess a.toList b.toList)))
    | _ => none
  | _, _ => none

/-- Cells of whole numbers (0), bools (1) and texts (2), held against each other. -/
def eqCes : List Nat → List Ce → List Ce → Option Bool
  | [], [], [] => some true
  | 0 :: ks, .int k a :: x, .int k' b :: y => if k = k' ∧ x.length = ks.length ∧ y.length = ks.length then (if a == b then eqCes ks x y else some false) else none
  | 1 :: ks, .bool a :: x, .bool b :: y => if x.length = ks.length ∧ y.length = ks.length then (if a == b then eqCes ks x y else some false) else none
  | 2 :: ks, .str a :: x, .str b :: y => if x.length = ks.length ∧ y.length = ks.length then (if a.toList == b.toList then eqCes ks x y else some false) else none
  | _, _, _ => none

def unAv (op : UnOp) : Av → Option Av
  | .v (.c (.int k n)) => match op with
    | .neg => some (.v (.c (.int k (k.wrap (0 - n)))))
    | _ => none
  | .v (.c (.bool b)) => match op with
    | .not => some (.v (.c (.bool (!b))))
    | _ => none
  | _ => none

/-- Parts put into cells: each with its place, its size and its value. -/
def fillA (T : Nat → Av) (cs : List Ce) : List (Nat × Nat × Opd) → Option (List Ce)
  | [] => some cs
  | (off, n, x) :: r =>
    match (ev T x).tv? with
    | some t => if t.noLoc = true ∧ t.cells.length = n ∧ off + n ≤ cs.length then fillA T (cs.take off ++ t.cells ++ cs.drop (off + n)) r else none
    | none => none

def repl (n : Nat) (zero : List Ce) : List Ce := (List.replicate n zero).flatten

def bytesOfCes : List Ce → Option (List UInt8)
  | [] => some []
  | .int .u8 n :: r => (bytesOfCes r).map (UInt8.ofNat n.toNat :: ·)
  | _ => none

/-- A slice's elements' cells, of elements of so many cells. -/
def St.elems (s : St) (sz : Nat) : Ce → Option (List Ce)
  | .nils => some []
  | .sl q o n _ =>
    match s.get q with
    | some r => if o + n * sz ≤ r.cs.length then some ((r.cs.drop o).take (n * sz)) else none
    | none => none
  | _ => none

def Ce.slen : Ce → Option Nat
  | .nils => some 0
  | .sl _ _ n _ => some n
  | _ => none

def lim : Nat := 4294967296

def appendA (s : St) (sz : Nat) (x y : Ce) : Option (Ce × St) :=
  match s.elems sz y, y.slen with
  | some new, some m =>
    match x with
    | .nils => if m = 0 then some (.nils, s) else if m ≤ lim then some (.sl (.inr s.h.nx) 0 m .own, s.push ⟨new, sz, true⟩) else none
    | .sl q o n .own =>
      match s.get q with
      | some r =>
        if o = 0 ∧ r.rw = true ∧ r.sz = sz ∧ r.cs.length = n * sz ∧ n + m ≤ lim ∧ keyLoc q = false then
          some (.sl (.inr s.h.nx) 0 (n + m) .own, (s.set q none).push ⟨r.cs ++ new, sz, true⟩)
        else none
      | none => none
    | .sl q o n .exact =>
      match s.get q with
      | some r => if 0 < m ∧ n + m ≤ lim ∧ o + n * sz ≤ r.cs.length then some (.sl (.inr s.h.nx) 0 (n + m) .own, s.push ⟨(r.cs.drop o).take (n * sz) ++ new, sz, true⟩) else none
      | none => none
    | _ => none
  | _, _ => none

def optInt (T : Nat → Av) (d : Nat) : Option Opd → Option Int
  | none => some d
  | some x => (ev T x).int?

def evs (T : Nat → Av) : List Opd → List Av
  | [] => []
  | x :: r => ev T x :: evs T r

def ints : List Av → Option (List Int)
  | [] => some []
  | .v (.c (.int .i64 n)) :: r => (ints r).map (n :: ·)
  | _ => none

def ptrs : List Av → Option (List (Key × Nat))
  | [] => some []
  | .v (.c (.ptr q o)) :: r => if keyLoc q = false then (ptrs r).map ((q, o) :: ·) else none
  | _ => none

def noLocs : List Av → Bool
  | [] => true
  | x :: r => x.noLoc && noLocs r

def callA (env : Env) (f : Nat) (xs : List Av) (s : St) : Option (Av × St) :=
  match env f with
  | some F => if noLocs xs = true then (F xs s.h).map fun p => (p.1, { s with h := p.2 }) else none
  | none => none

def aop (env : Env) (d : Option Nat) (T : Nat → Av) (s : St) : AOp → Option (Av × St)
  | .mov x => some (ev T x, s)
  | .pick c a b => (ev T c).bool?.map fun t => (if t then ev T a else ev T b, s)
  | .allocL sz zero => d.map fun d => (.v (.c (.ptr (.inl d) 0)), s.set (.inl d) (some ⟨zero, sz, true⟩))
  | .allocH sz zero => some (.v (.c (.ptr (.inr s.h.nx) 0)), s.push ⟨zero, sz, true⟩)
  | .boxL sz x => d.bind fun d => (ev T x).tv?.bind fun t =>
      if t.noLoc = true ∧ t.cells.length = sz then some (.v (.c (.ptr (.inl d) 0)), s.set (.inl d) (some ⟨t.cells, sz, true⟩)) else none
  | .boxH sz x => (ev T x).tv?.bind fun t =>
      if t.noLoc = true ∧ t.cells.length = sz then some (.v (.c (.ptr (.inr s.h.nx) 0)), s.push ⟨t.cells, sz, true⟩) else none
  | .build zero parts => (fillA T zero parts).map fun l => (.v (.agg l), s)
  | .mkSlL sz len zero parts => d.bind fun d => (fillA T (repl len zero) parts).map fun l => (.v (.c (.sl (.inl d) 0 len .any)), s.set (.inl d) (some ⟨l, sz, true⟩))
  | .mkSlH sz len zero parts => (fillA T (repl len zero) parts).map fun l => (.v (.c (.sl (.inr s.h.nx) 0 len .own)), s.push ⟨l, sz, true⟩)
  | .load1 x => (ev T x).ptr?.bind fun p => (s.get p.1).bind fun r => (r.cs[p.2]?).map fun c => (.v (.c c), s)
  | .loadN n x => (ev T x).ptr?.bind fun p => (s.get p.1).bind fun r => if p.2 + n ≤ r.cs.length then some (.v (.agg ((r.cs.drop p.2).take n)), s) else none
  | .store n a x => (ev T a).ptr?.bind fun p => (s.get p.1).bind fun r => (ev T x).tv?.bind fun t =>
      if r.rw = true ∧ t.noLoc = true ∧ t.cells.length = n ∧ p.2 + n ≤ r.cs.length then
        some (.tup [], s.set p.1 (some { r with cs := r.cs.take p.2 ++ t.cells ++ r.cs.drop (p.2 + n) })) else none
  | .nilchk x => (ev T x).ptr?.map fun _ => (ev T x, s)
  | .bin op x y => (ev T x).ce?.bind fun a => (ev T y).ce?.bind fun b => (binCe op a b).map fun r => (.v (.c r), s)
  | .binB neg x y => (ev T x).bool?.bind fun a => (ev T y).bool?.map fun b => (.v (.c (.bool (if neg then !(a == b) else a == b))), s)
  | .binS ks neg x y => (ev T x).agg?.bind fun a => (ev T y).agg?.bind fun b =>
      (eqCes ks a b).map fun r => (.v (.c (.bool (if neg then !r else r))), s)
  | .un op x => (unAv op (ev T x)).map fun r => (r, s)
  | .conv k x => (ev T x).int?.map fun n => (.v (.c (.int k (k.wrap n))), s)
  | .convSB x => (ev T x).ce?.bind fun a => (s.elems 1 a).bind fun l => (bytesOfCes l).map fun b => (.v (.c (.str ⟨b.toArray⟩)), s)
  | .mkfn f ps => (ptrs (evs T ps)).map fun l => (.v (.c (.fn f l)), s)
  | .make sz zero len cap => (ev T len).int64?.bind fun n => (ev T cap).int64?.bind fun m =>
      if n = m ∧ 0 ≤ n ∧ n ≤ lim then some (.v (.c (.sl (.inr s.h.nx) 0 n.toNat .own)), s.push ⟨repl n.toNat zero, sz, true⟩) else none
  | .slice sz x lo hi mx => (ev T x).ce?.bind fun a => a.slen.bind fun n =>
      (optInt T n mx).bind fun m => (match hi, mx with | none, some _ => none | _, _ => optInt T n hi).bind fun h => (optInt T 0 lo).bind fun l =>
      if 0 ≤ l ∧ l ≤ h ∧ h ≤ m ∧ m ≤ n then
        match a with
        | .sl q o _ _ => some (.v (.c (.sl q (o + l.toNat * sz) (h - l).toNat (match mx with | some _ => if h = m then .exact else .any | none => .any))), s)
        | .nils => some (.v (.c .nils), s)
        | _ => none
      else none
  | .sliceS x lo hi => (ev T x).str?.bind fun a => (optInt T a.size hi).bind fun h => (optInt T 0 lo).bind fun l =>
      if 0 ≤ l ∧ l ≤ h ∧ h ≤ a.size then some (.v (.c (.str (a.extract l.toNat h.toNat))), s) else none
  | .faddr off x => (ev T x).ptr?.map fun p => (.v (.c (.ptr p.1 (p.2 + off))), s)
  | .iaddr sz x i => (ev T i).int?.bind fun j =>
      match ev T x with
      | .v (.c (.sl q o n _)) => if 0 ≤ j ∧ j < n then some (.v (.c (.ptr q (o + j.toNat * sz))), s) else none
      | _ => none
  | .indexS x i => (ev T x).str?.bind fun a => (ev T i).int?.bind fun j =>
      if 0 ≤ j then (a[j.toNat]?).map fun b => (.v (.c (.int .u8 b.toNat)), s) else none
  | .extract x i => match ev T x with
      | .tup l => (l[i]?).map fun t => (.v t, s)
      | _ => none
  | .call f xs => callA env f (evs T xs) s
  | .callV f xs => match ev T f with
      | .v (.c (.fn g ps)) => callA env g (evs T xs ++ ps.map fun p => .v (.c (.ptr p.1 p.2))) s
      | _ => none
  | .len x => match ev T x with
      | .v (.c .nils) => some (.v (.c (.int .i64 0)), s)
      | .v (.c (.sl _ _ n _)) => some (.v (.c (.int .i64 n)), s)
      | _ => none
  | .lenS x => (ev T x).str?.map fun a => (.v (.c (.int .i64 a.size)), s)
  | .append sz x y => (ev T x).ce?.bind fun a => (ev T y).ce?.bind fun b => (appendA s sz a b).map fun p => (.v (.c p.1), p.2)
  | .maxs xs => (ints (evs T xs)).bind fun l => match l with
      | [] => none
      | a :: r => some (.v (.c (.int .i64 (r.foldl (fun x y => if y > x then y else x) a))), s)
  | .mins xs => (ints (evs T xs)).bind fun l => match l with
      | [] => none
      | a :: r => some (.v (.c (.int .i64 (r.foldl (fun x y => if y < x then y else x) a))), s)
  | .bad => none

structure AO where
  dst : Option Nat
  op : AOp
  guard : Option (Nat × Bool)

/-- Is an operation carried out? Its guard: a slot, and what it must hold. -/
def wantedA (T : Nat → Av) (o : AO) : Option Bool :=
  match o.guard with
  | none => some true
  | some (t, b) =>
    match T t with
    | .v (.c (.bool x)) => some (x == b)
    | .tup _ => some false
    | _ => none

def stepO (env : Env) (o : AO) (p : (Nat → Av) × St) : Option ((Nat → Av) × St) :=
  match wantedA p.1 o with
  | some true => (aop env o.dst p.1 p.2 o.op).map fun r => (upo p.1 o.dst r.1, r.2)
  | some false => some (upo p.1 o.dst (.tup []), p.2)
  | none => none

def runOps (env : Env) : List AO → (Nat → Av) × St → Option ((Nat → Av) × St)
  | [], p => some p
  | o :: r, p => (stepO env o p).bind (runOps env r)

/-- A slot's value, once the local blocks ds are no more. -/
def killV (ds : List Nat) : Av → Av
  | .v (.c (.ptr (.inl k) o)) => if ds.contains k then .no else .v (.c (.ptr (.inl k) o))
  | .v (.c (.sl (.inl k) o n m)) => if ds.contains k then .no else .v (.c (.sl (.inl k) o n m))
  | .v (.c (.fn f ps)) => if ps.all (fun p => !keyLoc p.1) then .v (.c (.fn f ps)) else .no
  | .tup l => if l.all Tv.noLoc then .tup l else .no
  | x => x
def kill (ds : List Nat) (p : (Nat → Av) × St) : (Nat → Av) × St :=
  match ds with
  | [] => p
  | _ => (fun t => killV ds (p.1 t), { p.2 with lc := fun k => if ds.contains k then none else p.2.lc k })

/-- The block that a light operation reads, or makes. -/
def lightKey (T : Nat → Av) (s : St) (o : AO) : Option Key :=
  match o.op with
  | .load1 x | .loadN _ x => (ev T x).ptr?.map (·.1)
  | .allocL .. | .boxL .. | .mkSlL .. => o.dst.map .inl
  | .allocH .. | .boxH .. | .mkSlH .. | .make .. => some (.inr s.h.nx)
  | .convSB x => match (ev T x) with
    | .v (.c (.sl q _ _ _)) => some q
    | _ => none
  | _ => none

/-- The trace in the text's order. -/
def runTrace (env : Env) : List AO → (Nat → Av) × St → Option (List ((Nat → Av) × St))
  | [], p => some [p]
  | o :: r, p => (stepO env o p).bind fun p' => (runTrace env r p').map (p :: ·)

/-- In a region of open order: the heavy operation i leaves alone what the light one j leans on. -/
def chkPair (ops : List AO) (tr : List ((Nat → Av) × St)) (i j : Nat) : Prop :=
  match tr[j]?, ops[j]?, tr[i]?, tr[i + 1]? with
  | some pj, some o, some pi, some pi' =>
    match lightKey pj.1 pj.2 o with
    | some q => pi.2.get q = pi'.2.get q
    | none => True
  | _, _, _, _ => False

def chkAll (ops : List AO) (tr : List ((Nat → Av) × St)) : List (Nat × Nat) → Prop
  | [] => True
  | (i, j) :: r => chkPair ops tr i j ∧ chkAll ops tr r

open Classical in
noncomputable def runRegD (env : Env) (ops : List AO) (chk : List (Nat × Nat)) (p : (Nat → Av) × St) : Option ((Nat → Av) × St) :=
  (runTrace env ops p).bind fun tr => if chkAll ops tr chk then tr[ops.length]? else none

inductive Ex where
  | normal
  | exit (id : Nat)
  | ret

inductive ACode where
  | skip
  | reg (ds : List Nat) (ops : List AO)
  | regD (ds : List Nat) (ops : List AO) (chk : List (Nat × Nat))
  | seq (a b : ACode)
  | cond (c : Opd) (a b : ACode)
  | block (id : Nat) (a : ACode)
  | loop (a : ACode)
  | exit (id : Nat)
  | ret
  | bad

abbrev X := (Nat → Av) × St
abbrev R := Ex × X

def iter (f : X → Option R) : Nat → X → Option R
  | 0, _ => none
  | n + 1, x =>
    match f x with
    | some (.normal, y) => iter f n y
    | r => r

open Classical in
noncomputable def aloop (f : X → Option R) (x : X) : Option R :=
  if h : ∃ n, (iter f n x).isSome = true then iter f (Classical.choose h) x else none

noncomputable def aexec (env : Env) : ACode → X → Option R
  | .skip, x => some (.normal, x)
  | .reg ds ops, x => (runOps env ops (kill ds x)).map fun y => (.normal, y)
  | .regD ds ops chk, x => (runRegD env ops chk (kill ds x)).map fun y => (.normal, y)
  | .seq a b, x =>
    match aexec env a x with
    | some (.normal, y) => aexec env b y
    | r => r
  | .cond c a b, x =>
    match (ev x.1 c).bool? with
    | some t => if t then aexec env a x else aexec env b x
    | none => none
  | .block id a, x =>
    match aexec env a x with
    | some (.exit j, y) => if j = id then some (.normal, y) else some (.exit j, y)
    | r => r
  | .loop a, x => aloop (aexec env a) x
  | .exit id, x => some (.exit id, x)
  | .ret, x => some (.ret, x)
  | .bad, _ => none

/-- A result: a slot, or a variable whose address a slot holds (its size, if it is a struct). -/
inductive RV where
  | t (n : Nat)
  | cell1 (a : Nat)
  | cellN (a n : Nat)

def resA (x : X) : RV → Option Tv
  | .t n => (x.1 n).tv?.bind fun t => if t.noLoc = true then some t else none
  | .cell1 a => (x.1 a).ptr?.bind fun p => (x.2.get p.1).bind fun r => (r.cs[p.2]?).map .c
  | .cellN a n => (x.1 a).ptr?.bind fun p => (x.2.get p.1).bind fun r => if p.2 + n ≤ r.cs.length then some (.agg ((r.cs.drop p.2).take n)) else none

def ressA (x : X) : List RV → Option (List Tv)
  | [] => some []
  | v :: r => (resA x v).bind fun t => (ressA x r).map (t :: ·)

def resOf : List Tv → Av
  | [t] => .v t
  | l => .tup l

def argsT (args : List Av) : Nat → Av := fun t => args.getD t .no

noncomputable def runF (env : Env) (code : ACode) (rs : List RV) (args : List Av) (h : Heap) : Option (Av × Heap) :=
  (aexec env code (argsT args, ⟨h, fun _ => none⟩)).bind fun r =>
    match r.1 with
    | .exit _ => none
    | _ => (ressA r.2 rs).map fun l => (resOf l, r.2.2.h)

end Go.Abs
