/-
  Out of a function's text in the model: its code for the abstract machine.
-/
import Derived.Test.YtenccnpdaldkfaaAbs2
namespace Go.Abs

def ceOf : Value → Option Ce
  | .int k n => some (.int k n)
  | .bool b => some (.bool b)
  | .string s => some (.str s)
  | .slice none 0 0 => some .nils
  | .pointer none => some .nilp
  | _ => none

def cesOf : List Value → Option (List Ce)
  | [] => some []
  | v :: r => (ceOf v).bind fun c => (cesOf r).map (c :: ·)

def avOf (v : Value) : Av :=
  match ceOf v with
  | some c => .v (.c c)
  | none =>
    match v with
    | .agg cs =>
      match cesOf cs.toList with
      | some l => .v (.agg l)
      | none => .no
    | _ => .no

def opdOf : Operand → Opd
  | .tmp t => .t t
  | .const v => .k (avOf v)
  | .func f => .k (.v (.c (.fn f [])))
  | .global _ => .k .no

def opdsOf : List Operand → List Opd
  | [] => []
  | x :: r => opdOf x :: opdsOf r

def szOf (P : Program) (t : TypeId) : Option Nat := (P.info? t).map (·.size)
def zeroOf (P : Program) (t : TypeId) : Option (List Ce) := (P.info? t).bind fun i => i.zero.bind fun z => cesOf z.cells.toList
def aggOf (P : Program) (t : TypeId) : Option Bool :=
  match P.underlying t with
  | some (.struct _) | some (.array _ _) => some true
  | some _ => some false
  | none => none
def smallOf (P : Program) (t : TypeId) : Bool :=
  match P.info? t with
  | some i => decide (i.bytes ≤ 4096) && decide (0 < i.bytes)
  | none => false

def partsOf (f : Nat → Option (Nat × Nat)) : List (Nat × Operand) → Option (List (Nat × Nat × Opd))
  | [] => some []
  | (i, x) :: r => (f i).bind fun p => (partsOf f r).map ((p.1, p.2, opdOf x) :: ·)

def placesOf (P : Program) (fs : List Field) : Option (List (Nat × Nat)) := fs.mapM fun f => (P.info? f.type).map fun i => (f.offset, i.size)

/-- Fields one behind the other, each of one cell: a whole number (0), a bool (1) or a text (2). -/
def flatKs (P : Program) : Nat → List Field → Option (List Nat)
  | _, [] => some []
  | i, f :: r =>
    if f.offset = i ∧ (f.name == "_") = false then
      match P.underlying f.type with
      | some (.int _) => (flatKs P (i + 1) r).map (0 :: ·)
      | some .bool => (flatKs P (i + 1) r).map (1 :: ·)
      | some .string => (flatKs P (i + 1) r).map (2 :: ·)
      | _ => none
    else none

def stripOp (P : Program) (loc : Bool) : Op → AOp
  | .move x | .assign x => .mov (opdOf x)
  | .pick c a b => .pick (opdOf c) (opdOf a) (opdOf b)
  | .alloc e =>
    match zeroOf P e, szOf P e with
    | some z, some n => if z.length = n then (if loc then .allocL n z else .allocH n z) else .bad
    | _, _ => .bad
  | .box e x =>
    match szOf P e with
    | some n => if loc then .boxL n (opdOf x) else .boxH n (opdOf x)
    | none => .bad
  | .build t parts =>
    match P.underlying t, zeroOf P t with
    | some (.struct fs), some z =>
      match placesOf P fs.toList with
      | some ps =>
        match partsOf (fun i => ps[i]?) parts.toList with
        | some l => .build z l
        | none => .bad
      | none => .bad
    | _, _ => .bad
  | .buildSlice t len parts =>
    match P.underlying t with
    | some (.slice e) =>
      match szOf P e, zeroOf P e with
      | some n, some z =>
        if z.length = n ∧ 0 < n ∧ len * n ≤ 16777216 then
          match partsOf (fun i => some (i * n, n)) parts.toList with
          | some l => if loc then .mkSlL n len z l else .mkSlH n len z l
          | none => .bad
        else .bad
      | _, _ => .bad
    | _ => .bad
  | .load t a =>
    match aggOf P t, szOf P t with
    | some true, some n => .loadN n (opdOf a)
    | some false, _ => .load1 (opdOf a)
    | _, _ => .bad
  | .store t a x =>
    match szOf P t with
    | some n => .store n (opdOf a) (opdOf x)
    | none => .bad
  | .nilCheck x => .nilchk (opdOf x)
  | .binOp op t x y _ =>
    match op with
    | .eql | .neq =>
      match P.underlying t with
      | some (.int _) | some .string => .bin op (opdOf x) (opdOf y)
      | some .bool => .binB (match op with | .neq => true | _ => false) (opdOf x) (opdOf y)
      | some (.struct fs) =>
        match flatKs P 0 fs.toList with
        | some ks => if P.stoodInHeld t = false ∧ P.eqGuardType P.depth t = false then .binS ks (match op with | .neq => true | _ => false) (opdOf x) (opdOf y) else .bad
        | none => .bad
      | _ => .bad
    | _ => .bin op (opdOf x) (opdOf y)
  | .unOp op _ x => .un op (opdOf x)
  | .convert s d x =>
    match P.underlying s, P.underlying d with
    | some (.int _), some (.int k) => .conv k (opdOf x)
    | some (.slice e), some .string =>
      match P.underlying e with
      | some (.int .u8) => .convSB (opdOf x)
      | _ => .bad
    | _, _ => .bad
  | .makeFunc (.func f) first captured => if first.size = 0 then .mkfn f (opdsOf captured.toList) else .bad
  | .makeSlice t l c =>
    match P.underlying t with
    | some (.slice e) =>
      match szOf P e, zeroOf P e with
      | some n, some z => if z.length = n ∧ 0 < n ∧ smallOf P e = true then .make n z (opdOf l) (opdOf c) else .bad
      | _, _ => .bad
    | _ => .bad
  | .slice t x lo hi mx =>
    match P.underlying t with
    | some (.slice e) =>
      match szOf P e with
      | some n => .slice n (opdOf x) (lo.map opdOf) (hi.map opdOf) (mx.map opdOf)
      | none => .bad
    | some .string => if mx.isNone then .sliceS (opdOf x) (lo.map opdOf) (hi.map opdOf) else .bad
    | _ => .bad
  | .fieldAddr s x f =>
    match P.underlying s with
    | some (.struct fs) =>
      match fs[f]? with
      | some fd =>
        match szOf P fd.type with
        | some n => if n = 0 then .bad else .faddr fd.offset (opdOf x)
        | none => .bad
      | none => .bad
    | _ => .bad
  | .indexAddr t x i =>
    match P.underlying t with
    | some (.slice e) =>
      match szOf P e with
      | some n => .iaddr n (opdOf x) (opdOf i)
      | none => .bad
    | _ => .bad
  | .index t x i =>
    match P.underlying t with
    | some .string => .indexS (opdOf x) (opdOf i)
    | _ => .bad
  | .extract x i => .extract (opdOf x) i
  | .call c =>
    match c.callee with
    | .value (.func f) => .call f (opdsOf c.args.toList)
    | .value x => .callV (opdOf x) (opdsOf c.args.toList)
    | .builtin .len =>
      match c.args.toList, c.argTypes.toList with
      | [x], [t] =>
        match P.underlying t with
        | some (.slice _) => .len (opdOf x)
        | some .string => .lenS (opdOf x)
        | _ => .bad
      | _, _ => .bad
    | .builtin .append =>
      match c.args.toList, c.argTypes.toList with
      | [x, y], [t, u] =>
        match P.underlying t, P.underlying u with
        | some (.slice e), some (.slice _) =>
          match szOf P e, zeroOf P e with
          | some n, some z => if z.length = n ∧ 0 < n ∧ smallOf P e = true then .append n (opdOf x) (opdOf y) else .bad
          | _, _ => .bad
        | _, _ => .bad
      | _, _ => .bad
    | .builtin .max => .maxs (opdsOf c.args.toList)
    | .builtin .min => .mins (opdsOf c.args.toList)
    | _ => .bad
  | _ => .bad

/-- The local blocks that a region makes. -/
def madeL (locs : List Nat) : List Oper → List Nat
  | [] => []
  | o :: r =>
    match o.op, o.dst with
    | .alloc _, some d | .box _ _, some d | .buildSlice _ _ _, some d => if locs.contains d then d :: madeL locs r else madeL locs r
    | _, _ => madeL locs r

def isLoc (locs : List Nat) (d : Option Nat) : Bool :=
  match d with
  | some d => locs.contains d
  | none => false

def guardOf (ops : Array Oper) (g : Option (Nat × Bool)) : Option (Option (Nat × Bool)) :=
  match g with
  | none => some none
  | some (j, b) => ((ops[j]?).bind (·.dst)).map fun t => some (t, b)

def dstOk (n : Nat) : Option Nat → Bool
  | some d => decide (d < n)
  | none => true

def stripO (P : Program) (locs : List Nat) (n : Nat) (ops : Array Oper) (o : Oper) : AO :=
  match guardOf ops o.guard with
  | some g => if dstOk n o.dst = true then ⟨o.dst, stripOp P (isLoc locs o.dst) o.op, g⟩ else ⟨o.dst, .bad, none⟩
  | none => ⟨o.dst, .bad, none⟩

def AOp.heavy : AOp → Bool
  | .store .. | .call .. | .callV .. | .append .. => true
  | _ => false
def AOp.light : AOp → Bool
  | .load1 .. | .loadN .. | .convSB .. | .allocL .. | .allocH .. | .boxL .. | .boxH .. | .mkSlL .. | .mkSlH .. | .make .. => true
  | _ => false

def directs (o : Oper) : List Nat := o.after.toList.filterMap fun e => if Region.binds .any e then some e.on else none

def dedup : List Nat → List Nat
  | [] => []
  | x :: r => if (dedup r).contains x then dedup r else x :: dedup r

/-- All that comes ahead of each, through others too. -/
def aheads : List (List Nat) → List (List Nat) → List (List Nat)
  | [], acc => acc
  | d :: r, acc => aheads r (acc ++ [dedup (d ++ d.flatMap fun k => acc.getD k [])])

def AOp.newLoc : AOp → Bool
  | .allocL .. | .boxL .. | .mkSlL .. => true
  | _ => false

/-- The pairs (a heavy one, a light one) whose order is open. -/
def openPairs (ops : List AO) (ah : List (List Nat)) : List (Nat × Nat) :=
  (List.range ops.length).flatMap fun i => (List.range ops.length).filterMap fun j =>
    match ops[i]?, ops[j]? with
    | some a, some b => if a.op.heavy && b.op.light && i != j && !(ah.getD j []).contains i && !(ah.getD i []).contains j then some (i, j) else none
    | _, _ => none

def opTmps (o : Oper) : List Nat := o.op.operands.toList.filterMap fun x => match x with | .tmp t => some t | _ => none
def guardTmps (ops : Array Oper) (o : Oper) : List Nat :=
  match o.guard with
  | some (j, _) => ((ops[j]?).bind (·.dst)).toList
  | none => []

/-- Are i and j in an order that the edges lay down, the one that comes first in the text ahead? -/
def inOrder (ah : List (List Nat)) (i j : Nat) : Bool := if i < j then (ah.getD j []).contains i else (ah.getD i []).contains j

/-- The heavy ones stand in one order; who writes a slot and who names it stand in an order; and each comes behind what the edges say. -/
def openOk (ops : Array Oper) (l : List AO) (ah : List (List Nat)) : Bool :=
  (List.range l.length).all fun i => (List.range l.length).all fun j =>
    i == j ||
      match l[i]?, l[j]?, ops[j]? with
      | some a, some b, some o =>
        (!(a.op.heavy && b.op.heavy) || inOrder ah i j) && !(a.op.newLoc && b.op.newLoc && a.dst == b.dst) &&
        (match a.dst with
          | some d => (!((opTmps o ++ guardTmps ops o).contains d) && b.dst != some d) || inOrder ah i j
          | none => true)
      | _, _, _ => true

/-- Each comes behind what stands ahead of it in the text alone. -/
def backOk (ops : Array Oper) : Bool := (List.range ops.size).all fun i => ((ops[i]?).map directs).all fun d => d.all fun k => decide (k < i)

def stripRegion (P : Program) (locs : List Nat) (n : Nat) (ops : Array Oper) (draw : Bool) : ACode :=
  let l := ops.toList.map (stripO P locs n ops)
  let ds := madeL locs ops.toList
  if ds.Nodup then
    if draw then
      let ah := aheads (ops.toList.map directs) []
      if openOk ops l ah = true ∧ backOk ops = true then .regD ds l (openPairs l ah) else .bad
    else .reg ds l
  else .bad

def strip (P : Program) (locs : List Nat) (n : Nat) : Code → ACode
  | .skip => .skip
  | .region _ ops draw => stripRegion P locs n ops draw
  | .seq a b => .seq (strip P locs n a) (strip P locs n b)
  | .cond c a b => .cond (opdOf c) (strip P locs n a) (strip P locs n b)
  | .block i a => .block i (strip P locs n a)
  | .loop a => .loop (strip P locs n a)
  | .exit i => .exit i
  | .ret => .ret
  | _ => .bad

def rvOf (P : Program) : ResultVar → Option RV
  | .tmp t => some (.t t)
  | .cell a t =>
    match aggOf P t, szOf P t with
    | some true, some n => some (.cellN a n)
    | some false, some _ => some (.cell1 a)
    | _, _ => none

def rvsOf (P : Program) : List ResultVar → Option (List RV)
  | [] => some []
  | r :: l => (rvOf P r).bind fun x => (rvsOf P l).map (x :: ·)

end Go.Abs
