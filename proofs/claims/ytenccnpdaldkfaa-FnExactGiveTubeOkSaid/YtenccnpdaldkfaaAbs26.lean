/-
  The kinds of values of the program, and how they lie in cells; what its checks tell.
-/
import Derived.Test.YtenccnpdaldkfaaAbs25
namespace Go.Abs

structure Fld where
  name : ByteArray
  x : Int
  y : Int
structure Held where
  name : ByteArray
  tube : List Box
  next : List Box
structure Book where
  now : Int
  fields : List Fld
  held : List Held
structure Cell where
  x : Int
  y : Int
structure Wish where
  name : ByteArray
  quick : Int
  slow : Int
  from_ : Int
  by_ : Int
  late : Int
  ways : List (List Cell)
  levels : List Int
structure Choice where
  late : Int
  way : Int
  level : Int
structure Span where
  low : Int
  high : Int
/-- What holds somebody in memory: a name, and two slices. -/
structure HeldC where
  name : ByteArray
  t : Ce
  x : Ce
structure BookC where
  now : Int
  f : Ce
  hd : Ce
structure WishC where
  name : ByteArray
  quick : Int
  slow : Int
  from_ : Int
  by_ : Int
  late : Int
  w : Ce
  l : Ce

instance : Inhabited Box := ⟨⟨0, 0, 0, 0, 0, 0⟩⟩
instance : Inhabited Fld := ⟨⟨⟨#[]⟩, 0, 0⟩⟩
instance : Inhabited Cell := ⟨⟨0, 0⟩⟩
instance : Inhabited Held := ⟨⟨⟨#[]⟩, [], []⟩⟩

def fBox : Fl Box := ⟨6, fun b => [.int .i64 b.x, .int .i64 b.y, .int .i64 b.low, .int .i64 b.high, .int .i64 b.tin, .int .i64 b.tout], fun _ => rfl, by decide⟩
def fField : Fl Fld := ⟨3, fun f => [.str f.name, .int .i64 f.x, .int .i64 f.y], fun _ => rfl, by decide⟩
def fHeld : Fl HeldC := ⟨3, fun f => [.str f.name, f.t, f.x], fun _ => rfl, by decide⟩
def fCell : Fl Cell := ⟨2, fun f => [.int .i64 f.x, .int .i64 f.y], fun _ => rfl, by decide⟩
def fChoice : Fl Choice := ⟨3, fun f => [.int .i64 f.late, .int .i64 f.way, .int .i64 f.level], fun _ => rfl, by decide⟩
def fSpan : Fl Span := ⟨2, fun f => [.int .i64 f.low, .int .i64 f.high], fun _ => rfl, by decide⟩
def fInt : Fl Int := ⟨1, fun n => [.int .i64 n], fun _ => rfl, by decide⟩
def fBool : Fl Bool := ⟨1, fun n => [.bool n], fun _ => rfl, by decide⟩
def fStr : Fl ByteArray := ⟨1, fun n => [.str n], fun _ => rfl, by decide⟩
def fByte : Fl UInt8 := ⟨1, fun n => [.int .u8 n.toNat], fun _ => rfl, by decide⟩
/-- A slice in a cell of its own (a way). -/
def fCe : Fl Ce := ⟨1, fun n => [n], fun _ => rfl, by decide⟩

def BookC.ces (b : BookC) : List Ce := [.int .i64 b.now, b.f, b.hd]
def WishC.ces (w : WishC) : List Ce := [.str w.name, .int .i64 w.quick, .int .i64 w.slow, .int .i64 w.from_, .int .i64 w.by_, .int .i64 w.late, w.w, w.l]

structure RdHeld (S : Nat → Prop) (h : Heap) (c : HeldC) (a : Held) : Prop where
  name : c.name = a.name
  t : RdF fBox S h c.t a.tube
  x : RdF fBox S h c.x a.next
structure RdBook (S : Nat → Prop) (h : Heap) (c : BookC) (b : Book) : Prop where
  now : c.now = b.now
  f : RdF fField S h c.f b.fields
  hd : ∃ hs : List HeldC, RdF fHeld S h c.hd hs ∧ hs.length = b.held.length ∧ ∀ i (hi : i < hs.length) (hi' : i < b.held.length), RdHeld S h hs[i] b.held[i]
structure RdWish (S : Nat → Prop) (h : Heap) (c : WishC) (w : Wish) : Prop where
  name : c.name = w.name
  quick : c.quick = w.quick
  slow : c.slow = w.slow
  from_ : c.from_ = w.from_
  by_ : c.by_ = w.by_
  late : c.late = w.late
  ws : ∃ ws : List Ce, RdF fCe S h c.w ws ∧ ws.length = w.ways.length ∧ ∀ i (hi : i < ws.length) (hi' : i < w.ways.length), RdF fCell S h ws[i] w.ways[i]
  ls : RdF fInt S h c.l w.levels

section
variable {S S' : Nat → Prop} {h h' : Heap}
theorem RdHeld.frame {c : HeldC} {a : Held} (hf : ∀ b, S b → h'.hp b = h.hp b) (hr : RdHeld S h c a) : RdHeld S h' c a := ⟨hr.name, hr.t.frame hf, hr.x.frame hf⟩
theorem RdHeld.mono {c : HeldC} {a : Held} (hf : ∀ b, S b → S' b) (hr : RdHeld S h c a) : RdHeld S' h c a := ⟨hr.name, hr.t.mono hf, hr.x.mono hf⟩
theorem RdBook.frame {c : BookC} {a : Book} (hf : ∀ b, S b → h'.hp b = h.hp b) (hr : RdBook S h c a) : RdBook S h' c a := by
  obtain ⟨hs, h1, h2, h3⟩ := hr.hd
  exact ⟨hr.now, hr.f.frame hf, hs, h1.frame hf, h2, fun i hi hi' => (h3 i hi hi').frame hf⟩
theorem RdBook.mono {c : BookC} {a : Book} (hf : ∀ b, S b → S' b) (hr : RdBook S h c a) : RdBook S' h c a := by
  obtain ⟨hs, h1, h2, h3⟩ := hr.hd
  exact ⟨hr.now, hr.f.mono hf, hs, h1.mono hf, h2, fun i hi hi' => (h3 i hi hi').mono hf⟩
theorem RdBook.fr {c : BookC} {a : Book} (hr : RdBook S h c a) (f : Fr h h') (hs : ∀ b, S b → b < h.nx) : RdBook S h' c a := hr.frame fun b hb => f.hp b (hs b hb)
theorem RdWish.frame {c : WishC} {a : Wish} (hf : ∀ b, S b → h'.hp b = h.hp b) (hr : RdWish S h c a) : RdWish S h' c a := by
  obtain ⟨hs, h1, h2, h3⟩ := hr.ws
  exact ⟨hr.name, hr.quick, hr.slow, hr.from_, hr.by_, hr.late, ⟨hs, h1.frame hf, h2, fun i hi hi' => (h3 i hi hi').frame hf⟩, hr.ls.frame hf⟩
theorem RdWish.mono {c : WishC} {a : Wish} (hf : ∀ b, S b → S' b) (hr : RdWish S h c a) : RdWish S' h c a := by
  obtain ⟨hs, h1, h2, h3⟩ := hr.ws
  exact ⟨hr.name, hr.quick, hr.slow, hr.from_, hr.by_, hr.late, ⟨hs, h1.mono hf, h2, fun i hi hi' => (h3 i hi hi').mono hf⟩, hr.ls.mono hf⟩
theorem RdWish.fr {c : WishC} {a : Wish} (hr : RdWish S h c a) (f : Fr h h') (hs : ∀ b, S b → b < h.nx) : RdWish S h' c a := hr.frame fun b hb => f.hp b (hs b hb)
end

end Go.Abs
