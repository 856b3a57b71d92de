/-
  The arguments of the laws, as the abstract machine has them.
-/
import Derived.Test.YtenccnpdaldkfaaRows
import Derived.Test.YtenccnpdaldkfaaMainHead
import Derived.Test.YtenccnpdaldkfaaAbs29
import Derived.Test.YtenccnpdaldkfaaBoxSound
import Derived.WalkKit
import Derived.ProofKit
import Derived.OpenShut
import Derived.ChangeOld
import Derived.Below
import Derived.Carry
import Derived.SizedLaws
namespace Go.Proofs.Ytenccnpdaldkfaa.Open
open Go.ChangeShapes Go.WideShapes Go.ChangeAt Go.RowKit Go.Abs
set_option linter.unusedVariables false
theorem own : ownKnob Try.prog.godebug = none := by kernel_rfl
theorem laidOut : laidOutB Try.prog = true := by kernel_rfl

def cInt : Cod Try.prog 3 Int := Cod.int Try.underlying3 (by kernel_rfl)
def cBool : Cod Try.prog 4 Bool := Cod.bool Try.underlying4 (by kernel_rfl)
def cStr : Cod Try.prog 9 ByteArray := Cod.str Try.underlying9 (by kernel_rfl)
def cBox : Cod Try.prog 114 Box := Cod.struct Try.underlying114 (.cons rfl cInt (.cons rfl cInt (.cons rfl cInt (.cons rfl cInt (.cons rfl cInt (.cons rfl cInt .nil)))))) (by kernel_rfl) (by decide) (fun a => ⟨a.1, a.2.1, a.2.2.1, a.2.2.2.1, a.2.2.2.2.1, a.2.2.2.2.2.1⟩) (fun b => (b.x, b.y, b.low, b.high, b.tin, b.tout, ())) (fun _ => rfl)
def cBoxS : Cod Try.prog 23 (List Box) := Cod.slice Try.underlying23 (by kernel_rfl) cBox
theorem cBox_rel {h : Heap} {l : List Ce} {b : Box} (hr : cBox.rel h l b) : l = fBox.ces b := by
  obtain ⟨x1, y1, rfl, ⟨e1, _⟩, x2, y2, rfl, ⟨e2, _⟩, x3, y3, rfl, ⟨e3, _⟩, x4, y4, rfl, ⟨e4, _⟩, x5, y5, rfl, ⟨e5, _⟩, x6, y6, rfl, ⟨e6, _⟩, e7⟩ := hr
  subst e1 e2 e3 e4 e5 e6 e7
  rfl
theorem cBoxS_rd {h : Heap} {c : Ce} {l : List Box} (ho : HOk h) (hr : RdSl cBox.toElt h c l) : RdF fBox (fun b => b < h.nx) h c l := RdSl.toSame fBox ho rfl (fun _ _ => cBox_rel) hr
def cField : Cod Try.prog 117 Fld := Cod.struct Try.underlying117 (.cons rfl cStr (.cons rfl cInt (.cons rfl cInt .nil))) (by kernel_rfl) (by decide) (fun a => ⟨a.1, a.2.1, a.2.2.1⟩) (fun b => (b.name, b.x, b.y, ())) (fun _ => rfl)
def cFieldS : Cod Try.prog 32 (List Fld) := Cod.slice Try.underlying32 (by kernel_rfl) cField
theorem cField_rel {h : Heap} {l : List Ce} {b : Fld} (hr : cField.rel h l b) : l = fField.ces b ∧ SzS b.name := by
  obtain ⟨x1, y1, rfl, ⟨e1, es⟩, x2, y2, rfl, ⟨e2, _⟩, x3, y3, rfl, ⟨e3, _⟩, e7⟩ := hr
  subst e1 e2 e3 e7
  exact ⟨rfl, es⟩
theorem cFieldS_rd {h : Heap} {c : Ce} {l : List Fld} (ho : HOk h) (hr : RdSl cField.toElt h c l) : RdF fField (fun b => b < h.nx) h c l ∧ FieldsWf l := RdSl.toSameP fField ho rfl (fun _ _ => cField_rel) hr
def cHeld : Cod Try.prog 186 Held := Cod.struct Try.underlying186 (.cons rfl cStr (.cons rfl cBoxS (.cons rfl cBoxS .nil))) (by kernel_rfl) (by decide) (fun a => ⟨a.1, a.2.1, a.2.2.1⟩) (fun b => (b.name, b.tube, b.next, ())) (fun _ => rfl)
def cHeldS : Cod Try.prog 60 (List Held) := Cod.slice Try.underlying60 (by kernel_rfl) cHeld
theorem cHeld_rel {h : Heap} (ho : HOk h) {l : List Ce} {b : Held} (hr : cHeld.rel h l b) : ∃ a : HeldC, l = fHeld.ces a ∧ RdHeld (fun b => b < h.nx) h a b ∧ b.name.size ≤ 9223372036854775807 := by
  obtain ⟨x1, y1, rfl, ⟨e1, es⟩, x2, y2, rfl, ⟨c2, e2, r2⟩, x3, y3, rfl, ⟨c3, e3, r3⟩, e7⟩ := hr
  subst e1 e2 e3 e7
  exact ⟨⟨b.name, c2, c3⟩, rfl, ⟨rfl, cBoxS_rd ho r2, cBoxS_rd ho r3⟩, es⟩
def cBook : Cod Try.prog 62 Book := Cod.struct Try.underlying62 (.cons rfl cInt (.cons rfl cFieldS (.cons rfl cHeldS .nil))) (by kernel_rfl) (by decide) (fun a => ⟨a.1, a.2.1, a.2.2.1⟩) (fun b => (b.now, b.fields, b.held, ())) (fun _ => rfl)
theorem cBook_rel {h : Heap} (ho : HOk h) {l : List Ce} {b : Book} (hr : cBook.rel h l b) : ∃ a : BookC, l = a.ces ∧ RdBook (fun b => b < h.nx) h a b ∧ BookWf b := by
  obtain ⟨x1, y1, rfl, ⟨e1, es⟩, x2, y2, rfl, ⟨c2, e2, r2⟩, x3, y3, rfl, ⟨c3, e3, r3⟩, e7⟩ := hr
  subst e1 e2 e3 e7
  obtain ⟨bs, k1, k2, k3⟩ := RdSl.to fHeld ho rfl (fun cs a k => cHeld_rel ho k) r3
  obtain ⟨r2, w2⟩ := cFieldS_rd ho r2
  refine ⟨⟨b.now, c2, c3⟩, rfl, ⟨rfl, r2, bs, k1, k2, fun i hi hi' => (k3 i hi hi').1⟩, w2, fun a ha => ?_⟩
  obtain ⟨i, hi, rfl⟩ := List.getElem_of_mem ha
  exact (k3 i (Nat.lt_of_lt_of_le hi (Nat.le_of_eq k2.symm)) hi).2
def cCell : Cod Try.prog 209 Cell := Cod.struct Try.underlying209 (.cons rfl cInt (.cons rfl cInt .nil)) (by kernel_rfl) (by decide) (fun a => ⟨a.1, a.2.1⟩) (fun b => (b.x, b.y, ())) (fun _ => rfl)
def cCellS : Cod Try.prog 177 (List Cell) := Cod.slice Try.underlying177 (by kernel_rfl) cCell
theorem cCell_rel {h : Heap} {l : List Ce} {b : Cell} (hr : cCell.rel h l b) : l = fCell.ces b := by
  obtain ⟨x1, y1, rfl, ⟨e1, _⟩, x2, y2, rfl, ⟨e2, _⟩, e7⟩ := hr
  subst e1 e2 e7
  rfl
theorem cCellS_rd {h : Heap} {c : Ce} {l : List Cell} (ho : HOk h) (hr : RdSl cCell.toElt h c l) : RdF fCell (fun b => b < h.nx) h c l := RdSl.toSame fCell ho rfl (fun _ _ => cCell_rel) hr
def cWay : Cod Try.prog 179 (List Cell) := Cod.struct Try.underlying179 (.cons rfl cCellS .nil) (by kernel_rfl) (by decide) (fun a => a.1) (fun b => (b, ())) (fun _ => rfl)
def cWayS : Cod Try.prog 45 (List (List Cell)) := Cod.slice Try.underlying45 (by kernel_rfl) cWay
theorem cWay_rel {h : Heap} (ho : HOk h) {l : List Ce} {b : List Cell} (hr : cWay.rel h l b) : ∃ a : Ce, l = fCe.ces a ∧ RdF fCell (fun b => b < h.nx) h a b := by
  obtain ⟨x1, y1, rfl, ⟨c2, e2, r2⟩, e7⟩ := hr
  subst e2 e7
  exact ⟨c2, rfl, cCellS_rd ho r2⟩
def cIntS : Cod Try.prog 46 (List Int) := Cod.slice Try.underlying46 (by kernel_rfl) cInt
theorem cIntS_rd {h : Heap} {c : Ce} {l : List Int} (ho : HOk h) (hr : RdSl cInt.toElt h c l) : RdF fInt (fun b => b < h.nx) h c l := RdSl.toSame fInt ho rfl (fun cs a k => by obtain ⟨e, _⟩ := k; exact e) hr
def cWish : Cod Try.prog 48 Wish := Cod.struct Try.underlying48 (.cons rfl cStr (.cons rfl cInt (.cons rfl cInt (.cons rfl cInt (.cons rfl cInt (.cons rfl cInt (.cons rfl cWayS (.cons rfl cIntS .nil)))))))) (by kernel_rfl) (by decide) (fun a => ⟨a.1, a.2.1, a.2.2.1, a.2.2.2.1, a.2.2.2.2.1, a.2.2.2.2.2.1, a.2.2.2.2.2.2.1, a.2.2.2.2.2.2.2.1⟩) (fun b => (b.name, b.quick, b.slow, b.from_, b.by_, b.late, b.ways, b.levels, ())) (fun _ => rfl)
theorem cWish_rel {h : Heap} (ho : HOk h) {l : List Ce} {b : Wish} (hr : cWish.rel h l b) : ∃ a : WishC, l = a.ces ∧ RdWish (fun b => b < h.nx) h a b ∧ SzS b.name := by
  obtain ⟨x1, y1, rfl, ⟨e1, es⟩, x2, y2, rfl, ⟨e2, _⟩, x3, y3, rfl, ⟨e3, _⟩, x4, y4, rfl, ⟨e4, _⟩, x5, y5, rfl, ⟨e5, _⟩, x6, y6, rfl, ⟨e6, _⟩, x8, y8, rfl, ⟨c8, e8, r8⟩, x9, y9, rfl, ⟨c9, e9, r9⟩, e7⟩ := hr
  subst e1 e2 e3 e4 e5 e6 e8 e9 e7
  obtain ⟨bs, k1, k2, k3⟩ := RdSl.to fCe ho rfl (fun cs a k => cWay_rel ho k) r8
  exact ⟨⟨b.name, b.quick, b.slow, b.from_, b.by_, b.late, c8, c9⟩, rfl, ⟨rfl, rfl, rfl, rfl, rfl, rfl, ⟨bs, k1, k2, fun i hi hi' => k3 i hi hi'⟩, cIntS_rd ho r9⟩, es⟩
def cByte : Cod Try.prog 5 UInt8 where
  sz := 1
  rel := fun _ l n => l = [.int .u8 n.toNat]
  szok := by kernel_rfl
  pos := by decide
  opn := by
    intro H enc w base spare held fuel cs x M _ h
    obtain ⟨n, rfl, _, hw⟩ := DataW.trod_int Try.underlying5 h
    have hb : 0 ≤ n ∧ n ≤ 255 := by
      have h0 : IntKind.u8.min ≤ n ∧ n ≤ IntKind.u8.max := by simpa [Lit.wf] using hw
      have h1 : IntKind.u8.min = 0 := rfl
      have h2 : IntKind.u8.max = 255 := rfl
      rwa [h1, h2] at h0
    refine ⟨[.int .u8 n], UInt8.ofNat n.toNat, rfl, rfl, ?_⟩
    have : ((UInt8.ofNat n.toNat).toNat : Int) = n := by
      rw [UInt8.toNat_ofNat']
      omega
    rw [this]
def cByteS : Cod Try.prog 39 (List UInt8) := Cod.slice Try.underlying39 (by kernel_rfl) cByte
theorem cByteS_rd {h : Heap} {c : Ce} {l : List UInt8} (ho : HOk h) (hr : RdSl cByte.toElt h c l) : RdF fByte (fun b => b < h.nx) h c l := RdSl.toSame fByte ho rfl (fun _ _ k => k) hr

section
variable {H : Type} {enc : TypeId × Value → H} {W : World} {base : Nat} {spare : Nat → Bool} {held : Bool} {v : Value} {d : DataW H} {ps : List MemPlace} {M : Nat}
theorem openInt (hM : Big W M) (hv : ∃ n, v = .int .i64 n) (h : DataW.Trod enc Try.prog W base spare held 3 v d ps) :
    ∃ n, ConA (mapOf M) (.v (.c (.int .i64 n))) v ∧ -9223372036854775808 ≤ n ∧ n ≤ 9223372036854775807 := by
  obtain ⟨n, rfl⟩ := hv
  obtain ⟨x, l, hx, c, rfl, e, hc⟩ := open_one cInt rfl hM rfl h
  simp only [List.cons.injEq, and_true] at e
  subst e
  exact ⟨l, hx, hc⟩
theorem openBool (hM : Big W M) (hv : ∃ n, v = .bool n) (h : DataW.Trod enc Try.prog W base spare held 4 v d ps) :
    ∃ n, ConA (mapOf M) (.v (.c (.bool n))) v := by
  obtain ⟨n, rfl⟩ := hv
  exact ⟨n, rfl⟩
theorem openStr (hM : Big W M) (hv : ∃ n, v = .string n) (h : DataW.Trod enc Try.prog W base spare held 9 v d ps) :
    ∃ n, ConA (mapOf M) (.v (.c (.str n))) v ∧ n.size ≤ 9223372036854775807 := by
  obtain ⟨n, rfl⟩ := hv
  obtain ⟨x, l, hx, c, rfl, e, hc⟩ := open_one cStr rfl hM rfl h
  simp only [List.cons.injEq, and_true] at e
  subst e
  exact ⟨l, hx, hc⟩
theorem openBoxes (hM : Big W M) (hv : ∃ a n k, v = .slice a n k) (h : DataW.Trod enc Try.prog W base spare held 23 v d ps) :
    ∃ c l, ConA (mapOf M) (.v (.c c)) v ∧ RdF fBox (fun b => b < (heapOf W M).nx) (heapOf W M) c l := by
  obtain ⟨a, n, k, rfl⟩ := hv
  obtain ⟨x, l, hx, c, rfl, c', e, hr⟩ := open_one cBoxS rfl hM rfl h
  simp only [List.cons.injEq, and_true] at e
  subst e
  exact ⟨c, l, hx, cBoxS_rd (heapOf_ok W M) hr⟩
theorem openFields (hM : Big W M) (hv : ∃ a n k, v = .slice a n k) (h : DataW.Trod enc Try.prog W base spare held 32 v d ps) :
    ∃ c l, ConA (mapOf M) (.v (.c c)) v ∧ RdF fField (fun b => b < (heapOf W M).nx) (heapOf W M) c l ∧ FieldsWf l := by
  obtain ⟨a, n, k, rfl⟩ := hv
  obtain ⟨x, l, hx, c, rfl, c', e, hr⟩ := open_one cFieldS rfl hM rfl h
  simp only [List.cons.injEq, and_true] at e
  subst e
  exact ⟨c, l, hx, cFieldS_rd (heapOf_ok W M) hr⟩
theorem openBytes (hM : Big W M) (hv : ∃ a n k, v = .slice a n k) (h : DataW.Trod enc Try.prog W base spare held 39 v d ps) :
    ∃ c l, ConA (mapOf M) (.v (.c c)) v ∧ RdF fByte (fun b => b < (heapOf W M).nx) (heapOf W M) c l := by
  obtain ⟨a, n, k, rfl⟩ := hv
  obtain ⟨x, l, hx, c, rfl, c', e, hr⟩ := open_one cByteS rfl hM rfl h
  simp only [List.cons.injEq, and_true] at e
  subst e
  exact ⟨c, l, hx, cByteS_rd (heapOf_ok W M) hr⟩
theorem openBook (hM : Big W M) (hv : ∃ cs, v = .agg cs ∧ cs.size = Try.prog.cellsOf 62) (h : DataW.Trod enc Try.prog W base spare held 62 v d ps) :
    ∃ (c : BookC) (b : Book), ConA (mapOf M) (.v (.agg c.ces)) v ∧ RdBook (fun b => b < (heapOf W M).nx) (heapOf W M) c b ∧ BookWf b := by
  obtain ⟨cs, hv, _⟩ := hv
  obtain ⟨x, b, hx, l, rfl, hr⟩ := open_many cBook hM ⟨cs, hv⟩ h
  obtain ⟨c, rfl, hc⟩ := cBook_rel (heapOf_ok W M) hr
  exact ⟨c, b, hx, hc⟩
theorem openWish (hM : Big W M) (hv : ∃ cs, v = .agg cs ∧ cs.size = Try.prog.cellsOf 48) (h : DataW.Trod enc Try.prog W base spare held 48 v d ps) :
    ∃ (c : WishC) (b : Wish), ConA (mapOf M) (.v (.agg c.ces)) v ∧ RdWish (fun b => b < (heapOf W M).nx) (heapOf W M) c b ∧ SzS b.name := by
  obtain ⟨cs, hv, _⟩ := hv
  obtain ⟨x, b, hx, l, rfl, hr⟩ := open_many cWish hM ⟨cs, hv⟩ h
  obtain ⟨c, rfl, hc⟩ := cWish_rel (heapOf_ok W M) hr
  exact ⟨c, b, hx, hc⟩
end
end Go.Proofs.Ytenccnpdaldkfaa.Open
