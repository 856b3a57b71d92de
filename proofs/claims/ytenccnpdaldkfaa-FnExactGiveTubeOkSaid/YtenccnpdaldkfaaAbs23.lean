/-
  Readings of structs; a function's arguments; a law's row.
-/
import Derived.Test.YtenccnpdaldkfaaAbs22
import Derived.ChangeOld
import Derived.Below
import Derived.SizedLaws
import Derived.WalkKit
import Derived.ProofKit
namespace Go.Abs

variable {P : Program} {w : World}

/-- Fields one behind the other. -/
structure CodS (P : Program) (off : Nat) (fs : List Field) (α : Type) where
  sz : Nat
  rel : Heap → List Ce → α → Prop
  opn : ∀ {H : Type} {enc : TypeId × Value → H} {w : World} {base : Nat} {spare : Nat → Bool} {held : Bool} {fuel : Nat} {cs : List Value} {M : Nat}, Big w M →
    (∀ f ∈ fs, ∃ y, DataW.trod enc P w base spare held fuel f.type ((cs.drop f.offset).take (P.cellsOf f.type)) = some y) →
    ∃ l a, absL M ((cs.drop off).take sz) = some l ∧ l.length = sz ∧ rel (heapOf w M) l a

def CodS.nil {off : Nat} : CodS P off [] Unit where
  sz := 0
  rel := fun _ l _ => l = []
  opn := fun _ _ => ⟨[], (), by simp [absL], rfl, rfl⟩

def CodS.cons {off : Nat} {f : Field} {fs : List Field} {α β : Type} (hf : f.offset = off) (E : Cod P f.type α) (F : CodS P (off + E.sz) fs β) : CodS P off (f :: fs) (α × β) where
  sz := E.sz + F.sz
  rel := fun h l a => ∃ x y, l = x ++ y ∧ E.rel h x a.1 ∧ F.rel h y a.2
  opn := by
    intro H enc w base spare held fuel cs M hM h
    obtain ⟨y, hy⟩ := h f (by simp)
    obtain ⟨l, a, h1, h2, h3⟩ := E.opn hM hy
    obtain ⟨l', b, k1, k2, k3⟩ := F.opn (fuel := fuel) (cs := cs) hM (fun g hg => h g (by simp [hg]))
    refine ⟨l ++ l', (a, b), ?_, by simp [h2, k2], l, l', rfl, h3, k3⟩
    rw [List.take_add, List.drop_drop]
    rw [hf, E.szok] at h1
    exact absL_append h1 k1

def Cod.struct {t : TypeId} {fs : Array Field} {α β : Type} (ht : P.underlying t = some (.struct fs)) (F : CodS P 0 fs.toList α) (hc : P.cellsOf t = F.sz) (hp : 0 < F.sz) (g : α → β) (k : β → α) (hk : ∀ a, k (g a) = a) : Cod P t β where
  sz := F.sz
  rel := fun h l b => F.rel h l (k b)
  szok := hc
  pos := hp
  opn := by
    intro H enc w base spare held fuel cs x M hM h
    obtain ⟨xs, n, _, _, hlen, hl, hat⟩ := DataW.trod_struct ht h
    obtain ⟨l, a, h1, h2, h3⟩ := F.opn (fuel := n) (cs := cs) hM (fun f hf => by
      obtain ⟨i, hi⟩ := List.getElem?_of_mem hf
      have hi' : fs[i]? = some f := by simpa using hi
      have hil : i < xs.length := by
        have := (Array.getElem?_eq_some_iff.1 hi').1
        omega
      exact ⟨xs[i], by rw [hat i f hi', List.getElem?_eq_getElem hil]⟩)
    refine ⟨l, g a, ?_, h2, by rw [hk]; exact h3⟩
    rw [List.drop_zero, ← hc, ← hlen, List.take_length] at h1
    exact h1

/-- One argument: its reading as a value of the abstract machine. -/
def RdT {α : Type} (E : Elt α) (one : Bool) (h : Heap) (x : Av) (a : α) : Prop :=
  if one then ∃ c, x = .v (.c c) ∧ E.rel h [c] a else ∃ l, x = .v (.agg l) ∧ E.rel h l a

theorem open_one {t : TypeId} {α : Type} (E : Cod P t α) (hs : E.sz = 1) {H : Type} {enc : TypeId × Value → H} {base : Nat} {spare : Nat → Bool} {held : Bool} {v : Value} {d : DataW H} {ps : List MemPlace} {M : Nat} (hM : Big w M) (hv : v.cells = #[v])
    (h : DataW.Trod enc P w base spare held t v d ps) : ∃ x a, ConA (mapOf M) x v ∧ RdT E.toElt true (heapOf w M) x a := by
  obtain ⟨fuel, hf⟩ := h
  obtain ⟨l, a, h1, h2, h3⟩ := E.opn hM hf
  rw [hv] at h1
  simp only [absL, Option.bind_eq_some_iff, Option.map_eq_some_iff, Option.some.injEq] at h1
  obtain ⟨c, hc, _, rfl, rfl⟩ := h1
  exact ⟨.v (.c c), a, (absC_con hM.1 hc).1, c, rfl, h3⟩

theorem open_many {t : TypeId} {α : Type} (E : Cod P t α) {H : Type} {enc : TypeId × Value → H} {base : Nat} {spare : Nat → Bool} {held : Bool} {v : Value} {d : DataW H} {ps : List MemPlace} {M : Nat} (hM : Big w M) (hv : ∃ cs, v = .agg cs)
    (h : DataW.Trod enc P w base spare held t v d ps) : ∃ x a, ConA (mapOf M) x v ∧ RdT E.toElt false (heapOf w M) x a := by
  obtain ⟨fuel, hf⟩ := h
  obtain ⟨l, a, h1, h2, h3⟩ := E.opn hM hf
  obtain ⟨cs, rfl⟩ := hv
  obtain ⟨k1, k2, k3⟩ := absL_con hM.1 h1
  exact ⟨.v (.agg l), a, ⟨cs.toList, by simp [Value.cells], k1, k2⟩, l, rfl, h3⟩

/-- What a law's abstract function answers, its call answers; and it leaves all that was there alone. -/
theorem law_calls {f : FuncId} {F : Fun} (hs : Sound P f F) {M : Nat} (hM : Big w M) {xs : List Av} {vals : List Value} {b : Bool} {h' : Heap} (hx : ConAs (mapOf M) xs vals) (hF : F xs (heapOf w M) = some (.v (.c (.bool b)), h')) :
    Calls P f vals.toArray w fun e w' => e = .returned (.bool b) ∧ Go.RowKit.Below w.heap.size w w' := by
  refine (hs.run xs (heapOf w M) _ h' (mapOf M) w vals hF (fun k => rfl) ?_ (heapOf_sim hM.1) hx ?_).mono ?_
  · intro k h1 _
    simp only [heapOf] at h1
    simp only [mapOf]
    rw [if_neg (by omega)]
  · intro k h1
    simp only [heapOf] at h1 ⊢
    rw [if_neg (by omega)]
  · rintro e w' ⟨v', μ', rfl, hc, _, _, hfrm, _⟩
    obtain rfl : v' = .bool b := hc
    refine ⟨rfl, hfrm.os, hfrm.tape, hfrm.output, hfrm.size, fun B hB => hfrm.block B hB ?_⟩
    intro q pl r hq hr hrw
    exfalso
    cases q with
    | inl k => simp [mapOf] at hq
    | inr b =>
      simp only [Heap.get, heapOf] at hr
      split at hr
      · unfold rowOf at hr
        split at hr
        · split at hr
          · simp only [Option.some.injEq] at hr
            subst hr
            cases hrw
          · simp at hr
        · simp at hr
      · simp at hr

end Go.Abs
