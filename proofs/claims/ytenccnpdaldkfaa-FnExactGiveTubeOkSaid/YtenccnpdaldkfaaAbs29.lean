/-
  From the readings of arguments to slices of plain values.
-/
import Derived.Test.YtenccnpdaldkfaaAbs28
namespace Go.Abs

theorem list_choose {β : Type} {P : Nat → β → Prop} : ∀ n, (∀ i, i < n → ∃ b, P i b) → ∃ bs : List β, bs.length = n ∧ ∀ i (hi : i < bs.length), P i bs[i]
  | 0, _ => ⟨[], rfl, fun i hi => by simp at hi⟩
  | n + 1, h => by
    obtain ⟨bs, h1, h2⟩ := list_choose n (fun i hi => h i (by omega))
    obtain ⟨b, hb⟩ := h n (by omega)
    refine ⟨bs ++ [b], by simp [h1], fun i hi => ?_⟩
    by_cases hin : i < bs.length
    · rw [List.getElem_append_left hin]; exact h2 i hin
    · have : i = bs.length := by simp at hi; omega
      subst this
      rw [List.getElem_append_right (Nat.le_refl _)]
      simp only [Nat.sub_self, List.getElem_cons_zero]
      rw [h1]; exact hb
theorem Fl.all_chunks {α : Type} (F : Fl α) : ∀ (bs : List α) (cs : List Ce), cs.length = bs.length * F.sz → (∀ i (hi : i < bs.length), (cs.drop (i * F.sz)).take F.sz = F.ces bs[i]) → cs = F.all bs
  | [], cs, h, _ => by simpa [Fl.all] using h
  | b :: bs, cs, h, k => by
    have h0 := k 0 (by simp)
    simp only [Nat.zero_mul, List.drop_zero, List.getElem_cons_zero] at h0
    have h1 := Fl.all_chunks F bs (cs.drop F.sz) (by rw [List.length_drop, h, List.length_cons, Nat.succ_mul]; omega) (fun i hi => by
      have := k (i + 1) (by simpa using hi)
      rw [Nat.succ_mul, Nat.add_comm] at this
      rw [List.drop_drop]
      simpa using this)
    rw [F.all_cons, ← h1, ← h0, List.take_append_drop]
theorem RdSl.to {α β : Type} {E : Elt α} (F : Fl β) {R : β → α → Prop} {h : Heap} {c : Ce} {l : List α} (ho : HOk h) (hs : E.sz = F.sz) (hE : ∀ cs a, E.rel h cs a → ∃ b, cs = F.ces b ∧ R b a) (hr : RdSl E h c l) :
    ∃ bs : List β, RdF F (fun b => b < h.nx) h c bs ∧ bs.length = l.length ∧ ∀ i (hi : i < bs.length) (hi' : i < l.length), R bs[i] l[i] := by
  rcases hr with ⟨rfl, rfl⟩ | ⟨rfl, rfl⟩ | ⟨b, o, m, r, rfl, h2, h3, h4, h5⟩
  · exact ⟨[], ⟨by simp, .inl ⟨rfl, rfl⟩⟩, rfl, fun i hi => by simp at hi⟩
  · exact ⟨[], ⟨by simp, .inr (.inl ⟨rfl, rfl⟩)⟩, rfl, fun i hi => by simp at hi⟩
  · obtain ⟨bs, g1, g2⟩ := list_choose (P := fun i b => (r.cs.drop (o + i * E.sz)).take E.sz = F.ces b ∧ ∀ hi : i < l.length, R b l[i]) l.length (fun i hi => by
      obtain ⟨b, k1, k2⟩ := hE _ _ (h5 i l[i] (List.getElem?_eq_getElem hi))
      exact ⟨b, k1, fun _ => k2⟩)
    rw [hs] at h4 g2
    refine ⟨bs, ⟨by omega, .inr (.inr ⟨b, o, m, r, by rw [g1], ho.lt h3, h3, by rw [g1]; exact h4, ?_⟩)⟩, g1, fun i hi hi' => (g2 i hi).2 hi'⟩
    apply F.all_chunks
    · rw [List.length_take, List.length_drop, g1]; omega
    · intro i hi
      rw [← (g2 i hi).1, List.drop_take, List.take_take, List.drop_drop]
      congr 1
      have := Nat.mul_le_mul_right F.sz (show i + 1 ≤ bs.length from hi)
      rw [Nat.succ_mul] at this
      omega
theorem RdSl.toSame {α : Type} {E : Elt α} (F : Fl α) {h : Heap} {c : Ce} {l : List α} (ho : HOk h) (hs : E.sz = F.sz) (hE : ∀ cs a, E.rel h cs a → cs = F.ces a) (hr : RdSl E h c l) : RdF F (fun b => b < h.nx) h c l := by
  obtain ⟨bs, h1, h2, h3⟩ := RdSl.to F (R := fun b a => b = a) ho hs (fun cs a k => ⟨a, hE cs a k, rfl⟩) hr
  have : bs = l := List.ext_getElem h2 fun i hi hi' => h3 i hi hi'
  rwa [this] at h1
theorem RdSl.toSameP {α : Type} {E : Elt α} {p : α → Prop} (F : Fl α) {h : Heap} {c : Ce} {l : List α} (ho : HOk h) (hs : E.sz = F.sz) (hE : ∀ cs a, E.rel h cs a → cs = F.ces a ∧ p a) (hr : RdSl E h c l) : RdF F (fun b => b < h.nx) h c l ∧ ∀ a, a ∈ l → p a := by
  obtain ⟨bs, h1, h2, h3⟩ := RdSl.to F (R := fun b a => b = a ∧ p a) ho hs (fun cs a k => ⟨a, (hE cs a k).1, rfl, (hE cs a k).2⟩) hr
  have : bs = l := List.ext_getElem h2 fun i hi hi' => (h3 i hi hi').1
  subst this
  refine ⟨h1, fun a ha => ?_⟩
  obtain ⟨i, hi, rfl⟩ := List.getElem_of_mem ha
  exact (h3 i hi hi).2
theorem heapOf_ok (W : World) (M : Nat) : HOk (heapOf W M) := by
  intro b hb
  simp only [heapOf] at hb ⊢
  rw [if_neg (by omega)]

end Go.Abs
