/-
  What the abstract machine's values and blocks stand for in the model's memory; and first lemmas.
-/
import Derived.Test.YtenccnpdaldkfaaAbs1
import Derived.Below
import Derived.ProofKit
namespace Go.Abs

structure Place where
  B : Nat
  O : Nat
  cap : Nat

abbrev Mp := Key → Option Place

def ConP (μ : Mp) (p : Key × Nat) (v : Value) : Prop :=
  ∃ pl, μ p.1 = some pl ∧ v = .pointer (some ⟨pl.B, pl.O + p.2, none⟩)

def ConPs (μ : Mp) : List (Key × Nat) → List Value → Prop
  | [], [] => True
  | p :: ps, v :: vs => ConP μ p v ∧ ConPs μ ps vs
  | _, _ => False

def ConC (μ : Mp) : Ce → Value → Prop
  | .int k n, v => v = .int k n
  | .bool b, v => v = .bool b
  | .str s, v => v = .string s
  | .nils, v => v = .slice none 0 0
  | .nilp, v => v = .pointer none
  | .ptr q o, v => ConP μ (q, o) v
  | .fn f ps, v => ∃ l : List Value, v = .func (.func f) #[] l.toArray ∧ ConPs μ ps l
  | .sl q o n m, v => ∃ a c, v = .slice a n c ∧ n ≤ c ∧ ∃ pl, μ q = some pl ∧
      match m with
      | .own => a = some ⟨pl.B, pl.O, none⟩ ∧ o = 0 ∧ c = pl.cap
      | .exact => (0 < n → a = some ⟨pl.B, pl.O + o, none⟩) ∧ c = n
      | .any => (0 < n → a = some ⟨pl.B, pl.O + o, none⟩)

def ConL (μ : Mp) : List Ce → List Value → Prop
  | [], [] => True
  | x :: xs, v :: vs => ConC μ x v ∧ ConL μ xs vs
  | _, _ => False

def noLocL : List Ce → Prop
  | [] => True
  | x :: r => x.noLoc = true ∧ noLocL r

def ConT (μ : Mp) : Tv → Value → Prop
  | .c x, v => ConC μ x v
  | .agg l, v => ∃ vs : List Value, v = .agg vs.toArray ∧ ConL μ l vs ∧ noLocL l

def ConTs (μ : Mp) : List Tv → List Value → Prop
  | [], [] => True
  | x :: xs, v :: vs => ConT μ x v ∧ ConTs μ xs vs
  | _, _ => False

def ConA (μ : Mp) : Av → Value → Prop
  | .v t, v => ConT μ t v
  | .tup l, v => ∃ vs : List Value, v = .tuple vs.toArray ∧ ConTs μ l vs
  | .no, _ => True

/-- One block of the abstract memory, at its place in the world. -/
def RowAt (μ : Mp) (w : World) (pl : Place) (r : Row) : Prop :=
  ∃ (cs : Array Value) (e : TypeId) (fr : Nat × Nat), w.heap[pl.B]? = some (.cells cs e fr) ∧ pl.O + r.cs.length ≤ cs.size ∧
    ConL μ r.cs ((cs.toList.drop pl.O).take r.cs.length) ∧ noLocL r.cs ∧
    (r.rw = true → pl.O = 0 ∧ fr = (0, 0) ∧ pl.cap * r.sz ≤ cs.size)

abbrev Mem := Key → Option Row

structure Sim (μ : Mp) (g : Mem) (w : World) : Prop where
  row : ∀ q pl r, μ q = some pl → g q = some r → RowAt μ w pl r
  apart : ∀ q q' pl pl' r r', q ≠ q' → μ q = some pl → μ q' = some pl' → g q = some r → g q' = some r' → r.rw = true → pl.B ≠ pl'.B

def Le (μ μ' : Mp) : Prop := ∀ q pl, μ q = some pl → μ' q = some pl
theorem Le.refl (μ : Mp) : Le μ μ := fun _ _ h => h
theorem Le.trans {a b c : Mp} (h : Le a b) (k : Le b c) : Le a c := fun q p hp => k q p (h q p hp)

theorem ConP.le {μ μ' : Mp} (h : Le μ μ') {p : Key × Nat} {v : Value} (k : ConP μ p v) : ConP μ' p v :=
  let ⟨pl, hp, e⟩ := k; ⟨pl, h _ _ hp, e⟩
theorem ConPs.le {μ μ' : Mp} (h : Le μ μ') : ∀ {ps : List (Key × Nat)} {vs : List Value}, ConPs μ ps vs → ConPs μ' ps vs
  | [], [], _ => trivial
  | _ :: _, _ :: _, k => ⟨k.1.le h, ConPs.le h k.2⟩
  | [], _ :: _, k => k.elim
  | _ :: _, [], k => k.elim
theorem ConC.le {μ μ' : Mp} (h : Le μ μ') {x : Ce} {v : Value} (k : ConC μ x v) : ConC μ' x v := by
  cases x with
  | ptr q o => exact ConP.le h k
  | fn f ps => obtain ⟨l, e, hl⟩ := k; exact ⟨l, e, hl.le h⟩
  | sl q o n m =>
    obtain ⟨a, c, e, hn, pl, hp, hm⟩ := k
    exact ⟨a, c, e, hn, pl, h _ _ hp, hm⟩
  | _ => exact k
theorem ConL.le {μ μ' : Mp} (h : Le μ μ') : ∀ {xs : List Ce} {vs : List Value}, ConL μ xs vs → ConL μ' xs vs
  | [], [], _ => trivial
  | _ :: _, _ :: _, k => ⟨k.1.le h, ConL.le h k.2⟩
  | [], _ :: _, k => k.elim
  | _ :: _, [], k => k.elim
theorem ConT.le {μ μ' : Mp} (h : Le μ μ') {x : Tv} {v : Value} (k : ConT μ x v) : ConT μ' x v := by
  cases x with
  | c x => exact ConC.le h k
  | agg l => obtain ⟨vs, e, hl, hn⟩ := k; exact ⟨vs, e, hl.le h, hn⟩
theorem ConTs.le {μ μ' : Mp} (h : Le μ μ') : ∀ {xs : List Tv} {vs : List Value}, ConTs μ xs vs → ConTs μ' xs vs
  | [], [], _ => trivial
  | _ :: _, _ :: _, k => ⟨k.1.le h, ConTs.le h k.2⟩
  | [], _ :: _, k => k.elim
  | _ :: _, [], k => k.elim
theorem ConA.le {μ μ' : Mp} (h : Le μ μ') {x : Av} {v : Value} (k : ConA μ x v) : ConA μ' x v := by
  cases x with
  | v t => exact ConT.le h k
  | tup l => obtain ⟨vs, e, hl⟩ := k; exact ⟨vs, e, hl.le h⟩
  | no => trivial

theorem ConL.length {μ : Mp} : ∀ {xs : List Ce} {vs : List Value}, ConL μ xs vs → xs.length = vs.length
  | [], [], _ => rfl
  | _ :: _, _ :: _, k => congrArg (· + 1) (ConL.length k.2)
  | [], _ :: _, k => k.elim
  | _ :: _, [], k => k.elim
theorem ConL.append {μ : Mp} : ∀ {xs ys : List Ce} {vs us : List Value}, ConL μ xs vs → ConL μ ys us → ConL μ (xs ++ ys) (vs ++ us)
  | [], _, [], _, _, k => k
  | _ :: _, _, _ :: _, _, h, k => ⟨h.1, ConL.append h.2 k⟩
  | [], _, _ :: _, _, h, _ => h.elim
  | _ :: _, _, [], _, h, _ => h.elim
theorem ConL.take {μ : Mp} : ∀ {xs : List Ce} {vs : List Value} (n : Nat), ConL μ xs vs → ConL μ (xs.take n) (vs.take n)
  | [], [], n, _ => by simp [ConL]
  | _ :: _, _ :: _, 0, _ => by simp [ConL]
  | _ :: _, _ :: _, n + 1, h => ⟨h.1, ConL.take n h.2⟩
  | [], _ :: _, _, h => h.elim
  | _ :: _, [], _, h => h.elim
theorem ConL.drop {μ : Mp} : ∀ {xs : List Ce} {vs : List Value} (n : Nat), ConL μ xs vs → ConL μ (xs.drop n) (vs.drop n)
  | [], [], n, _ => by simp [ConL]
  | _ :: _, _ :: _, 0, h => h
  | _ :: _, _ :: _, n + 1, h => by simpa using ConL.drop n h.2
  | [], _ :: _, _, h => h.elim
  | _ :: _, [], _, h => h.elim
theorem ConL.get {μ : Mp} : ∀ {xs : List Ce} {vs : List Value} (_ : ConL μ xs vs) (i : Nat) (x : Ce), xs[i]? = some x → ∃ v, vs[i]? = some v ∧ ConC μ x v
  | [], [], _, i, x, h => by simp at h
  | a :: _, b :: _, k, 0, x, h => by
    simp only [List.getElem?_cons_zero, Option.some.injEq] at h
    exact ⟨b, by simp, h ▸ k.1⟩
  | a :: _, b :: _, k, i + 1, x, h => by
    simp only [List.getElem?_cons_succ] at h ⊢
    exact ConL.get k.2 i x h
  | [], _ :: _, k, _, _, _ => k.elim
  | _ :: _, [], k, _, _, _ => k.elim

theorem noLocL.append : ∀ {xs ys : List Ce}, noLocL xs → noLocL ys → noLocL (xs ++ ys)
  | [], _, _, k => k
  | _ :: _, _, h, k => ⟨h.1, noLocL.append h.2 k⟩
theorem noLocL.take : ∀ {xs : List Ce} (n : Nat), noLocL xs → noLocL (xs.take n)
  | [], n, _ => by simp [noLocL]
  | _ :: _, 0, _ => by simp [noLocL]
  | _ :: _, n + 1, h => ⟨h.1, noLocL.take n h.2⟩
theorem noLocL.drop : ∀ {xs : List Ce} (n : Nat), noLocL xs → noLocL (xs.drop n)
  | [], n, _ => by simp [noLocL]
  | _ :: _, 0, h => h
  | _ :: _, n + 1, h => by simpa using noLocL.drop n h.2
theorem noLocL.get : ∀ {xs : List Ce} (_ : noLocL xs) (i : Nat) (x : Ce), xs[i]? = some x → x.noLoc = true
  | [], _, i, x, h => by simp at h
  | a :: _, k, 0, x, h => by
    simp only [List.getElem?_cons_zero, Option.some.injEq] at h
    exact h ▸ k.1
  | a :: _, k, i + 1, x, h => by
    simp only [List.getElem?_cons_succ] at h
    exact noLocL.get k.2 i x h

/-- A value that names no local block stands for the same under a map of heap blocks alone. -/
def hpOnly (μ : Mp) : Mp
  | .inl _ => none
  | .inr b => μ (.inr b)
theorem hpOnly_le (μ : Mp) : Le (hpOnly μ) μ := fun q pl h => by
  cases q with
  | inl k => simp [hpOnly] at h
  | inr b => exact h

theorem ConP.agree {μ μ' : Mp} {p : Key × Nat} {v : Value} (h : μ' p.1 = μ p.1) (k : ConP μ p v) : ConP μ' p v :=
  let ⟨pl, hp, e⟩ := k; ⟨pl, h.trans hp, e⟩
theorem ConPs.agree {μ μ' : Mp} (h : ∀ b, μ' (.inr b) = μ (.inr b)) : ∀ {ps : List (Key × Nat)} {vs : List Value}, ps.all (fun p => !keyLoc p.1) = true → ConPs μ ps vs → ConPs μ' ps vs
  | [], [], _, _ => trivial
  | p :: _, _ :: _, hl, k => by
    simp only [List.all_cons, Bool.and_eq_true] at hl
    refine ⟨k.1.agree ?_, ConPs.agree h hl.2 k.2⟩
    obtain ⟨q, o⟩ := p
    cases q with
    | inl k => simp [keyLoc] at hl
    | inr b => exact h b
  | [], _ :: _, _, k => k.elim
  | _ :: _, [], _, k => k.elim
theorem ConC.agree {μ μ' : Mp} (h : ∀ b, μ' (.inr b) = μ (.inr b)) {x : Ce} {v : Value} (hl : x.noLoc = true) (k : ConC μ x v) : ConC μ' x v := by
  cases x with
  | ptr q o =>
    cases q with
    | inl k => simp [Ce.noLoc, keyLoc] at hl
    | inr b => exact ConP.agree (h b) k
  | fn f ps => obtain ⟨l, e, hc⟩ := k; exact ⟨l, e, hc.agree h hl⟩
  | sl q o n m =>
    cases q with
    | inl k => simp [Ce.noLoc, keyLoc] at hl
    | inr b =>
      obtain ⟨a, c, e, hn, pl, hp, hm⟩ := k
      exact ⟨a, c, e, hn, pl, (h b).trans hp, hm⟩
  | _ => exact k
theorem ConL.agree {μ μ' : Mp} (h : ∀ b, μ' (.inr b) = μ (.inr b)) : ∀ {xs : List Ce} {vs : List Value}, noLocL xs → ConL μ xs vs → ConL μ' xs vs
  | [], [], _, _ => trivial
  | _ :: _, _ :: _, hl, k => ⟨k.1.agree h hl.1, ConL.agree h hl.2 k.2⟩
  | [], _ :: _, _, k => k.elim
  | _ :: _, [], _, k => k.elim
theorem ConT.agree {μ μ' : Mp} (h : ∀ b, μ' (.inr b) = μ (.inr b)) {x : Tv} {v : Value} (hl : x.noLoc = true) (k : ConT μ x v) : ConT μ' x v := by
  cases x with
  | c x => exact ConC.agree h hl k
  | agg l => obtain ⟨vs, e, hc, hn⟩ := k; exact ⟨vs, e, hc.agree h hn, hn⟩
theorem ConTs.agree {μ μ' : Mp} (h : ∀ b, μ' (.inr b) = μ (.inr b)) : ∀ {xs : List Tv} {vs : List Value}, xs.all Tv.noLoc = true → ConTs μ xs vs → ConTs μ' xs vs
  | [], [], _, _ => trivial
  | _ :: _, _ :: _, hl, k => by
    simp only [List.all_cons, Bool.and_eq_true] at hl
    exact ⟨k.1.agree h hl.1, ConTs.agree h hl.2 k.2⟩
  | [], _ :: _, _, k => k.elim
  | _ :: _, [], _, k => k.elim
theorem ConA.agree {μ μ' : Mp} (h : ∀ b, μ' (.inr b) = μ (.inr b)) {x : Av} {v : Value} (hl : x.noLoc = true) (k : ConA μ x v) : ConA μ' x v := by
  cases x with
  | v t => exact ConT.agree h hl k
  | tup l => obtain ⟨vs, e, hc⟩ := k; exact ⟨vs, e, hc.agree h hl⟩
  | no => trivial

/-- What a step leaves alone: all but the blocks that may be written. -/
structure Frm (μ : Mp) (g : Mem) (w w' : World) : Prop where
  os : w'.os = w.os
  tape : w'.tape = w.tape
  output : w'.output = w.output
  size : w.heap.size ≤ w'.heap.size
  block : ∀ B, B < w.heap.size → (∀ q pl r, μ q = some pl → g q = some r → r.rw = true → pl.B ≠ B) → w'.heap[B]? = w.heap[B]?

theorem Frm.refl (μ : Mp) (g : Mem) (w : World) : Frm μ g w w := ⟨rfl, rfl, rfl, Nat.le_refl _, fun _ _ _ => rfl⟩

end Go.Abs
