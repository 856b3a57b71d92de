/-
  Tools for telling what an abstract function computes.
-/
import Derived.Test.YtenccnpdaldkfaaAbs20
namespace Go.Abs

variable {P : Program} {env : Env}

/-- The callees that a function reaches, by their numbers. -/
def envL : List (Nat × Fun) → Env
  | [] => fun _ => none
  | (g, F) :: r => fun f => if f = g then some F else envL r f

theorem envL_ok : ∀ {l : List (Nat × Fun)}, (∀ p ∈ l, Sound P p.1 p.2) → EnvOk P (envL l)
  | [], _, f, F, h => by simp [envL] at h
  | (g, G) :: r, hl, f, F, h => by
    simp only [envL] at h
    split at h
    · rename_i he
      simp only [Option.some.injEq] at h
      subst h he
      exact hl (f, G) (by simp)
    · exact envL_ok (fun p hp => hl p (by simp [hp])) f F h

theorem envL_cons (g : Nat) (G : Fun) (r : List (Nat × Fun)) (f : Nat) : envL ((g, G) :: r) f = if f = g then some G else envL r f := rfl
theorem envL_nil (f : Nat) : envL [] f = none := rfl

theorem argsT_zero (x : Av) (l : List Av) : argsT (x :: l) 0 = x := rfl
theorem argsT_succ (x : Av) (l : List Av) (n : Nat) : argsT (x :: l) (n + 1) = argsT l n := by simp [argsT]
theorem upd_eq {α : Type} (f : Nat → α) (i : Nat) (v : α) : upd f i v i = v := by simp [upd]
theorem upd_ne {α : Type} (f : Nat → α) (i j : Nat) (v : α) (h : (j == i) = false) : upd f i v j = f j := by simp at h; simp [upd, h]

theorem wrap_i64 {n : Int} (h1 : -9223372036854775808 ≤ n) (h2 : n ≤ 9223372036854775807) : IntKind.i64.wrap n = n := by
  simp [IntKind.wrap, IntKind.signed, IntKind.bits]
  omega

theorem iter_mono {f : X → Option R} : ∀ {n : Nat} {x : X} {r : R}, iter f n x = some r → ∀ m, n ≤ m → iter f m x = some r
  | 0, x, r, h, m, hm => by simp [iter] at h
  | n + 1, x, r, h, 0, hm => by omega
  | n + 1, x, r, h, m + 1, hm => by
    unfold iter at h ⊢
    split at h
    · exact iter_mono h m (by omega)
    · exact h

theorem aloop_of {f : X → Option R} {n : Nat} {x : X} {r : R} (h : iter f n x = some r) : aloop f x = some r := by
  have he : ∃ n, (iter f n x).isSome = true := ⟨n, by rw [h]; rfl⟩
  unfold aloop
  rw [dif_pos he]
  have hc := Classical.choose_spec he
  obtain ⟨r', hr'⟩ := Option.isSome_iff_exists.1 hc
  rw [hr']
  have h1 := iter_mono h (max n (Classical.choose he)) (Nat.le_max_left _ _)
  have h2 := iter_mono hr' (max n (Classical.choose he)) (Nat.le_max_right _ _)
  rw [h1] at h2
  exact h2.symm

/-- A loop of n rounds at most: each goes on, or leaves as Q says. -/
theorem loop_rounds {f : X → Option R} {I : Nat → X → Prop} {Q : Ex → X → Prop} (n : Nat) (step : ∀ i x, i ≤ n → I i x → ∃ e y, f x = some (e, y) ∧ ((e = .normal ∧ i < n ∧ I (i + 1) y) ∨ (e ≠ .normal ∧ Q e y))) :
    ∀ {x}, I 0 x → ∃ e y, aloop f x = some (e, y) ∧ Q e y := by
  have key : ∀ k i x, i + k = n → I i x → ∃ e y, iter f (k + 1) x = some (e, y) ∧ Q e y := by
    intro k
    induction k with
    | zero =>
      intro i x hi h
      obtain ⟨e, y, hf, h1 | h1⟩ := step i x (by omega) h
      · omega
      · refine ⟨e, y, ?_, h1.2⟩
        unfold iter
        rw [hf]
        cases e with
        | normal => exact absurd rfl h1.1
        | _ => rfl
    | succ k ih =>
      intro i x hi h
      obtain ⟨e, y, hf, h1 | h1⟩ := step i x (by omega) h
      · obtain ⟨rfl, h2, h3⟩ := h1
        obtain ⟨e', y', h4, h5⟩ := ih (i + 1) y (by omega) h3
        refine ⟨e', y', ?_, h5⟩
        rw [iter, hf]
        exact h4
      · refine ⟨e, y, ?_, h1.2⟩
        rw [iter, hf]
        cases e with
        | normal => exact absurd rfl h1.1
        | _ => rfl
  intro x h0
  obtain ⟨e, y, h1, h2⟩ := key n 0 x (by omega) h0
  exact ⟨e, y, aloop_of h1, h2⟩

/-- How a value of a type lies in cells. -/
structure Elt (α : Type) where
  sz : Nat
  rel : Heap → List Ce → α → Prop

/-- What a slice's cell stands for. -/
def RdSl {α : Type} (E : Elt α) (h : Heap) (c : Ce) (l : List α) : Prop :=
  (c = .nils ∧ l = []) ∨ (c = .sl (.inr 0) 0 0 .any ∧ l = []) ∨ ∃ b o m r, c = .sl (.inr b) o l.length m ∧ l.length ≤ 9223372036854775807 ∧ h.hp b = some r ∧ o + l.length * E.sz ≤ r.cs.length ∧ ∀ i a, l[i]? = some a → E.rel h ((r.cs.drop (o + i * E.sz)).take E.sz) a

end Go.Abs
