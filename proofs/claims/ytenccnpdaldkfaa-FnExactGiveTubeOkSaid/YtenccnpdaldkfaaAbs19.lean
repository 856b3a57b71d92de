/-
  The whole code of a function.
-/
import Derived.LoopN
import Derived.Test.YtenccnpdaldkfaaAbs18
namespace Go.Abs

variable {P : Program} {env : Env} {B : Start} {locs : List Nat}

theorem kill_h (ds : List Nat) (p : (Nat → Av) × St) : (kill ds p).2.h = p.2.h := by
  cases ds <;> rfl

/-- A relation of heaps that each operation keeps. -/
structure Keeper (env : Env) (K : Heap → Heap → Prop) : Prop where
  refl : ∀ h, K h h
  trans : ∀ a b c, K a b → K b c → K a c
  step : ∀ o p p', stepO env o p = some p' → K p.2.h p'.2.h

variable {K : Heap → Heap → Prop}

theorem runOps_rel (hK : Keeper env K) : ∀ {l : List AO} {p p' : (Nat → Av) × St}, runOps env l p = some p' → K p.2.h p'.2.h
  | [], p, p', h => by
    simp only [runOps, Option.some.injEq] at h
    rw [h]
    exact hK.refl _
  | o :: l, p, p', h => by
    simp only [runOps, Option.bind_eq_some_iff] at h
    obtain ⟨p1, h1, h2⟩ := h
    exact hK.trans _ _ _ (hK.step o p p1 h1) (runOps_rel hK h2)

theorem trace_rel (hK : Keeper env K) : ∀ {l : List AO} {p : (Nat → Av) × St} {tr : List ((Nat → Av) × St)}, runTrace env l p = some tr → ∀ x ∈ tr, K p.2.h x.2.h
  | [], p, tr, h, x, hx => by
    simp only [runTrace, Option.some.injEq] at h
    rw [← h] at hx
    simp only [List.mem_singleton] at hx
    rw [hx]
    exact hK.refl _
  | o :: l, p, tr, h, x, hx => by
    simp only [runTrace, Option.bind_eq_some_iff, Option.map_eq_some_iff] at h
    obtain ⟨p1, h1, tr1, h2, rfl⟩ := h
    rcases List.mem_cons.1 hx with hx | hx
    · rw [hx]; exact hK.refl _
    · exact hK.trans _ _ _ (hK.step o p p1 h1) (trace_rel hK h2 x hx)

theorem runRegD_rel (hK : Keeper env K) {l : List AO} {chk : List (Nat × Nat)} {p p' : (Nat → Av) × St} (h : runRegD env l chk p = some p') : K p.2.h p'.2.h := by
  simp only [runRegD, Option.bind_eq_some_iff] at h
  obtain ⟨tr, htr, h⟩ := h
  split at h
  · exact trace_rel hK htr p' (List.mem_of_getElem? h)
  · simp at h

theorem iter_rel (hK : Keeper env K) {f : X → Option R} (hf : ∀ x e y, f x = some (e, y) → K x.2.h y.2.h) : ∀ (n : Nat) (x : X) (e : Ex) (y : X), iter f n x = some (e, y) → K x.2.h y.2.h
  | 0, x, e, y, h => by simp [iter] at h
  | n + 1, x, e, y, h => by
    unfold iter at h
    split at h
    · rename_i z hz
      exact hK.trans _ _ _ (hf x _ z hz) (iter_rel hK hf n z e y h)
    · exact hf x e y h

theorem aloop_iter {f : X → Option R} {x : X} {r : R} (h : aloop f x = some r) : ∃ n, iter f n x = some r := by
  unfold aloop at h
  split at h
  · exact ⟨_, h⟩
  · simp at h

theorem code_rel (hK : Keeper env K) : ∀ (c : ACode) (x : X) (e : Ex) (y : X), aexec env c x = some (e, y) → K x.2.h y.2.h := by
  intro c
  induction c with
  | skip =>
    intro x e y h
    simp only [aexec, Option.some.injEq, Prod.mk.injEq] at h
    rw [h.2]; exact hK.refl _
  | reg ds ops =>
    intro x e y h
    simp only [aexec, Option.map_eq_some_iff, Prod.mk.injEq] at h
    obtain ⟨z, hz, _, rfl⟩ := h
    have := runOps_rel hK hz
    rwa [kill_h] at this
  | regD ds ops chk =>
    intro x e y h
    simp only [aexec, Option.map_eq_some_iff, Prod.mk.injEq] at h
    obtain ⟨z, hz, _, rfl⟩ := h
    have := runRegD_rel hK hz
    rwa [kill_h] at this
  | seq a b iha ihb =>
    intro x e y h
    simp only [aexec] at h
    split at h
    · rename_i z hz
      exact hK.trans _ _ _ (iha x _ z hz) (ihb z e y h)
    · exact iha x e y h
  | cond c a b iha ihb =>
    intro x e y h
    simp only [aexec] at h
    split at h
    · split at h
      · exact iha x e y h
      · exact ihb x e y h
    · simp at h
  | block i a ih =>
    intro x e y h
    simp only [aexec] at h
    split at h
    · rename_i j z hz
      have := ih x _ z hz
      split at h
      all_goals
        simp only [Option.some.injEq, Prod.mk.injEq] at h
        rw [← h.2]; exact this
    · exact ih x e y h
  | loop a ih =>
    intro x e y h
    simp only [aexec] at h
    obtain ⟨n, hn⟩ := aloop_iter h
    exact iter_rel hK ih n x e y hn
  | exit i =>
    intro x e y h
    simp only [aexec, Option.some.injEq, Prod.mk.injEq] at h
    rw [h.2]; exact hK.refl _
  | ret =>
    intro x e y h
    simp only [aexec, Option.some.injEq, Prod.mk.injEq] at h
    rw [h.2]; exact hK.refl _
  | bad => intro x e y h; simp [aexec] at h

theorem keeperNx (henv : EnvOk P env) : Keeper env fun a b => a.nx ≤ b.nx := ⟨fun _ => Nat.le_refl _, fun _ _ _ h k => Nat.le_trans h k, fun _ _ _ h => stepO_nx henv h⟩
theorem code_nx (henv : EnvOk P env) (c : ACode) (x : X) (e : Ex) (y : X) (h : aexec env c x = some (e, y)) : x.2.h.nx ≤ y.2.h.nx := code_rel (keeperNx henv) c x e y h
theorem iter_nx (henv : EnvOk P env) {c : ACode} (n : Nat) (x : X) (e : Ex) (y : X) (h : iter (aexec env c) n x = some (e, y)) : x.2.h.nx ≤ y.2.h.nx := iter_rel (keeperNx henv) (code_nx henv c) n x e y h

def Ex.out : Ex → Exit
  | .normal => .normal
  | .exit i => .exit i
  | .ret => .ret

theorem code_wp (henv : EnvOk P env) (hm : P.follows .mixedOrders = true) : ∀ (c : Code) (Q : Exit → Act → World → Prop) (x : X) (e : Ex) (y : X) (μ : Mp) (a : Act) (w : World), aexec env (strip P locs B.n c) x = some (e, y) → y.2.h.nx ≤ B.N → Rel B μ x.1 x.2 a w →
    (∀ μ' a' w', Rel B μ' y.1 y.2 a' w' → Q e.out a' w') → c.wp P Q a w := by
  intro c
  induction c with
  | skip =>
    intro Q x e y μ a w h hN hR hQ
    simp only [strip, aexec, Option.some.injEq, Prod.mk.injEq] at h
    obtain ⟨rfl, rfl⟩ := h
    exact wp_skip (hQ μ a w hR)
  | region id ops draw =>
    intro Q x e y μ a w h hN hR hQ
    simp only [strip, stripRegion] at h
    split at h
    · rename_i hnd
      split at h
      · rename_i hdr
        subst hdr
        split at h
        · rename_i hok
          simp only [aexec, Option.map_eq_some_iff, Prod.mk.injEq] at h
          obtain ⟨z, hz, rfl, rfl⟩ := h
          exact regionD_wp henv hm (T := x.1) (s := x.2) hz hok.1 hok.2 hN hR hQ
        · simp [aexec] at h
      · rename_i hdr
        have : draw = false := by simpa using hdr
        subst this
        simp only [aexec, Option.map_eq_some_iff, Prod.mk.injEq] at h
        obtain ⟨z, hz, rfl, rfl⟩ := h
        exact region_wp henv (T := x.1) (s := x.2) hz hnd hN hR hQ
    · simp [aexec] at h
  | seq c d ihc ihd =>
    intro Q x e y μ a w h hN hR hQ
    simp only [strip, aexec] at h
    refine wp_seq ?_
    split at h
    · rename_i z hz
      refine ihc _ x _ z μ a w hz (Nat.le_trans (code_nx henv _ _ _ _ h) hN) hR fun μ' a' w' hR' => ?_
      exact ihd Q z e y μ' a' w' h hN hR' hQ
    · rename_i hne
      refine ihc _ x e y μ a w h hN hR fun μ' a' w' hR' => ?_
      cases e with
      | normal => exact (hne y h).elim
      | exit i => exact hQ μ' a' w' hR'
      | ret => exact hQ μ' a' w' hR'
  | cond o c d ihc ihd =>
    intro Q x e y μ a w h hN hR hQ
    simp only [strip, aexec] at h
    split at h
    · rename_i t ht
      have hv := con_bool (slot_ops hR.slots o) ht
      refine wp_cond hv ?_
      cases t with
      | true => exact ihc Q x e y μ a w (by simpa using h) hN hR hQ
      | false => exact ihd Q x e y μ a w (by simpa using h) hN hR hQ
    · simp at h
  | block i c ih =>
    intro Q x e y μ a w h hN hR hQ
    simp only [strip, aexec] at h
    refine wp_block ?_
    split at h
    · rename_i j z hz
      split at h
      · rename_i hj
        simp only [Option.some.injEq, Prod.mk.injEq] at h
        obtain ⟨rfl, rfl⟩ := h
        refine ih _ x _ z μ a w hz hN hR fun μ' a' w' hR' => ?_
        simp only [Ex.out, Exit.inBlock]
        rw [if_pos hj]
        exact hQ μ' a' w' hR'
      · rename_i hj
        simp only [Option.some.injEq, Prod.mk.injEq] at h
        obtain ⟨rfl, rfl⟩ := h
        refine ih _ x _ z μ a w hz hN hR fun μ' a' w' hR' => ?_
        simp only [Ex.out, Exit.inBlock]
        rw [if_neg hj]
        exact hQ μ' a' w' hR'
    · rename_i hne
      refine ih _ x e y μ a w h hN hR fun μ' a' w' hR' => ?_
      cases e with
      | exit i => exact (hne i y h).elim
      | normal => exact hQ μ' a' w' hR'
      | ret => exact hQ μ' a' w' hR'
  | loop c ih =>
    intro Q x e y μ a w h hN hR hQ
    simp only [strip, aexec] at h
    obtain ⟨n, hn⟩ := aloop_iter h
    refine wp_loop_rounds n ?_
    clear h
    induction n generalizing x μ a w with
    | zero => simp [iter] at hn
    | succ n ihn =>
      rw [rounds_succ]
      unfold iter at hn
      split at hn
      · rename_i z hz
        refine ih _ x _ z μ a w hz (Nat.le_trans (iter_nx henv n z e y hn) hN) hR fun μ' a' w' hR' => ?_
        exact ihn z μ' a' w' hR' hn
      · rename_i hne
        refine ih _ x e y μ a w hn hN hR fun μ' a' w' hR' => ?_
        cases e with
        | normal => exact (hne y hn).elim
        | exit i => exact hQ μ' a' w' hR'
        | ret => exact hQ μ' a' w' hR'
  | exit i =>
    intro Q x e y μ a w h hN hR hQ
    simp only [strip, aexec, Option.some.injEq, Prod.mk.injEq] at h
    obtain ⟨rfl, rfl⟩ := h
    exact wp_exit (hQ μ a w hR)
  | ret =>
    intro Q x e y μ a w h hN hR hQ
    simp only [strip, aexec, Option.some.injEq, Prod.mk.injEq] at h
    obtain ⟨rfl, rfl⟩ := h
    exact wp_ret (hQ μ a w hR)
  | _ =>
    intro Q x e y μ a w h
    simp [strip, aexec] at h

end Go.Abs
