/-
  What an operation leaves of the abstract memory; the state of a function under way; a region in the text's order.
-/
import Derived.Test.YtenccnpdaldkfaaAbs10
namespace Go.Abs

variable {P : Program}

def Keeps (s s' : St) (new : Key → Prop) : Prop := ∀ q r', s'.get q = some r' → (∃ r, s.get q = some r ∧ r.rw = r'.rw) ∨ new q

theorem keeps_same (s : St) (new : Key → Prop) : Keeps s s new := fun q r' h => .inl ⟨r', h, rfl⟩

theorem appendA_keeps {s s' : St} {sz : Nat} {x y r : Ce} (h : appendA s sz x y = some (r, s')) : s.h.nx ≤ s'.h.nx ∧ Keeps s s' (newOf s.h.nx s'.h.nx) := by
  have push_keeps : ∀ (s1 : St) (row : Row), s1.h.nx = s.h.nx → (∀ q r', s1.get q = some r' → ∃ r, s.get q = some r ∧ r.rw = r'.rw) → Keeps s (s1.push row) (newOf s.h.nx (s1.push row).h.nx) := by
    intro s1 row hn hk q r' hq
    rw [get_push] at hq
    unfold upg at hq
    split at hq
    · rename_i he
      exact .inr ⟨s1.h.nx, he, by omega, Nat.lt_succ_self _⟩
    · exact .inl (hk q r' hq)
  have hnx := appendA_nx h
  refine ⟨by rcases hnx with h1 | ⟨h1, _⟩; · omega
             · rw [h1]; exact Nat.le_refl _, ?_⟩
  unfold appendA at h
  split at h
  · split at h
    · split at h
      · simp only [Option.some.injEq, Prod.mk.injEq] at h
        rw [← h.2]
        exact keeps_same _ _
      · split at h
        · simp only [Option.some.injEq, Prod.mk.injEq] at h
          rw [← h.2]
          exact push_keeps s _ rfl (fun q r' h => ⟨r', h, rfl⟩)
        · simp at h
    · split at h
      · split at h
        · simp only [Option.some.injEq, Prod.mk.injEq] at h
          rw [← h.2]
          refine push_keeps _ _ nx_set (fun q r' h => ?_)
          rw [get_set_none] at h
          exact ⟨r', (kilm_some h).2, rfl⟩
        · simp at h
      · simp at h
    · split at h
      · split at h
        · simp only [Option.some.injEq, Prod.mk.injEq] at h
          rw [← h.2]
          exact push_keeps s _ rfl (fun q r' h => ⟨r', h, rfl⟩)
        · simp at h
      · simp at h
    · simp at h
  · simp at h

theorem callA_keeps {env : Env} (henv : EnvOk P env) {f : Nat} {xs : List Av} {s s' : St} {v : Av} (h : callA env f xs s = some (v, s')) : s.h.nx ≤ s'.h.nx ∧ Keeps s s' (newOf s.h.nx s'.h.nx) := by
  unfold callA at h
  split at h
  · rename_i F hF
    split at h
    · obtain ⟨⟨v1, h1⟩, hf, he⟩ := Option.map_eq_some_iff.1 h
      simp only [Prod.mk.injEq] at he
      obtain ⟨rfl, rfl⟩ := he
      refine ⟨(henv f F hF).nx _ _ _ _ hf, ?_⟩
      intro q r' hq
      cases q with
      | inl k => exact .inl ⟨r', hq, rfl⟩
      | inr b =>
        by_cases hb : s.h.nx ≤ b ∧ b < h1.nx
        · exact .inr ⟨b, rfl, hb⟩
        · exact .inl ((henv f F hF).keeps _ _ _ _ b r' hf hb hq)
    · simp at h
  · simp at h

theorem aop_keeps {env : Env} (henv : EnvOk P env) {d : Option Nat} {T : Nat → Av} {s s' : St} {ao : AOp} {v : Av} (h : aop env d T s ao = some (v, s')) : s.h.nx ≤ s'.h.nx ∧ Keeps s s' (isNew ao d s s') := by
  have same : ∀ {x : Av}, (x, s) = (v, s') → s.h.nx ≤ s'.h.nx ∧ Keeps s s' (isNew ao d s s') := by
    intro x hx
    simp only [Prod.mk.injEq] at hx
    rw [← hx.2]
    exact ⟨Nat.le_refl _, keeps_same _ _⟩
  have lift : (s.h.nx ≤ s'.h.nx ∧ Keeps s s' (newOf s.h.nx s'.h.nx)) → s.h.nx ≤ s'.h.nx ∧ Keeps s s' (isNew ao d s s') := by
    rintro ⟨h1, h2⟩
    refine ⟨h1, fun q r' hq => ?_⟩
    rcases h2 q r' hq with h3 | h3
    · exact .inl h3
    · exact .inr (.inl h3)
  have locK : ∀ {dd : Nat} {row : Row}, newKey d s ao = some (.inl dd) → s' = s.set (.inl dd) (some row) → s.h.nx ≤ s'.h.nx ∧ Keeps s s' (isNew ao d s s') := by
    intro dd row hk he
    subst he
    refine ⟨Nat.le_refl _, fun q r' hq => ?_⟩
    rw [get_set] at hq
    unfold upg at hq
    split at hq
    · rename_i he; subst he; exact .inr (.inr hk)
    · exact .inl ⟨r', hq, rfl⟩
  have pushK : ∀ {row : Row}, s' = s.push row → s.h.nx ≤ s'.h.nx ∧ Keeps s s' (isNew ao d s s') := by
    intro row he
    subst he
    refine ⟨Nat.le_succ _, fun q r' hq => ?_⟩
    rw [get_push] at hq
    unfold upg at hq
    split at hq
    · rename_i he; exact .inr (.inl ⟨_, he, Nat.le_refl _, Nat.lt_succ_self _⟩)
    · exact .inl ⟨r', hq, rfl⟩
  cases ao with
  | mov x => simp only [aop, Option.some.injEq] at h; exact same h
  | pick c a b => simp only [aop, Option.map_eq_some_iff] at h; obtain ⟨_, _, h⟩ := h; exact same h
  | allocL n z =>
    simp only [aop, Option.map_eq_some_iff, Prod.mk.injEq] at h
    obtain ⟨dd, hd, _, h⟩ := h
    exact locK (by simp [newKey, hd]) h.symm
  | allocH n z => simp only [aop, Option.some.injEq, Prod.mk.injEq] at h; exact pushK h.2.symm
  | boxL n x =>
    simp only [aop, Option.bind_eq_some_iff] at h
    obtain ⟨dd, hd, t, _, h⟩ := h
    split at h
    · simp only [Option.some.injEq, Prod.mk.injEq] at h; exact locK (by simp [newKey, hd]) h.2.symm
    · simp at h
  | boxH n x =>
    simp only [aop, Option.bind_eq_some_iff] at h
    obtain ⟨t, _, h⟩ := h
    split at h
    · simp only [Option.some.injEq, Prod.mk.injEq] at h; exact pushK h.2.symm
    · simp at h
  | build z ps => simp only [aop, Option.map_eq_some_iff] at h; obtain ⟨_, _, h⟩ := h; exact same h
  | mkSlL n len z ps =>
    simp only [aop, Option.bind_eq_some_iff, Option.map_eq_some_iff, Prod.mk.injEq] at h
    obtain ⟨dd, hd, r, _, _, h⟩ := h
    exact locK (by simp [newKey, hd]) h.symm
  | mkSlH n len z ps =>
    simp only [aop, Option.map_eq_some_iff, Prod.mk.injEq] at h
    obtain ⟨r, _, _, h⟩ := h
    exact pushK h.symm
  | load1 x => simp only [aop, Option.bind_eq_some_iff, Option.map_eq_some_iff] at h; obtain ⟨_, _, _, _, _, _, h⟩ := h; exact same h
  | loadN n x =>
    simp only [aop, Option.bind_eq_some_iff] at h
    obtain ⟨_, _, _, _, h⟩ := h
    split at h
    · simp only [Option.some.injEq] at h; exact same h
    · simp at h
  | store n a x =>
    simp only [aop, Option.bind_eq_some_iff] at h
    obtain ⟨p, _, r, hr, t, _, h⟩ := h
    split at h
    · simp only [Option.some.injEq, Prod.mk.injEq] at h
      obtain ⟨_, rfl⟩ := h
      refine ⟨by rw [nx_set]; exact Nat.le_refl _, fun q r' hq => ?_⟩
      rw [get_set] at hq
      unfold upg at hq
      split at hq
      · rename_i he
        subst he
        obtain rfl := Option.some.inj hq
        exact .inl ⟨r, hr, rfl⟩
      · exact .inl ⟨r', hq, rfl⟩
    · simp at h
  | nilchk x => simp only [aop, Option.map_eq_some_iff] at h; obtain ⟨_, _, h⟩ := h; exact same h
  | bin op x y => simp only [aop, Option.bind_eq_some_iff, Option.map_eq_some_iff] at h; obtain ⟨_, _, _, _, _, _, h⟩ := h; exact same h
  | binB n x y => simp only [aop, Option.bind_eq_some_iff, Option.map_eq_some_iff] at h; obtain ⟨_, _, _, _, h⟩ := h; exact same h
  | binS ks n x y => simp only [aop, Option.bind_eq_some_iff, Option.map_eq_some_iff] at h; obtain ⟨_, _, _, _, _, _, h⟩ := h; exact same h
  | un op x => simp only [aop, Option.map_eq_some_iff] at h; obtain ⟨_, _, h⟩ := h; exact same h
  | conv k x => simp only [aop, Option.map_eq_some_iff] at h; obtain ⟨_, _, h⟩ := h; exact same h
  | convSB x => simp only [aop, Option.bind_eq_some_iff, Option.map_eq_some_iff] at h; obtain ⟨_, _, _, _, _, _, h⟩ := h; exact same h
  | mkfn f ps => simp only [aop, Option.map_eq_some_iff] at h; obtain ⟨_, _, h⟩ := h; exact same h
  | make n z l c =>
    simp only [aop, Option.bind_eq_some_iff] at h
    obtain ⟨_, _, _, _, h⟩ := h
    split at h
    · simp only [Option.some.injEq, Prod.mk.injEq] at h; exact pushK h.2.symm
    · simp at h
  | slice n x lo hi mx =>
    simp only [aop, Option.bind_eq_some_iff] at h
    obtain ⟨_, _, _, _, _, _, _, _, _, _, h⟩ := h
    split at h
    · split at h
      · simp only [Option.some.injEq] at h; exact same h
      · simp only [Option.some.injEq] at h; exact same h
      · simp at h
    · simp at h
  | sliceS x lo hi =>
    simp only [aop, Option.bind_eq_some_iff] at h
    obtain ⟨_, _, _, _, _, _, h⟩ := h
    split at h
    · simp only [Option.some.injEq] at h; exact same h
    · simp at h
  | faddr off x => simp only [aop, Option.map_eq_some_iff] at h; obtain ⟨_, _, h⟩ := h; exact same h
  | iaddr n x i =>
    simp only [aop, Option.bind_eq_some_iff] at h
    obtain ⟨_, _, h⟩ := h
    split at h
    · split at h
      · simp only [Option.some.injEq] at h; exact same h
      · simp at h
    · simp at h
  | indexS x i =>
    simp only [aop, Option.bind_eq_some_iff] at h
    obtain ⟨_, _, _, _, h⟩ := h
    split at h
    · simp only [Option.map_eq_some_iff] at h; obtain ⟨_, _, h⟩ := h; exact same h
    · simp at h
  | extract x i =>
    simp only [aop] at h
    split at h
    · simp only [Option.map_eq_some_iff] at h; obtain ⟨_, _, h⟩ := h; exact same h
    · simp at h
  | call f xs => simp only [aop] at h; exact lift (callA_keeps henv h)
  | callV f xs =>
    simp only [aop] at h
    split at h
    · exact lift (callA_keeps henv h)
    · simp at h
  | len x =>
    simp only [aop] at h
    split at h
    · simp only [Option.some.injEq] at h; exact same h
    · simp only [Option.some.injEq] at h; exact same h
    · simp at h
  | lenS x => simp only [aop, Option.map_eq_some_iff] at h; obtain ⟨_, _, h⟩ := h; exact same h
  | append n x y =>
    simp only [aop, Option.bind_eq_some_iff, Option.map_eq_some_iff, Prod.mk.injEq] at h
    obtain ⟨_, _, _, _, ⟨r, s2⟩, hap, _, rfl⟩ := h
    exact lift (appendA_keeps hap)
  | maxs xs =>
    simp only [aop, Option.bind_eq_some_iff] at h
    obtain ⟨_, _, h⟩ := h
    split at h
    · simp at h
    · simp only [Option.some.injEq] at h; exact same h
  | mins xs =>
    simp only [aop, Option.bind_eq_some_iff] at h
    obtain ⟨_, _, h⟩ := h
    split at h
    · simp at h
    · simp only [Option.some.injEq] at h; exact same h
  | bad => simp [aop] at h

end Go.Abs
