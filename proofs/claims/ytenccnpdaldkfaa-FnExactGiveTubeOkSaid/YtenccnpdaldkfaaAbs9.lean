/-
  What it is for an abstract function to tell what a function of the model does; a call.
-/
import Derived.Test.YtenccnpdaldkfaaAbs8
namespace Go.Abs

variable {P : Program} {μ : Mp} {T : Nat → Av} {ρ : Operand → Value} {w : World} {g : Mem}

def Enterable (P : Program) (f : FuncId) : Prop := ∃ fn, P.funcs[f]? = some fn ∧ (fn.name == "runtime.NumGoroutine") = false ∧ fn.body.isNone = false

/-- Values one behind the other, for which the abstract ones stand. -/
def ConAs (μ : Mp) : List Av → List Value → Prop
  | [], [] => True
  | x :: xs, v :: vs => ConA μ x v ∧ ConAs μ xs vs
  | _, _ => False

abbrev Fun := List Av → Heap → Option (Av × Heap)

structure Sound (P : Program) (f : FuncId) (F : Fun) : Prop where
  enter : Enterable P f
  nx : ∀ args h v h', F args h = some (v, h') → h.nx ≤ h'.nx
  keeps : ∀ args h v h' b r', F args h = some (v, h') → ¬ (h.nx ≤ b ∧ b < h'.nx) → h'.hp b = some r' → ∃ r, h.hp b = some r ∧ r.rw = r'.rw
  run : ∀ args h v h' μ w vals, F args h = some (v, h') → (∀ k, μ (.inl k) = none) → (∀ b, h.nx ≤ b → b < h'.nx → μ (.inr b) = none) → Sim μ h.get w → ConAs μ args vals → (∀ b, h.nx ≤ b → h.hp b = none) →
    Calls P f vals.toArray w fun e w' => ∃ v' μ', e = .returned v' ∧ ConA μ' v v' ∧ Post μ h.get h'.get w μ' w' (newOf h.nx h'.nx)

def EnvOk (P : Program) (env : Env) : Prop := ∀ f F, env f = some F → Sound P f F

theorem ConAs.hp {μ : Mp} : ∀ {xs : List Av} {vs : List Value}, noLocs xs = true → ConAs μ xs vs → ConAs (hpOnly μ) xs vs
  | [], [], _, _ => trivial
  | x :: xs, v :: vs, hn, h => by
    simp only [noLocs, Bool.and_eq_true] at hn
    exact ⟨ConA.agree (μ := μ) (μ' := hpOnly μ) (fun b => rfl) hn.1 h.1, ConAs.hp hn.2 h.2⟩
  | [], _ :: _, _, h => h.elim
  | _ :: _, [], _, h => h.elim

theorem opds_cons {xs : List Operand} (h : ∀ X ∈ xs, ConA μ (ev T (opdOf X)) (ρ X)) : ConAs μ (evs T (opdsOf xs)) (xs.map ρ) := by
  induction xs with
  | nil => trivial
  | cons X xs ih => exact ⟨h X (by simp), ih (fun Y hY => h Y (by simp [hY]))⟩

theorem ConAs.append {μ : Mp} : ∀ {xs ys : List Av} {vs us : List Value}, ConAs μ xs vs → ConAs μ ys us → ConAs μ (xs ++ ys) (vs ++ us)
  | [], _, [], _, _, k => k
  | _ :: _, _, _ :: _, _, h, k => ⟨h.1, ConAs.append h.2 k⟩
  | [], _, _ :: _, _, h, _ => h.elim
  | _ :: _, _, [], _, h, _ => h.elim

theorem ConPs.as {μ : Mp} : ∀ {ps : List (Key × Nat)} {l : List Value}, ConPs μ ps l → ConAs μ (ps.map fun p => .v (.c (.ptr p.1 p.2))) l
  | [], [], _ => trivial
  | _ :: _, _ :: _, h => ⟨h.1, ConPs.as h.2⟩
  | [], _ :: _, h => h.elim
  | _ :: _, [], h => h.elim

/-- A call, whatever the caller holds besides. -/
theorem call_sound {env : Env} (henv : EnvOk P env) {f : Nat} {xs : List Av} {s s' : St} {v : Av} {vals : List Value} (hs : Sim μ s.get w) (hx : ConAs μ xs vals) (h : callA env f xs s = some (v, s')) (hnew : ∀ b, s.h.nx ≤ b → b < s'.h.nx → μ (.inr b) = none) (hwf : ∀ b, s.h.nx ≤ b → s.h.hp b = none) :
    Enterable P f ∧ Calls P f vals.toArray w fun e w' => ∃ v' μ', e = .returned v' ∧ ConA μ' v v' ∧ Post μ s.get s'.get w μ' w' (newOf s.h.nx s'.h.nx) := by
  unfold callA at h
  split at h
  · rename_i F hF
    split at h
    · rename_i hno
      obtain ⟨⟨v1, h1⟩, hf, he⟩ := Option.map_eq_some_iff.1 h
      simp only [Prod.mk.injEq] at he
      obtain ⟨rfl, rfl⟩ := he
      have hsound := henv f F hF
      refine ⟨hsound.enter, ?_⟩
      have hs0 : Sim (hpOnly μ) s.h.get w := by
        constructor
        · intro q pl r hq hr
          cases q with
          | inl k => simp [Heap.get] at hr
          | inr b =>
            obtain ⟨cs, e, fr, a1, a2, a3, a4, a5⟩ := hs.row (.inr b) pl r hq hr
            exact ⟨cs, e, fr, a1, a2, ConL.agree (μ := μ) (μ' := hpOnly μ) (fun _ => rfl) a4 a3, a4, a5⟩
        · intro q q' pl pl' r r' hne hq hq' hr hr' hrw
          cases q with
          | inl k => simp [Heap.get] at hr
          | inr b =>
            cases q' with
            | inl k => simp [Heap.get] at hr'
            | inr b' => exact hs.apart (.inr b) (.inr b') pl pl' r r' hne hq hq' hr hr' hrw
      refine (hsound.run xs s.h v1 h1 (hpOnly μ) w vals hf (fun k => rfl) hnew hs0 (hx.hp hno) hwf).mono ?_
      rintro e w' ⟨v', μ1, rfl, hcon, hle, hsim, hfrm, hnw⟩
      let μ' : Mp := fun q => match q with | .inl k => μ (.inl k) | .inr b => μ1 (.inr b)
      have hinl : ∀ k, μ1 (.inl k) = none := by
        intro k
        cases hk : μ1 (.inl k) with
        | none => rfl
        | some pl =>
          rcases hnw _ _ hk with h2 | ⟨⟨b, hb, _⟩, _⟩
          · simp [hpOnly] at h2
          · cases hb
      have hle1 : Le μ1 μ' := by
        intro q pl hq
        cases q with
        | inl k => rw [hinl k] at hq; cases hq
        | inr b => exact hq
      have hleμ : Le μ μ' := by
        intro q pl hq
        cases q with
        | inl k => exact hq
        | inr b => exact hle (.inr b) pl hq
      -- the blocks of what a local name stands for are left alone
      have hloc : ∀ k pl r, μ (.inl k) = some pl → s.get (.inl k) = some r → w'.heap[pl.B]? = w.heap[pl.B]? := by
        intro k pl r hk hr
        refine hfrm.block pl.B (hs.row _ _ _ hk hr).lt ?_
        intro q pl2 r2 hq hr2 hrw hB
        cases q with
        | inl j => simp [hpOnly] at hq
        | inr b => exact hs.apart (.inr b) (.inl k) pl2 pl r2 r (by simp) hq hk hr2 hr hrw hB
      refine ⟨v', μ', rfl, hcon.le hle1, hleμ, ⟨?_, ?_⟩, ?_, ?_⟩
      · intro q pl r hq hr
        cases q with
        | inl k => exact (hs.row (.inl k) pl r hq hr).le hleμ (hloc k pl r hq hr)
        | inr b => exact (hsim.row (.inr b) pl r hq hr).le hle1 rfl
      · intro q q' pl pl' r r' hne hq hq' hr hr' hrw hB
        have cross : ∀ k b plk plb rk rb, μ (.inl k) = some plk → μ1 (.inr b) = some plb → s.get (.inl k) = some rk → h1.get (.inr b) = some rb → (rk.rw = true ∨ rb.rw = true) → plk.B ≠ plb.B := by
          intro k b plk plb rk rb hk hb hrk hrb hor hBB
          have hlt := (hs.row _ _ _ hk hrk).lt
          rcases hnw _ _ hb with h2 | ⟨_, h3 | ⟨q0, pl0, r0, hq0, hr0, hrw0, hB0⟩⟩
          · -- an old block
            have h2' : μ (.inr b) = some plb := h2
            have hout : ¬ (s.h.nx ≤ b ∧ b < h1.nx) := by
              rintro ⟨g1, g2⟩
              have := hnew b g1 g2
              rw [this] at h2'
              cases h2'
            obtain ⟨r0, hr0, hrw0⟩ := hsound.keeps xs s.h v1 h1 b rb hf hout hrb
            rcases hor with ho | ho
            · exact hs.apart (.inl k) (.inr b) plk plb rk r0 (by simp) hk h2' hrk hr0 ho hBB
            · exact hs.apart (.inr b) (.inl k) plb plk r0 rk (by simp) h2' hk hr0 hrk (hrw0.trans ho) hBB.symm
          · omega
          · cases q0 with
            | inl j => simp [hpOnly] at hq0
            | inr b0 => exact hs.apart (.inr b0) (.inl k) pl0 plk r0 rk (by simp) hq0 hk hr0 hrk hrw0 (hB0.trans hBB.symm)
        cases q with
        | inl k =>
          cases q' with
          | inl k' => exact hs.apart (.inl k) (.inl k') pl pl' r r' hne hq hq' hr hr' hrw hB
          | inr b => exact cross k b pl pl' r r' hq hq' hr hr' (.inl hrw) hB
        | inr b =>
          cases q' with
          | inl k => exact cross k b pl' pl r' r hq' hq hr' hr (.inr hrw) hB.symm
          | inr b' => exact hsim.apart (.inr b) (.inr b') pl pl' r r' hne hq hq' hr hr' hrw hB
      · refine ⟨hfrm.os, hfrm.tape, hfrm.output, hfrm.size, fun B hB hne => hfrm.block B hB ?_⟩
        intro q pl r hq hr hrw
        cases q with
        | inl k => simp [hpOnly] at hq
        | inr b => exact hne (.inr b) pl r hq hr hrw
      · intro q pl hq
        cases q with
        | inl k => exact .inl hq
        | inr b =>
          rcases hnw (.inr b) pl hq with h2 | ⟨h2, h3⟩
          · exact .inl h2
          · refine .inr ⟨h2, ?_⟩
            rcases h3 with h3 | ⟨q0, pl0, r0, hq0, hr0, hrw0, hB0⟩
            · exact .inl h3
            · cases q0 with
              | inl j => simp [hpOnly] at hq0
              | inr b0 => exact .inr ⟨.inr b0, pl0, r0, hq0, hr0, hrw0, hB0⟩
    · exact absurd h (by simp)
  · exact absurd h (by simp)

end Go.Abs
