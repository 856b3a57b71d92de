/-
  The state of a function under way, in the abstract machine and in the model; a region in the text's order.
-/
import Derived.Test.YtenccnpdaldkfaaAbs11
namespace Go.Abs

variable {P : Program}

structure Glob (μ0 : Mp) (h0 : Heap) (w0 : World) (μ : Mp) (g : Mem) (top : Nat) (w : World) : Prop where
  le : ∀ b pl, μ0 (.inr b) = some pl → μ (.inr b) = some pl
  frm : Frm μ0 h0.get w0 w
  new : ∀ q pl, μ q = some pl → μ0 q = some pl ∨ (((∃ k, q = .inl k) ∨ newOf h0.nx top q) ∧ (w0.heap.size ≤ pl.B ∨ ∃ q0 pl0 r0, μ0 q0 = some pl0 ∧ h0.get q0 = some r0 ∧ r0.rw = true ∧ pl0.B = pl.B))
  keeps : ∀ b r', g (.inr b) = some r' → (∃ r, h0.hp b = some r ∧ r.rw = r'.rw) ∨ (h0.nx ≤ b ∧ b < top)

def KeepsM (g g' : Mem) (new : Key → Prop) : Prop := ∀ q r', g' q = some r' → (∃ r, g q = some r ∧ r.rw = r'.rw) ∨ new q

/-- What stands fast while a function is under way: where it began. -/
structure Start where
  μ0 : Mp
  h0 : Heap
  w0 : World
  N : Nat
  n : Nat
  loc : ∀ k, μ0 (.inl k) = none
  fresh : ∀ b, h0.nx ≤ b → b < N → μ0 (.inr b) = none

structure Rel (B : Start) (μ : Mp) (T : Nat → Av) (s : St) (a : Act) (w : World) : Prop where
  sim : Sim μ s.get w
  slots : ∀ t, ConA μ (T t) (a.tmps.getD t undef)
  defers : a.defers = []
  size : B.n ≤ a.tmps.size
  fresh : ∀ b, s.h.nx ≤ b → b < B.N → μ (.inr b) = none
  nx0 : B.h0.nx ≤ s.h.nx
  nxN : s.h.nx ≤ B.N
  glob : Glob B.μ0 B.h0 B.w0 μ s.get s.h.nx w
  wf : ∀ b, s.h.nx ≤ b → s.h.hp b = none

theorem Glob.live {B : Start} {μ : Mp} {g : Mem} {top : Nat} {w : World} (h : Glob B.μ0 B.h0 B.w0 μ g top w) (hN : top ≤ B.N) {q : Key} {pl : Place} {r : Row} (hq : μ q = some pl) (hr : g q = some r) (hrw : r.rw = true) :
    B.w0.heap.size ≤ pl.B ∨ ∃ q0 pl0 r0, B.μ0 q0 = some pl0 ∧ B.h0.get q0 = some r0 ∧ r0.rw = true ∧ pl0.B = pl.B := by
  rcases h.new q pl hq with h1 | ⟨_, h2⟩
  · cases q with
    | inl k => rw [B.loc k] at h1; cases h1
    | inr b =>
      rcases h.keeps b r hr with ⟨r0, hr0, he⟩ | ⟨h3, h4⟩
      · exact .inr ⟨.inr b, pl, r0, h1, hr0, he.trans hrw, rfl⟩
      · rw [B.fresh b h3 (by omega)] at h1; cases h1
  · exact h2

theorem Glob.step {B : Start} {μ μ' : Mp} {g g1 g' : Mem} {top top' : Nat} {w w' : World} {new : Key → Prop} (h : Glob B.μ0 B.h0 B.w0 μ g top w) (hN : top ≤ B.N) (ht : top ≤ top') (hp : Post μ g1 g' w μ' w' new)
    (hg1 : ∀ q pl r, μ q = some pl → g1 q = some r → r.rw = true → ∃ r2, g q = some r2 ∧ r2.rw = true) {g2 : Mem}
    (hk : ∀ b r', g2 (.inr b) = some r' → (∃ r, B.h0.hp b = some r ∧ r.rw = r'.rw) ∨ (B.h0.nx ≤ b ∧ b < top')) (hnew : ∀ q, new q → (∃ k, q = .inl k) ∨ newOf B.h0.nx top' q) : Glob B.μ0 B.h0 B.w0 μ' g2 top' w' := by
  have live1 : ∀ q pl r, μ q = some pl → g1 q = some r → r.rw = true → B.w0.heap.size ≤ pl.B ∨ ∃ q0 pl0 r0, B.μ0 q0 = some pl0 ∧ B.h0.get q0 = some r0 ∧ r0.rw = true ∧ pl0.B = pl.B := by
    intro q pl r hq hr hrw
    obtain ⟨r2, hr2, hrw2⟩ := hg1 q pl r hq hr hrw
    exact h.live hN hq hr2 hrw2
  refine ⟨fun b pl hb => hp.le _ _ (h.le b pl hb), ?_, ?_, hk⟩
  · refine ⟨hp.frm.os.trans h.frm.os, hp.frm.tape.trans h.frm.tape, hp.frm.output.trans h.frm.output, Nat.le_trans h.frm.size hp.frm.size, ?_⟩
    intro C hC hne
    rw [hp.frm.block C (Nat.lt_of_lt_of_le hC h.frm.size) ?_, h.frm.block C hC hne]
    intro q pl r hq hr hrw hB
    rcases live1 q pl r hq hr hrw with h1 | ⟨q0, pl0, r0, g1, g2, g3, g4⟩
    · omega
    · exact hne q0 pl0 r0 g1 g2 g3 (g4.trans hB)
  · intro q pl hq
    rcases hp.new q pl hq with h1 | ⟨h1, h2⟩
    · rcases h.new q pl h1 with h3 | ⟨h3, h4⟩
      · exact .inl h3
      · refine .inr ⟨?_, h4⟩
        rcases h3 with h3 | ⟨b, rfl, h5, h6⟩
        · exact .inl h3
        · exact .inr ⟨b, rfl, h5, by omega⟩
    · refine .inr ⟨hnew q h1, ?_⟩
      rcases h2 with h2 | ⟨q0, pl0, r0, k1, k2, k3, k4⟩
      · exact .inl (Nat.le_trans h.frm.size h2)
      · rcases live1 q0 pl0 r0 k1 k2 k3 with h5 | ⟨q1, pl1, r1, m1, m2, m3, m4⟩
        · exact .inl (by omega)
        · exact .inr ⟨q1, pl1, r1, m1, m2, m3, m4.trans k4⟩

theorem put_getD (a : Act) (d : Option Nat) (v : Value) (n : Nat) (hn : n ≤ a.tmps.size) (hd : dstOk n d = true) (t : Nat) : (a.put d v).tmps.getD t undef = if d = some t then v else a.tmps.getD t undef := by
  cases d with
  | none => simp [Act.put]
  | some d =>
    simp only [dstOk, decide_eq_true_eq] at hd
    simp only [Act.put, Option.some.injEq, Array.getD_eq_getD_getElem?, Array.getElem?_setIfInBounds]
    by_cases h : d = t
    · subst h
      simp [show d < a.tmps.size by omega]
    · simp [h]
theorem put_size (a : Act) (d : Option Nat) (v : Value) : (a.put d v).tmps.size = a.tmps.size := by
  cases d <;> simp [Act.put]
theorem put_defers' (a : Act) (d : Option Nat) (v : Value) : (a.put d v).defers = a.defers := by
  cases d <;> rfl

theorem upo_get (T : Nat → Av) (d : Option Nat) (v : Av) (t : Nat) : upo T d v t = if d = some t then v else T t := by
  cases d with
  | none => simp [upo]
  | some d =>
    simp only [upo, upd, Option.some.injEq]
    by_cases h : t = d
    · subst h; simp
    · rw [if_neg h, if_neg (fun h' => h h'.symm)]

theorem isNew_kind {ao : AOp} {d : Option Nat} {s s' : St} (hn : s.h.nx ≤ s'.h.nx) (hh : ∀ b, newKey d s ao = some (.inr b) → b < s'.h.nx ∧ s.h.nx ≤ b) : ∀ q, isNew ao d s s' q → (∃ k, q = .inl k) ∨ newOf s.h.nx s'.h.nx q := by
  rintro q (h | h)
  · exact .inr h
  · cases q with
    | inl k => exact .inl ⟨k, rfl⟩
    | inr b => exact .inr ⟨b, rfl, (hh b h).2, (hh b h).1⟩

theorem newKey_hp {env : Env} {ao : AOp} {d : Option Nat} {T : Nat → Av} {s s' : St} {v : Av} (h : aop env d T s ao = some (v, s')) : ∀ b, newKey d s ao = some (.inr b) → b < s'.h.nx ∧ s.h.nx ≤ b := by
  intro b hb
  have push : ∀ {row : Row}, s' = s.push row → b = s.h.nx → b < s'.h.nx ∧ s.h.nx ≤ b := by
    intro row h1 h2
    subst h1 h2
    exact ⟨Nat.lt_succ_self _, Nat.le_refl _⟩
  cases ao with
  | allocH n z =>
    simp only [newKey, Option.some.injEq, Sum.inr.injEq] at hb
    simp only [aop, Option.some.injEq, Prod.mk.injEq] at h
    exact push h.2.symm hb.symm
  | boxH n x =>
    simp only [newKey, Option.some.injEq, Sum.inr.injEq] at hb
    simp only [aop, Option.bind_eq_some_iff] at h
    obtain ⟨t, _, h⟩ := h
    split at h
    · simp only [Option.some.injEq, Prod.mk.injEq] at h; exact push h.2.symm hb.symm
    · simp at h
  | mkSlH n len z ps =>
    simp only [newKey, Option.some.injEq, Sum.inr.injEq] at hb
    simp only [aop, Option.map_eq_some_iff, Prod.mk.injEq] at h
    obtain ⟨r, _, _, h⟩ := h
    exact push h.symm hb.symm
  | make n z l c =>
    simp only [newKey, Option.some.injEq, Sum.inr.injEq] at hb
    simp only [aop, Option.bind_eq_some_iff] at h
    obtain ⟨_, _, _, _, h⟩ := h
    split at h
    · simp only [Option.some.injEq, Prod.mk.injEq] at h; exact push h.2.symm hb.symm
    · simp at h
  | allocL n z => simp [newKey, Option.map_eq_some_iff] at hb
  | boxL n z => simp [newKey, Option.map_eq_some_iff] at hb
  | mkSlL n l z p => simp [newKey, Option.map_eq_some_iff] at hb
  | _ => simp [newKey] at hb

/-- A light operation leaves all but its new block as it was. -/
theorem light_mem {env : Env} {ao : AOp} {d : Option Nat} {T : Nat → Av} {s s' : St} {v : Av} (h : aop env d T s ao = some (v, s')) (hh : ao.heavy = false) : ∀ q, newKey d s ao ≠ some q → s'.get q = s.get q := by
  intro q hq
  have same : ∀ {x : Av}, (x, s) = (v, s') → s'.get q = s.get q := by
    intro x hx
    simp only [Prod.mk.injEq] at hx
    rw [← hx.2]
  have locK : ∀ {dd : Nat} {row : Row}, newKey d s ao = some (.inl dd) → s' = s.set (.inl dd) (some row) → s'.get q = s.get q := by
    intro dd row hk he
    subst he
    rw [get_set]
    unfold upg
    rw [if_neg (fun e => hq (by rw [hk, e]))]
  have pushK : ∀ {row : Row}, newKey d s ao = some (.inr s.h.nx) → s' = s.push row → s'.get q = s.get q := by
    intro row hk he
    subst he
    rw [get_push]
    unfold upg
    rw [if_neg (fun e => hq (by rw [hk, e]))]
  cases ao with
  | mov x => simp only [aop, Option.some.injEq] at h; exact same h
  | pick c a b => simp only [aop, Option.map_eq_some_iff] at h; obtain ⟨_, _, h⟩ := h; exact same h
  | allocL n z =>
    simp only [aop, Option.map_eq_some_iff, Prod.mk.injEq] at h
    obtain ⟨dd, hd, _, h⟩ := h
    exact locK (by simp [newKey, hd]) h.symm
  | allocH n z => simp only [aop, Option.some.injEq, Prod.mk.injEq] at h; exact pushK rfl h.2.symm
  | boxL n x =>
    simp only [aop, Option.bind_eq_some_iff] at h
    obtain ⟨dd, hd, t, _, h⟩ := h
    split at h
    · simp only [Option.some.injEq, Prod.mk.injEq] at h; exact locK (by simp [newKey, hd]) h.2.symm
    · simp at h
  | boxH n x =>
    simp only [aop, Option.bind_eq_some_iff] at h
    obtain ⟨t, _, h⟩ := h
    split at h
    · simp only [Option.some.injEq, Prod.mk.injEq] at h; exact pushK rfl h.2.symm
    · simp at h
  | build z ps => simp only [aop, Option.map_eq_some_iff] at h; obtain ⟨_, _, h⟩ := h; exact same h
  | mkSlL n len z ps =>
    simp only [aop, Option.bind_eq_some_iff, Option.map_eq_some_iff, Prod.mk.injEq] at h
    obtain ⟨dd, hd, r, _, _, h⟩ := h
    exact locK (by simp [newKey, hd]) h.symm
  | mkSlH n len z ps =>
    simp only [aop, Option.map_eq_some_iff, Prod.mk.injEq] at h
    obtain ⟨r, _, _, h⟩ := h
    exact pushK rfl h.symm
  | load1 x => simp only [aop, Option.bind_eq_some_iff, Option.map_eq_some_iff] at h; obtain ⟨_, _, _, _, _, _, h⟩ := h; exact same h
  | loadN n x =>
    simp only [aop, Option.bind_eq_some_iff] at h
    obtain ⟨_, _, _, _, h⟩ := h
    split at h
    · simp only [Option.some.injEq] at h; exact same h
    · simp at h
  | nilchk x => simp only [aop, Option.map_eq_some_iff] at h; obtain ⟨_, _, h⟩ := h; exact same h
  | bin op x y => simp only [aop, Option.bind_eq_some_iff, Option.map_eq_some_iff] at h; obtain ⟨_, _, _, _, _, _, h⟩ := h; exact same h
  | binB n x y => simp only [aop, Option.bind_eq_some_iff, Option.map_eq_some_iff] at h; obtain ⟨_, _, _, _, h⟩ := h; exact same h
  | binS ks n x y => simp only [aop, Option.bind_eq_some_iff, Option.map_eq_some_iff] at h; obtain ⟨_, _, _, _, _, _, h⟩ := h; exact same h
  | un op x => simp only [aop, Option.map_eq_some_iff] at h; obtain ⟨_, _, h⟩ := h; exact same h
  | conv k x => simp only [aop, Option.map_eq_some_iff] at h; obtain ⟨_, _, h⟩ := h; exact same h
  | convSB x => simp only [aop, Option.bind_eq_some_iff, Option.map_eq_some_iff] at h; obtain ⟨_, _, _, _, _, _, h⟩ := h; exact same h
  | mkfn f ps => simp only [aop, Option.map_eq_some_iff] at h; obtain ⟨_, _, h⟩ := h; exact same h
  | make n z l c =>
    simp only [aop, Option.bind_eq_some_iff] at h
    obtain ⟨_, _, _, _, h⟩ := h
    split at h
    · simp only [Option.some.injEq, Prod.mk.injEq] at h; exact pushK rfl h.2.symm
    · simp at h
  | slice n x lo hi mx =>
    simp only [aop, Option.bind_eq_some_iff] at h
    obtain ⟨_, _, _, _, _, _, _, _, _, _, h⟩ := h
    split at h
    · split at h
      · simp only [Option.some.injEq] at h; exact same h
      · simp only [Option.some.injEq] at h; exact same h
      · simp at h
    · simp at h
  | sliceS x lo hi =>
    simp only [aop, Option.bind_eq_some_iff] at h
    obtain ⟨_, _, _, _, _, _, h⟩ := h
    split at h
    · simp only [Option.some.injEq] at h; exact same h
    · simp at h
  | faddr off x => simp only [aop, Option.map_eq_some_iff] at h; obtain ⟨_, _, h⟩ := h; exact same h
  | iaddr n x i =>
    simp only [aop, Option.bind_eq_some_iff] at h
    obtain ⟨_, _, h⟩ := h
    split at h
    · split at h
      · simp only [Option.some.injEq] at h; exact same h
      · simp at h
    · simp at h
  | indexS x i =>
    simp only [aop, Option.bind_eq_some_iff] at h
    obtain ⟨_, _, _, _, h⟩ := h
    split at h
    · simp only [Option.map_eq_some_iff] at h; obtain ⟨_, _, h⟩ := h; exact same h
    · simp at h
  | extract x i =>
    simp only [aop] at h
    split at h
    · simp only [Option.map_eq_some_iff] at h; obtain ⟨_, _, h⟩ := h; exact same h
    · simp at h
  | len x =>
    simp only [aop] at h
    split at h
    · simp only [Option.some.injEq] at h; exact same h
    · simp only [Option.some.injEq] at h; exact same h
    · simp at h
  | lenS x => simp only [aop, Option.map_eq_some_iff] at h; obtain ⟨_, _, h⟩ := h; exact same h
  | maxs xs =>
    simp only [aop, Option.bind_eq_some_iff] at h
    obtain ⟨_, _, h⟩ := h
    split at h
    · simp at h
    · simp only [Option.some.injEq] at h; exact same h
  | mins xs =>
    simp only [aop, Option.bind_eq_some_iff] at h
    obtain ⟨_, _, h⟩ := h
    split at h
    · simp at h
    · simp only [Option.some.injEq] at h; exact same h
  | bad => simp [aop] at h
  | _ => simp [AOp.heavy] at hh

theorem outMem_self {env : Env} {ao : AOp} {d : Option Nat} {T : Nat → Av} {s s' : St} {v : Av} (h : aop env d T s ao = some (v, s')) : outMem ao d s s' s.get = s'.get := by
  unfold outMem
  cases hh : ao.heavy with
  | true => simp
  | false =>
    simp only [Bool.false_eq_true, if_false]
    funext q
    by_cases hq : newKey d s ao = some q
    · rw [if_pos hq]
    · rw [if_neg hq, light_mem h hh q hq]

theorem aop_wf {env : Env} (henv : EnvOk P env) {ao : AOp} {d : Option Nat} {T : Nat → Av} {s s' : St} {v : Av} (h : aop env d T s ao = some (v, s')) (hw : ∀ b, s.h.nx ≤ b → s.h.hp b = none) : ∀ b, s'.h.nx ≤ b → s'.h.hp b = none := by
  obtain ⟨hnx, hk⟩ := aop_keeps henv h
  intro b hb
  cases hr : s'.h.hp b with
  | none => rfl
  | some r' =>
    rcases hk (.inr b) r' hr with ⟨r, hr0, _⟩ | h1
    · have h2 := hw b (by omega)
      rw [show s.get (.inr b) = s.h.hp b from rfl, h2] at hr0
      cases hr0
    · rcases isNew_kind hnx (newKey_hp h) _ h1 with ⟨k, hk'⟩ | ⟨b', hb', h3, h4⟩
      · cases hk'
      · injection hb' with hb'
        omega

/-- One operation on. -/
theorem Rel.op {B : Start} {env : Env} (henv : EnvOk P env) {μ : Mp} {T : Nat → Av} {s s' : St} {a : Act} {w w' : World} {ao : AOp} {d : Option Nat} {v : Av} {v' : Value} (hR : Rel B μ T s a w) (hd : dstOk B.n d = true)
    (h : aop env d T s ao = some (v, s')) (hN : s'.h.nx ≤ B.N) (ha : After ao d s s' s.get μ w v v' w') :
    ∃ μ', Rel B μ' (upo T d v) s' (a.put d v') w' ∧ Le μ μ' ∧ (∀ k pl, μ' (.inl k) = some pl → μ (.inl k) = some pl ∨ newKey d s ao = some (.inl k)) := by
  obtain ⟨μ', hcon, hpost⟩ := ha
  rw [outMem_self h] at hpost
  obtain ⟨hnx, hkeeps⟩ := aop_keeps henv h
  have hkind := isNew_kind hnx (newKey_hp h)
  refine ⟨μ', ⟨hpost.sim, ?_, ?_, ?_, ?_, Nat.le_trans hR.nx0 hnx, hN, ?_, aop_wf henv h hR.wf⟩, hpost.le, ?_⟩
  · intro t
    rw [upo_get, put_getD a d v' B.n hR.size hd]
    split
    · exact hcon
    · exact (hR.slots t).le hpost.le
  · rw [put_defers']; exact hR.defers
  · rw [put_size]; exact hR.size
  · intro b h1 h2
    cases hb : μ' (.inr b) with
    | none => rfl
    | some pl =>
      rcases hpost.new _ _ hb with h3 | ⟨h3, _⟩
      · rw [hR.fresh b (by omega) h2] at h3; cases h3
      · rcases h3 with ⟨b', he, _, h4⟩ | h3
        · injection he with he
          omega
        · have := (newKey_hp h b h3).1
          omega
  · refine hR.glob.step hR.nxN hnx hpost (fun q pl r _ hr hrw => ⟨r, hr, hrw⟩) ?_ ?_
    · intro b r' hr'
      rcases hkeeps (.inr b) r' hr' with ⟨r, hr, he⟩ | h1
      · rcases hR.glob.keeps b r hr with ⟨r0, hr0, he0⟩ | ⟨h3, h4⟩
        · exact .inl ⟨r0, hr0, he0.trans he⟩
        · exact .inr ⟨h3, by omega⟩
      · rcases hkind _ h1 with ⟨k, hk'⟩ | ⟨b', hb, h3, h4⟩
        · cases hk'
        · injection hb with hb
          subst hb
          exact .inr ⟨Nat.le_trans hR.nx0 h3, h4⟩
    · intro q hq
      rcases hkind q hq with h3 | ⟨b, rfl, h3, h4⟩
      · exact .inl h3
      · exact .inr ⟨b, rfl, Nat.le_trans hR.nx0 h3, h4⟩
  · intro k pl hk
    rcases hpost.new _ _ hk with h3 | ⟨h3 | h3, _⟩
    · exact .inl h3
    · obtain ⟨b, he, _⟩ := h3; cases he
    · exact .inr h3

theorem Rel.skip {B : Start} {μ : Mp} {T : Nat → Av} {s : St} {a : Act} {w : World} {d : Option Nat} (hR : Rel B μ T s a w) (hd : dstOk B.n d = true) : Rel B μ (upo T d (.tup [])) s (a.put d undef) w := by
  refine ⟨hR.sim, ?_, by rw [put_defers']; exact hR.defers, by rw [put_size]; exact hR.size, hR.fresh, hR.nx0, hR.nxN, hR.glob, hR.wf⟩
  intro t
  rw [upo_get, put_getD a d undef B.n hR.size hd]
  split
  · exact ⟨[], rfl, trivial⟩
  · exact hR.slots t

/-- Is an operation carried out? As the abstract machine says. -/
theorem wanted_of {T : Nat → Av} {a : Act} {μ : Mp} {ops : Array Oper} {o : Oper} {g : Option (Nat × Bool)} {ao : AOp} {d : Option Nat} {b : Bool} (hg : guardOf ops o.guard = some g) (hs : ∀ t b', g = some (t, b') → ConA μ (T t) (a.tmps.getD t undef))
    (h : wantedA T ⟨d, ao, g⟩ = some b) : Region.wanted o (yielded ops a.tmps) = b := by
  unfold guardOf at hg
  unfold Region.wanted
  cases hog : o.guard with
  | none =>
    rw [hog] at hg
    simp only [Option.some.injEq] at hg
    subst hg
    simpa [wantedA] using h
  | some jb =>
    obtain ⟨j, bb⟩ := jb
    rw [hog] at hg
    simp only [Option.map_eq_some_iff] at hg
    obtain ⟨t, ht, rfl⟩ := hg
    have hc := hs t bb rfl
    simp only [wantedA] at h
    split at h
    · rename_i x hx
      rw [hx] at hc
      have hv : a.tmps.getD t undef = .bool x := hc
      have hv2 : a.tmps[t]? = some (.bool x) := by
        rw [Array.getD_eq_getD_getElem?] at hv
        cases hq : a.tmps[t]? with
        | none => rw [hq] at hv; simp [undef] at hv
        | some u => rw [hq] at hv; simpa using hv
      simp only [Option.some.injEq] at h
      simp only [yielded, ht, Option.bind_some, hv2]
      rw [← h]
      cases x <;> cases bb <;> rfl
    · rename_i l hx
      rw [hx] at hc
      obtain ⟨vs, hv, _⟩ := hc
      simp only [Option.some.injEq] at h
      subst h
      simp only [yielded, ht, Option.bind_some]
      rw [Array.getD_eq_getD_getElem?] at hv
      cases hq : a.tmps[t]? with
      | none => rfl
      | some u =>
        rw [hq] at hv
        simp only [Option.getD_some] at hv
        subst hv
        rfl
    · simp at h

theorem slot_ops {T : Nat → Av} {a : Act} {μ : Mp} (hs : ∀ t, ConA μ (T t) (a.tmps.getD t undef)) (X : Operand) : ConA μ (ev T (opdOf X)) (a.eval X) := by
  cases X with
  | tmp t => exact hs t
  | const v =>
    show ConA μ (avOf v) v
    unfold avOf
    split
    · rename_i c hc
      unfold ceOf at hc
      split at hc <;> simp only [Option.some.injEq, reduceCtorEq] at hc <;> subst hc <;> rfl
    · split
      · rename_i cs hcs
        split
        · rename_i l hl
          obtain ⟨h1, h2⟩ := zero_con (μ := μ) hl
          exact ⟨cs.toList, by simp, h1, h2⟩
        · trivial
      · trivial
  | global gg => trivial
  | func f => exact ⟨[], rfl, trivial⟩

end Go.Abs
