/-
  Each operation that the abstract machine carries out, the model carries out as well.
-/
import Derived.Test.YtenccnpdaldkfaaAbs9
namespace Go.Abs

variable {P : Program} {μ : Mp} {T : Nat → Av} {w : World} {g : Mem} {a : Act} {o : Oper} {K : Act → World → Prop} {Q : Exit → Act → World → Prop}

theorem value_wp {v' : Value} {w' : World} (h : (execOp a.eval o).run P w = .ok (.value v') w') (k : K (a.put o.dst v') w') : o.wp P a w K Q := by
  unfold Oper.wp
  rw [h]
  exact k
theorem skip_wp {w' : World} (h : (execOp a.eval o).run P w = .ok .skip w') (k : K (a.put o.dst undef) w') : o.wp P a w K Q := by
  unfold Oper.wp
  rw [h]
  exact k
theorem enter_wp {f : FuncId} {vals : Array Value} (h : (execOp a.eval o).run P w = .ok (.enter f vals) w) (k : Calls P f vals w fun e w' => ∃ v', e = .returned v' ∧ K (a.put o.dst v') w') : o.wp P a w K Q := by
  unfold Oper.wp
  rw [h]
  refine Calls.mono k ?_
  rintro e w' ⟨v', rfl, hk⟩
  exact hk

def newKey (d : Option Nat) (s : St) : AOp → Option Key
  | .allocL .. | .boxL .. | .mkSlL .. => d.map .inl
  | .allocH .. | .boxH .. | .mkSlH .. | .make .. => some (.inr s.h.nx)
  | _ => none

def readKey (T : Nat → Av) : AOp → Option Key
  | .load1 x | .loadN _ x => (ev T x).ptr?.map (·.1)
  | .convSB x =>
    match ev T x with
    | .v (.c (.sl q _ _ _)) => some q
    | _ => none
  | _ => none

def outMem (ao : AOp) (d : Option Nat) (s s' : St) (g : Mem) : Mem :=
  if ao.heavy = true then s'.get else fun q => if newKey d s ao = some q then s'.get q else g q

def isNew (ao : AOp) (d : Option Nat) (s s' : St) (q : Key) : Prop := newOf s.h.nx s'.h.nx q ∨ newKey d s ao = some q

/-- All that an operation leaves behind it. -/
def After (ao : AOp) (d : Option Nat) (s s' : St) (g : Mem) (μ : Mp) (w : World) (v : Av) (v' : Value) (w' : World) : Prop :=
  ∃ μ', ConA μ' v v' ∧ Post μ g (outMem ao d s s' g) w μ' w' (isNew ao d s s')

theorem after_pure {ao : AOp} {d : Option Nat} {s : St} {v : Av} {v' : Value} (hh : ao.heavy = false) (hk : newKey d s ao = none) (hs : Sim μ g w) (hc : ConA μ v v') : After ao d s s g μ w v v' w := by
  refine ⟨μ, hc, Le.refl μ, ?_, Frm.refl _ _ _, fun q pl h => .inl h⟩
  unfold outMem
  simp only [hh, Bool.false_eq_true, if_false, hk, reduceCtorEq]
  exact hs

theorem pure_wp {ao : AOp} {s : St} {v : Av} (hh : ao.heavy = false) (hk : newKey o.dst s ao = none) (hs : Sim μ g w) (hg : Gives P a.eval o w μ v) (k : ∀ v' w', After ao o.dst s s g μ w v v' w' → K (a.put o.dst v') w') : o.wp P a w K Q := by
  obtain ⟨v', hr, hc⟩ := hg
  exact value_wp hr (k v' w (after_pure hh hk hs hc))

theorem makes_wp {ao : AOp} {s s' : St} {v : Av} {q : Key} {r : Row} (hh : ao.heavy = false) (hk : newKey o.dst s ao = some q) (hr' : s'.get q = some r) (hq : μ q = none) (hs : Sim μ g w) (hm : Makes P a.eval o w μ v q r)
    (k : ∀ v' w', After ao o.dst s s' g μ w v v' w' → K (a.put o.dst v') w') : o.wp P a w K Q := by
  obtain ⟨v', cs, e, cap, hr, hl, hc, hn, hcap, hcon⟩ := hm
  refine value_wp hr (k _ _ ⟨_, hcon, upm_le hq, ?_, Frm.alloc _ _ _ _, ?_⟩)
  · have e1 : outMem ao o.dst s s' g = upg g q r := by
      funext k
      unfold outMem upg
      simp only [hh, Bool.false_eq_true, if_false, hk, Option.some.injEq]
      by_cases h : q = k
      · subst h; simp [hr']
      · rw [if_neg h, if_neg (fun h' => h h'.symm)]
    rw [e1]
    exact hs.new hq hl hc hn hcap
  · intro k pl hk'
    unfold upm at hk'
    split at hk'
    · rename_i he
      obtain rfl := Option.some.inj hk'
      subst he
      exact .inr ⟨.inr hk, .inl (Nat.le_refl _)⟩
    · exact .inl hk'

theorem get_push_self {s : St} {r : Row} : (s.push r).get (.inr s.h.nx) = some r := by rw [get_push]; simp [upg]
theorem get_set_self {s : St} {q : Key} {r : Row} : (s.set q (some r)).get q = some r := by rw [get_set]; simp [upg]

theorem opt_con {T : Nat → Av} {ρ : Operand → Value} {x : Option Operand} (h : ∀ X, x = some X → ConA μ (ev T (opdOf X)) (ρ X)) : OptCon μ T ρ x := by
  cases x with
  | none => trivial
  | some X => exact h X rfl

theorem resolve_run {c : Call} {f : FuncId} (hc : c.callee = .value (.func f)) (hen : Enterable P f) (ho : o.op = .call c) : (execOp a.eval o).run P w = .ok (.enter f (c.args.map a.eval)) w := by
  obtain ⟨fn, hf, hn, hb⟩ := hen
  have hn' : ¬ (fn.name = "runtime.NumGoroutine") := by
    intro h
    simp [h] at hn
  have hb' : ¬ (fn.body = none) := by
    intro h
    simp [h] at hb
  simp [execOp, ho, hc, resolve, Act.eval, Deferred.ofValue, invoke, callFunc, program, Sem.run, hf, hn', hb']

theorem call_wp {env : Env} (henv : EnvOk P env) {f : Nat} {xs : List Av} {s s' : St} {v : Av} {vals : List Value} {ao : AOp} (hh : ao.heavy = true) (hs : Sim μ s.get w) (hx : ConAs μ xs vals) (h : callA env f xs s = some (v, s'))
    (hnew : ∀ b, s.h.nx ≤ b → b < s'.h.nx → μ (.inr b) = none) (hwf : ∀ b, s.h.nx ≤ b → s.h.hp b = none) (hrun : Enterable P f → (execOp a.eval o).run P w = .ok (.enter f vals.toArray) w)
    (k : ∀ v' w', After ao o.dst s s' s.get μ w v v' w' → K (a.put o.dst v') w') : o.wp P a w K Q := by
  obtain ⟨hen, hcalls⟩ := call_sound henv hs hx h hnew hwf
  refine enter_wp (hrun hen) (hcalls.mono ?_)
  rintro e w' ⟨v', μ', rfl, hc, hpost⟩
  refine ⟨v', rfl, k v' w' ⟨μ', hc, hpost.le, ?_, hpost.frm, ?_⟩⟩
  · simp only [outMem, hh, if_true]
    exact hpost.sim
  · intro q pl hq
    rcases hpost.new q pl hq with h1 | ⟨h1, h2⟩
    · exact .inl h1
    · exact .inr ⟨.inl h1, h2⟩

theorem appendA_nx {s s' : St} {sz : Nat} {x y r : Ce} (h : appendA s sz x y = some (r, s')) : s'.h.nx = s.h.nx + 1 ∨ (s' = s ∧ r = .nils ∧ x = .nils ∧ y.slen = some 0) := by
  unfold appendA at h
  split at h
  · rename_i new m hel hm
    split at h
    · split at h
      · rename_i h0
        simp only [Option.some.injEq, Prod.mk.injEq] at h
        exact .inr ⟨h.2.symm, h.1.symm, rfl, by rw [hm, h0]⟩
      · split at h
        · simp only [Option.some.injEq, Prod.mk.injEq] at h
          exact .inl (by rw [← h.2]; rfl)
        · simp at h
    · split at h
      · split at h
        · simp only [Option.some.injEq, Prod.mk.injEq] at h
          refine .inl ?_
          rw [← h.2]
          show (St.set _ _ _).h.nx + 1 = _
          rw [nx_set]
        · simp at h
      · simp at h
    · split at h
      · split at h
        · simp only [Option.some.injEq, Prod.mk.injEq] at h
          exact .inl (by rw [← h.2]; rfl)
        · simp at h
      · simp at h
    · simp at h
  · simp at h

theorem op_wp {env : Env} (henv : EnvOk P env) {loc : Bool} {s s' : St} {v : Av} (hs : Sim μ g w) (hops : ∀ X ∈ o.op.operands, ConA μ (ev T (opdOf X)) (a.eval X))
    (h : aop env o.dst T s (stripOp P loc o.op) = some (v, s'))
    (hheavy : (stripOp P loc o.op).heavy = true → g = s.get) (hread : ∀ q, readKey T (stripOp P loc o.op) = some q → g q = s.get q)
    (hnew : ∀ b, s.h.nx ≤ b → b < s'.h.nx → μ (.inr b) = none) (hnewK : ∀ q, newKey o.dst s (stripOp P loc o.op) = some q → μ q = none)
    (hwf : ∀ b, s.h.nx ≤ b → s.h.hp b = none) (k : ∀ v' w', After (stripOp P loc o.op) o.dst s s' g μ w v v' w' → K (a.put o.dst v') w') : o.wp P a w K Q := by
  cases hop : o.op with
  | move x =>
    simp only [hop, stripOp] at h hnewK k
    simp only [aop, Option.some.injEq, Prod.mk.injEq] at h
    obtain ⟨rfl, rfl⟩ := h
    exact pure_wp rfl rfl hs (g_mov (.inl hop) (hops x (by simp [hop, Op.operands]))) k
  | assign x =>
    simp only [hop, stripOp] at h hnewK k
    simp only [aop, Option.some.injEq, Prod.mk.injEq] at h
    obtain ⟨rfl, rfl⟩ := h
    exact pure_wp rfl rfl hs (g_mov (.inr hop) (hops x (by simp [hop, Op.operands]))) k
  | pick c x y =>
    simp only [hop, stripOp] at h hnewK k
    simp only [aop, Option.map_eq_some_iff] at h
    obtain ⟨t, ht, h⟩ := h
    simp only [Prod.mk.injEq] at h
    obtain ⟨rfl, rfl⟩ := h
    exact pure_wp rfl rfl hs (g_pick hop (hops c (by simp [hop, Op.operands])) ht (hops x (by simp [hop, Op.operands])) (hops y (by simp [hop, Op.operands]))) k
  | alloc e =>
    simp only [hop, stripOp] at h hnewK k
    split at h
    · rename_i z n hz hn
      simp only [hz, hn] at hnewK k
      split at h
      · rename_i hl
        simp only [hl, if_true] at hnewK k
        cases loc with
        | true =>
          simp only [if_true] at h hnewK k
          simp only [aop, Option.map_eq_some_iff, Prod.mk.injEq] at h
          obtain ⟨d, hd, rfl, rfl⟩ := h
          have hk : newKey o.dst s (.allocL n z) = some (.inl d) := by simp [newKey, hd]
          exact makes_wp rfl hk get_set_self (hnewK _ hk) hs (m_alloc hop hz hl _) k
        | false =>
          simp only [Bool.false_eq_true, if_false] at h hnewK k
          simp only [aop, Option.some.injEq, Prod.mk.injEq] at h
          obtain ⟨rfl, rfl⟩ := h
          have hk : newKey o.dst s (.allocH n z) = some (.inr s.h.nx) := rfl
          exact makes_wp rfl hk get_push_self (hnewK _ hk) hs (m_alloc hop hz hl _) k
      · simp [aop] at h
    · simp [aop] at h
  | box e x =>
    simp only [hop, stripOp] at h hnewK k
    split at h
    · rename_i n hn
      simp only [hn] at hnewK k
      cases loc with
      | true =>
        simp only [if_true] at h hnewK k
        simp only [aop, Option.bind_eq_some_iff] at h
        obtain ⟨d, hd, t, ht, h⟩ := h
        split at h
        · rename_i hcond
          simp only [Option.some.injEq, Prod.mk.injEq] at h
          obtain ⟨rfl, rfl⟩ := h
          have hk : newKey o.dst s (.boxL n (opdOf x)) = some (.inl d) := by simp [newKey, hd]
          exact makes_wp rfl hk get_set_self (hnewK _ hk) hs (m_box hop (hops x (by simp [hop, Op.operands])) ht hcond.1 hcond.2 _) k
        · simp at h
      | false =>
        simp only [Bool.false_eq_true, if_false] at h hnewK k
        simp only [aop, Option.bind_eq_some_iff] at h
        obtain ⟨t, ht, h⟩ := h
        split at h
        · rename_i hcond
          simp only [Option.some.injEq, Prod.mk.injEq] at h
          obtain ⟨rfl, rfl⟩ := h
          have hk : newKey o.dst s (.boxH n (opdOf x)) = some (.inr s.h.nx) := rfl
          exact makes_wp rfl hk get_push_self (hnewK _ hk) hs (m_box hop (hops x (by simp [hop, Op.operands])) ht hcond.1 hcond.2 _) k
        · simp at h
    · simp [aop] at h
  | build t parts =>
    simp only [hop, stripOp] at h hnewK k
    split at h
    · rename_i fs z ht hz
      simp only [ht, hz] at hnewK k
      split at h
      · rename_i ps hps
        simp only [hps] at hnewK k
        split at h
        · rename_i l hl
          simp only [hl] at hnewK k
          simp only [aop, Option.map_eq_some_iff, Prod.mk.injEq] at h
          obtain ⟨r, hr, rfl, rfl⟩ := h
          exact pure_wp rfl rfl hs (g_build hop ht hz hps hl hr (fun p hp => hops p.2 (by simp only [hop, Op.operands]; simp; exact ⟨p.1, by simpa using hp⟩))) k
        · simp [aop] at h
      · simp [aop] at h
    · simp [aop] at h
  | buildSlice t len parts =>
    simp only [hop, stripOp] at h hnewK k
    split at h
    · rename_i e ht
      simp only [ht] at hnewK k
      split at h
      · rename_i n z hn hz
        simp only [hn, hz] at hnewK k
        split at h
        · rename_i hcond
          obtain ⟨h1, h2, h3⟩ := id hcond
          simp only [hcond, if_true] at hnewK k
          split at h
          · rename_i l hl
            simp only [hl] at hnewK k
            have hpa : ∀ p ∈ parts.toList, ConA μ (ev T (opdOf p.2)) (a.eval p.2) := fun p hp => hops p.2 (by simp only [hop, Op.operands]; simp; exact ⟨p.1, by simpa using hp⟩)
            cases loc with
            | true =>
              simp only [if_true] at h hnewK k
              simp only [aop, Option.bind_eq_some_iff, Option.map_eq_some_iff, Prod.mk.injEq] at h
              obtain ⟨d, hd, r, hr, rfl, rfl⟩ := h
              have hk : newKey o.dst s (.mkSlL n len z l) = some (.inl d) := by simp [newKey, hd]
              exact makes_wp rfl hk get_set_self (hnewK _ hk) hs (m_mkSl hop ht hn hz h1 h2 h3 hl hr hpa _).2 k
            | false =>
              simp only [Bool.false_eq_true, if_false] at h hnewK k
              simp only [aop, Option.map_eq_some_iff, Prod.mk.injEq] at h
              obtain ⟨r, hr, rfl, rfl⟩ := h
              have hk : newKey o.dst s (.mkSlH n len z l) = some (.inr s.h.nx) := rfl
              exact makes_wp rfl hk get_push_self (hnewK _ hk) hs (m_mkSl hop ht hn hz h1 h2 h3 hl hr hpa _).1 k
          · simp [aop] at h
        · simp [aop] at h
      · simp [aop] at h
    · simp [aop] at h
  | load t x =>
    simp only [hop, stripOp] at h hnewK k hread
    split at h
    · rename_i n ht hn
      simp only [ht, hn] at hnewK k hread
      simp only [aop, Option.bind_eq_some_iff] at h
      obtain ⟨p, hp, r, hr, h⟩ := h
      split at h
      · rename_i hfit
        simp only [Option.some.injEq, Prod.mk.injEq] at h
        obtain ⟨rfl, rfl⟩ := h
        refine pure_wp rfl rfl hs (g_loadN hop ht hn hs (hops x (by simp [hop, Op.operands])) hp ?_ hfit) k
        rw [hread p.1 (by simp [readKey, hp])]
        exact hr
      · simp at h
    · rename_i n ht
      simp only [ht] at hnewK k hread
      simp only [aop, Option.bind_eq_some_iff, Option.map_eq_some_iff, Prod.mk.injEq] at h
      obtain ⟨p, hp, r, hr, c, hc, rfl, rfl⟩ := h
      refine pure_wp rfl rfl hs (g_load1 hop ht hs (hops x (by simp [hop, Op.operands])) hp ?_ hc) k
      rw [hread p.1 (by simp [readKey, hp])]
      exact hr
    · simp [aop] at h
  | store t x y =>
    simp only [hop, stripOp] at h hnewK k hheavy
    split at h
    · rename_i n hn
      simp only [hn] at hnewK k hheavy
      obtain rfl := hheavy rfl
      simp only [aop, Option.bind_eq_some_iff] at h
      obtain ⟨p, hp, r, hr, t', ht', h⟩ := h
      split at h
      · rename_i hcond
        obtain ⟨h1, h2, h3, h4⟩ := hcond
        simp only [Option.some.injEq, Prod.mk.injEq] at h
        obtain ⟨rfl, rfl⟩ := h
        obtain ⟨w', hrun, hpost⟩ := h_store hop hn hs (hops x (by simp [hop, Op.operands])) (hops y (by simp [hop, Op.operands])) hp ht' hr h1 h2 h3 h4
        refine skip_wp hrun (k undef w' ⟨μ, ⟨[], rfl, trivial⟩, hpost.le, ?_, hpost.frm, ?_⟩)
        · simp only [outMem, AOp.heavy, if_true, get_set]
          exact hpost.sim
        · intro q pl hq
          rcases hpost.new q pl hq with h5 | ⟨h5, _⟩
          · exact .inl h5
          · exact h5.elim
      · simp at h
    · simp [aop] at h
  | nilCheck x =>
    simp only [hop, stripOp] at h hnewK k
    simp only [aop, Option.map_eq_some_iff, Prod.mk.injEq] at h
    obtain ⟨p, hp, rfl, rfl⟩ := h
    exact pure_wp rfl rfl hs (g_nilchk hop (hops x (by simp [hop, Op.operands])) hp) k
  | binOp op t x y t' =>
    have cx := hops x (by simp [hop, Op.operands])
    have cy := hops y (by simp [hop, Op.operands])
    have hbin : ∀ {s' : St} {v : Av} {ao : AOp}, ao = .bin op (opdOf x) (opdOf y) → aop env o.dst T s ao = some (v, s') → (∀ v' w', After ao o.dst s s' g μ w v v' w' → K (a.put o.dst v') w') → o.wp P a w K Q := by
      intro s' v ao hao h k
      subst hao
      simp only [aop, Option.bind_eq_some_iff, Option.map_eq_some_iff, Prod.mk.injEq] at h
      obtain ⟨ca, hca, cb, hcb, r, hr, rfl, rfl⟩ := h
      exact pure_wp rfl rfl hs (g_bin hop cx cy hca hcb hr) k
    have hB : ∀ (neg : Bool) {s' : St} {v : Av} {ao : AOp}, P.underlying t = some .bool → op = (if neg then .neq else .eql) → ao = .binB neg (opdOf x) (opdOf y) → aop env o.dst T s ao = some (v, s') → (∀ v' w', After ao o.dst s s' g μ w v v' w' → K (a.put o.dst v') w') → o.wp P a w K Q := by
      intro neg s' v ao ht hn hao h k
      subst hao
      simp only [aop, Option.bind_eq_some_iff, Option.map_eq_some_iff, Prod.mk.injEq] at h
      obtain ⟨ca, hca, cb, hcb, rfl, rfl⟩ := h
      exact pure_wp rfl rfl hs (g_binB hop ht cx cy hca hcb neg hn) k
    have hS : ∀ (neg : Bool) {fs : Array Field} {ks : List Nat} {s' : St} {v : Av} {ao : AOp}, P.underlying t = some (.struct fs) → flatKs P 0 fs.toList = some ks → P.stoodInHeld t = false ∧ P.eqGuardType P.depth t = false → op = (if neg then .neq else .eql) → ao = .binS ks neg (opdOf x) (opdOf y) → aop env o.dst T s ao = some (v, s') → (∀ v' w', After ao o.dst s s' g μ w v v' w' → K (a.put o.dst v') w') → o.wp P a w K Q := by
      intro neg fs ks s' v ao ht hks hst hn hao h k
      subst hao
      simp only [aop, Option.bind_eq_some_iff, Option.map_eq_some_iff, Prod.mk.injEq] at h
      obtain ⟨ca, hca, cb, hcb, r, hr, rfl, rfl⟩ := h
      exact pure_wp rfl rfl hs (g_binS hop ht hks hst.1 hst.2 cx cy hca hcb hr neg hn) k
    simp only [hop, stripOp] at h k
    split at h
    · split at h
      · rename_i ht
        simp only [ht] at k
        exact hbin rfl h k
      · rename_i ht
        simp only [ht] at k
        exact hbin rfl h k
      · rename_i ht
        simp only [ht] at k
        exact hB false ht rfl rfl h k
      · rename_i fs ht
        simp only [ht] at k
        split at h
        · rename_i ks hks
          simp only [hks] at k
          split at h
          · rename_i hcond
            simp only [hcond, and_self, if_true] at k
            exact hS false ht hks hcond rfl rfl h k
          · simp [aop] at h
        · simp [aop] at h
      · simp [aop] at h
    · split at h
      · rename_i ht
        simp only [ht] at k
        exact hbin rfl h k
      · rename_i ht
        simp only [ht] at k
        exact hbin rfl h k
      · rename_i ht
        simp only [ht] at k
        exact hB true ht rfl rfl h k
      · rename_i fs ht
        simp only [ht] at k
        split at h
        · rename_i ks hks
          simp only [hks] at k
          split at h
          · rename_i hcond
            simp only [hcond, and_self, if_true] at k
            exact hS true ht hks hcond rfl rfl h k
          · simp [aop] at h
        · simp [aop] at h
      · simp [aop] at h
    · rename_i h1 h2
      cases op <;> first | exact hbin rfl h k | exact absurd rfl h1 | exact absurd rfl h2
  | unOp op t x =>
    simp only [hop, stripOp] at h hnewK k
    simp only [aop, Option.map_eq_some_iff, Prod.mk.injEq] at h
    obtain ⟨r, hr, rfl, rfl⟩ := h
    exact pure_wp rfl rfl hs (g_un hop (hops x (by simp [hop, Op.operands])) hr) k
  | convert sT dT x =>
    simp only [hop, stripOp] at h hnewK k hread
    split at h
    · rename_i k0 k1 h1 h2
      simp only [h1, h2] at hnewK k
      simp only [aop, Option.map_eq_some_iff, Prod.mk.injEq] at h
      obtain ⟨n, hn, rfl, rfl⟩ := h
      exact pure_wp rfl rfl hs (g_conv hop h1 h2 (hops x (by simp [hop, Op.operands])) hn) k
    · rename_i e h1 h2
      simp only [h1, h2] at hnewK k hread
      split at h
      · rename_i he
        simp only [he] at hnewK k hread
        simp only [aop, Option.bind_eq_some_iff, Option.map_eq_some_iff, Prod.mk.injEq] at h
        obtain ⟨c, hc, l, hl, b, hb, rfl, rfl⟩ := h
        refine pure_wp rfl rfl hs (g_convSB hop h1 h2 he (s := s) ?_ hs (hops x (by simp [hop, Op.operands])) hc hl hb) k
        rintro q r ⟨off, n, m, rfl⟩ hr
        rw [hread q (by simp only [readKey, ev_ce hc])]
        exact hr
      · simp [aop] at h
    · simp [aop] at h
  | makeFunc fn first captured =>
    cases fn with
    | func f =>
      simp only [hop, stripOp] at h hnewK k
      split at h
      · rename_i hf
        simp only [hf, if_true] at hnewK k
        simp only [aop, Option.map_eq_some_iff, Prod.mk.injEq] at h
        obtain ⟨l, hl, rfl, rfl⟩ := h
        exact pure_wp rfl rfl hs (g_mkfn hop hf (fun X hX => hops X (by simp only [hop, Op.operands]; simp at hX ⊢; exact .inr hX)) hl) k
      · simp [aop] at h
    | _ => simp [hop, stripOp, aop] at h
  | makeSlice t l c =>
    simp only [hop, stripOp] at h hnewK k
    split at h
    · rename_i e ht
      simp only [ht] at hnewK k
      split at h
      · rename_i n z hn hz
        simp only [hn, hz] at hnewK k
        split at h
        · rename_i hcond
          obtain ⟨h1, h2, h3⟩ := id hcond
          simp only [hcond, if_true] at hnewK k
          simp only [aop, Option.bind_eq_some_iff] at h
          obtain ⟨m, hm, m', hm', h⟩ := h
          split at h
          · rename_i hc2
            obtain ⟨rfl, h4, h5⟩ := hc2
            simp only [Option.some.injEq, Prod.mk.injEq] at h
            obtain ⟨rfl, rfl⟩ := h
            have hk : newKey o.dst s (.make n z (opdOf l) (opdOf c)) = some (.inr s.h.nx) := rfl
            exact makes_wp rfl hk get_push_self (hnewK _ hk) hs (m_make hop ht hn hz h1 h2 h3 (hops l (by simp [hop, Op.operands])) (hops c (by simp [hop, Op.operands])) hm hm' h4 h5 _) k
          · simp at h
        · simp [aop] at h
      · simp [aop] at h
    · simp [aop] at h
  | slice t x lo hi mx =>
    simp only [hop, stripOp] at h hnewK k
    have clo : OptCon μ T a.eval lo := opt_con fun X hX => hops X (by simp [hop, Op.operands, hX])
    have chi : OptCon μ T a.eval hi := opt_con fun X hX => hops X (by simp [hop, Op.operands, hX])
    have cmx : OptCon μ T a.eval mx := opt_con fun X hX => hops X (by simp [hop, Op.operands, hX])
    split at h
    · rename_i e h1
      simp only [h1] at hnewK k
      split at h
      · rename_i n h2
        simp only [h2] at hnewK k
        simp only [aop, Option.bind_eq_some_iff] at h
        obtain ⟨c, hc, m, hm, mm, hmm, hh, hhh, l, hl, h⟩ := h
        split at h
        · rename_i hcond
          obtain ⟨c1, c2, c3, c4⟩ := hcond
          split at h
          · simp only [Option.some.injEq, Prod.mk.injEq] at h
            obtain ⟨rfl, rfl⟩ := h
            rename_i q off n' md
            simp only [Ce.slen, Option.some.injEq] at hm
            subst hm
            exact pure_wp rfl rfl hs (g_slice hop h1 h2 (hops x (by simp [hop, Op.operands])) clo chi cmx hc rfl hmm hhh hl c1 c2 c3 c4 (.inr ⟨_, _, _, rfl, rfl⟩)) k
          · simp only [Option.some.injEq, Prod.mk.injEq] at h
            obtain ⟨rfl, rfl⟩ := h
            exact pure_wp rfl rfl hs (g_slice hop h1 h2 (hops x (by simp [hop, Op.operands])) clo chi cmx hc hm hmm hhh hl c1 c2 c3 c4 (.inl ⟨rfl, rfl⟩)) k
          · simp at h
        · simp at h
      · simp [aop] at h
    · rename_i h1
      simp only [h1] at hnewK k
      split at h
      · rename_i hnone
        simp only [hnone, if_true] at hnewK k
        have : mx = none := by simpa using hnone
        subst this
        simp only [aop, Option.bind_eq_some_iff] at h
        obtain ⟨st, hst, hh, hhh, l, hl, h⟩ := h
        split at h
        · rename_i hcond
          obtain ⟨c1, c2, c3⟩ := hcond
          simp only [Option.some.injEq, Prod.mk.injEq] at h
          obtain ⟨rfl, rfl⟩ := h
          exact pure_wp rfl rfl hs (g_sliceS hop h1 (hops x (by simp [hop, Op.operands])) clo chi hst hhh hl c1 c2 c3) k
        · simp at h
      · simp [aop] at h
    · simp [aop] at h
  | fieldAddr sT x f =>
    simp only [hop, stripOp] at h hnewK k
    split at h
    · rename_i fs h1
      simp only [h1] at hnewK k
      split at h
      · rename_i fd h2
        simp only [h2] at hnewK k
        split at h
        · rename_i n h3
          simp only [h3] at hnewK k
          split at h
          · simp [aop] at h
          · rename_i h4
            simp only [h4, if_false] at hnewK k
            simp only [aop, Option.map_eq_some_iff, Prod.mk.injEq] at h
            obtain ⟨p, hp, rfl, rfl⟩ := h
            exact pure_wp rfl rfl hs (g_faddr hop h1 h2 h3 h4 (hops x (by simp [hop, Op.operands])) hp) k
        · simp [aop] at h
      · simp [aop] at h
    · simp [aop] at h
  | indexAddr t x i =>
    simp only [hop, stripOp] at h hnewK k
    split at h
    · rename_i e h1
      simp only [h1] at hnewK k
      split at h
      · rename_i n h2
        simp only [h2] at hnewK k
        simp only [aop, Option.bind_eq_some_iff] at h
        obtain ⟨j, hj, h⟩ := h
        split at h
        · rename_i q off len m hx
          split at h
          · rename_i hcond
            simp only [Option.some.injEq, Prod.mk.injEq] at h
            obtain ⟨rfl, rfl⟩ := h
            exact pure_wp rfl rfl hs (g_iaddr hop h1 h2 (hops x (by simp [hop, Op.operands])) (hops i (by simp [hop, Op.operands])) hx hj hcond.1 hcond.2) k
          · simp at h
        · simp at h
      · simp [aop] at h
    · simp [aop] at h
  | index t x i =>
    simp only [hop, stripOp] at h hnewK k
    split at h
    · rename_i h1
      simp only [h1] at hnewK k
      simp only [aop, Option.bind_eq_some_iff] at h
      obtain ⟨st, hst, j, hj, h⟩ := h
      split at h
      · rename_i h0
        simp only [Option.map_eq_some_iff, Prod.mk.injEq] at h
        obtain ⟨b, hb, rfl, rfl⟩ := h
        exact pure_wp rfl rfl hs (g_indexS hop h1 (hops x (by simp [hop, Op.operands])) (hops i (by simp [hop, Op.operands])) hst hj h0 hb) k
      · simp at h
    · simp [aop] at h
  | extract x i =>
    simp only [hop, stripOp] at h hnewK k
    simp only [aop] at h
    split at h
    · rename_i l hl
      simp only [Option.map_eq_some_iff, Prod.mk.injEq] at h
      obtain ⟨t, ht, rfl, rfl⟩ := h
      exact pure_wp rfl rfl hs (g_extract hop (hops x (by simp [hop, Op.operands])) hl ht) k
    · simp at h
  | call c =>
    have hargs : ∀ X ∈ c.args.toList, ConA μ (ev T (opdOf X)) (a.eval X) := fun X hX => hops X (by simp only [hop, Op.operands, Call.operands]; simp; exact .inr (by simpa using hX))
    simp only [hop, stripOp] at h hnewK k hheavy
    split at h
    · rename_i f hc
      simp only [hc] at hnewK k hheavy
      obtain rfl := hheavy rfl
      simp only [aop] at h
      refine call_wp henv (ao := .call f (opdsOf c.args.toList)) rfl hs (opds_cons hargs) h hnew hwf (fun hen => ?_) k
      have := resolve_run (P := P) (w := w) (a := a) hc hen hop
      rw [this, ← Array.toList_map, Array.toArray_toList]
    · rename_i x hx hc
      have hV : ∀ {ao : AOp}, ao = .callV (opdOf x) (opdsOf c.args.toList) → (ao.heavy = true → g = s.get) → (∀ v' w', After ao o.dst s s' g μ w v v' w' → K (a.put o.dst v') w') → o.wp P a w K Q := by
        intro ao hao hheavy k
        subst hao
        obtain rfl := hheavy rfl
        simp only [aop] at h
        split at h
        · rename_i f ps hf
          have hxv := hops x (by simp [hop, Op.operands, Call.operands, hc])
          rw [hf] at hxv
          obtain ⟨l, hl, hps⟩ := hxv
          refine call_wp henv (ao := .callV (opdOf x) (opdsOf c.args.toList)) rfl hs ((opds_cons hargs).append hps.as) h hnew hwf (fun hen => ?_) k
          obtain ⟨fn, hfn, hn, hb⟩ := hen
          have hn' : ¬ (fn.name = "runtime.NumGoroutine") := by
            intro h
            simp [h] at hn
          have hb' : ¬ (fn.body = none) := by
            intro h
            simp [h] at hb
          have he : (c.args.toList.map a.eval ++ l).toArray = c.args.map a.eval ++ l.toArray := by
            rw [← Array.toList_map]
            simp
          rw [he]
          simp [execOp, hop, hc, resolve, hl, Deferred.ofValue, invoke, callFunc, program, Sem.run, hfn, hn', hb']
        · simp at h
      cases x with
      | func f => exact absurd rfl (hx f)
      | tmp t => simp only [hc] at k hheavy; exact hV rfl hheavy k
      | const v => simp only [hc] at k hheavy; exact hV rfl hheavy k
      | global gg => simp only [hc] at k hheavy; exact hV rfl hheavy k
    · rename_i hc
      simp only [hc] at hnewK k
      split at h
      · rename_i x t hxs hts
        simp only [hxs, hts] at hnewK k
        split at h
        · rename_i e hu
          simp only [hu] at hnewK k
          have hcx := hargs x (by simp [hxs])
          simp only [aop] at h
          split at h
          · rename_i hx
            simp only [Option.some.injEq, Prod.mk.injEq] at h
            obtain ⟨rfl, rfl⟩ := h
            exact pure_wp rfl rfl hs (g_len (n := 0) hop hc hxs hts hu hcx (.inl ⟨hx, rfl⟩)) k
          · rename_i q off n m hx
            simp only [Option.some.injEq, Prod.mk.injEq] at h
            obtain ⟨rfl, rfl⟩ := h
            exact pure_wp rfl rfl hs (g_len hop hc hxs hts hu hcx (.inr ⟨q, off, m, hx⟩)) k
          · simp at h
        · rename_i hu
          simp only [hu] at hnewK k
          have hcx := hargs x (by simp [hxs])
          simp only [aop, Option.map_eq_some_iff, Prod.mk.injEq] at h
          obtain ⟨st, hst, rfl, rfl⟩ := h
          exact pure_wp rfl rfl hs (g_lenS hop hc hxs hts hu hcx hst) k
        · simp [aop] at h
      · simp [aop] at h
    · rename_i hc
      simp only [hc] at hnewK k hheavy
      split at h
      · rename_i x y t u hxs hts
        simp only [hxs, hts] at hnewK k hheavy
        split at h
        · rename_i e e' h1 h2
          simp only [h1, h2] at hnewK k hheavy
          split at h
          · rename_i n z h3 h4
            simp only [h3, h4] at hnewK k hheavy
            split at h
            · rename_i hcond
              obtain ⟨c1, c2, c3⟩ := id hcond
              simp only [hcond, and_self, if_true] at hnewK k hheavy
              obtain rfl := hheavy rfl
              simp only [aop, Option.bind_eq_some_iff, Option.map_eq_some_iff, Prod.mk.injEq] at h
              obtain ⟨ca, hca, cb, hcb, ⟨r, s2⟩, hap, rfl, rfl⟩ := h
              obtain ⟨v', w', μ', hrun, hcon, hpost⟩ := h_append hop hc hxs hts h1 h2 h3 h4 c1 c3 hs (hargs x (by simp [hxs])) (hargs y (by simp [hxs])) hca hcb hap (fun he => hnew _ (Nat.le_refl _) (by have he' : s2.h.nx = s.h.nx + 1 := he; show s.h.nx < s2.h.nx; omega))
              refine value_wp hrun (k v' w' ⟨μ', hcon, hpost.le, ?_, hpost.frm, ?_⟩)
              · simp only [outMem, AOp.heavy, if_true]
                exact hpost.sim
              · intro q pl hq
                rcases hpost.new q pl hq with h5 | ⟨h5, h6⟩
                · exact .inl h5
                · exact .inr ⟨.inl h5, h6⟩
            · simp [aop] at h
          · simp [aop] at h
        · simp [aop] at h
      · simp [aop] at h
    · rename_i hc
      simp only [hc] at hnewK k
      simp only [aop, Option.bind_eq_some_iff] at h
      obtain ⟨l, hl, h⟩ := h
      split at h
      · simp at h
      · simp only [Option.some.injEq, Prod.mk.injEq] at h
        obtain ⟨rfl, rfl⟩ := h
        exact pure_wp rfl rfl hs (g_maxs hop hc hargs hl) k
    · rename_i hc
      simp only [hc] at hnewK k
      simp only [aop, Option.bind_eq_some_iff] at h
      obtain ⟨l, hl, h⟩ := h
      split at h
      · simp at h
      · simp only [Option.some.injEq, Prod.mk.injEq] at h
        obtain ⟨rfl, rfl⟩ := h
        exact pure_wp rfl rfl hs (g_mins hop hc hargs hl) k
    · simp [aop] at h
  | _ => simp [hop, stripOp, aop] at h

end Go.Abs
