/-
  A region of open order: whatever order the edges allow, it comes to what the text's order comes to.
-/
import Derived.Test.YtenccnpdaldkfaaAbs13
namespace Go.Abs

variable {P : Program}

/-- Behind the last place that fulfils p, among the first n. -/
noncomputable def lastP (p : Nat → Prop) : Nat → Nat
  | 0 => 0
  | n + 1 => open Classical in if p n then n + 1 else lastP p n

theorem lastP_le (p : Nat → Prop) : ∀ n, lastP p n ≤ n
  | 0 => Nat.le_refl _
  | n + 1 => by
    unfold lastP
    split
    · exact Nat.le_refl _
    · exact Nat.le_trans (lastP_le p n) (Nat.le_succ n)
theorem lastP_congr {p q : Nat → Prop} : ∀ n, (∀ i, i < n → (p i ↔ q i)) → lastP p n = lastP q n
  | 0, _ => rfl
  | n + 1, h => by
    unfold lastP
    have e := h n (Nat.lt_succ_self n)
    by_cases hp : p n
    · rw [if_pos hp, if_pos (e.1 hp)]
    · rw [if_neg hp, if_neg (fun hq => hp (e.2 hq)), lastP_congr n (fun i hi => h i (Nat.lt_succ_of_lt hi))]
theorem lastP_top {p : Nat → Prop} {j : Nat} (hp : p j) : ∀ n, j < n → (∀ i, j < i → i < n → ¬ p i) → lastP p n = j + 1
  | 0, h, _ => by omega
  | n + 1, h, hno => by
    unfold lastP
    by_cases hj : j = n
    · subst hj
      rw [if_pos hp]
    · rw [if_neg (hno n (by omega) (Nat.lt_succ_self n))]
      exact lastP_top hp n (by omega) (fun i h1 h2 => hno i h1 (by omega))
theorem lastP_cut {p : Nat → Prop} {j : Nat} : ∀ n, j ≤ n → (∀ i, j ≤ i → i < n → ¬ p i) → lastP p n = lastP p j
  | 0, h, _ => by
    have : j = 0 := by omega
    rw [this]
  | n + 1, h, hno => by
    by_cases hj : j = n + 1
    · rw [hj]
    · have e : lastP p (n + 1) = lastP p n := by
        rw [lastP]
        rw [if_neg (hno n (by omega) (Nat.lt_succ_self n))]
      rw [e]
      exact lastP_cut n (by omega) (fun i h1 h2 => hno i h1 (by omega))
theorem lastP_some {p : Nat → Prop} : ∀ n, lastP p n = 0 ∨ ∃ i, i < n ∧ p i ∧ lastP p n = i + 1
  | 0 => .inl rfl
  | n + 1 => by
    unfold lastP
    by_cases hp : p n
    · rw [if_pos hp]
      exact .inr ⟨n, Nat.lt_succ_self n, hp, rfl⟩
    · rw [if_neg hp]
      rcases lastP_some (p := p) n with h | ⟨i, h1, h2, h3⟩
      · exact .inl h
      · exact .inr ⟨i, by omega, h2, h3⟩

/-- What a quantity is, out of where it was changed last. -/
theorem last_value {α : Type} (f : Nat → α) : ∀ n, f n = f (lastP (fun i => f i ≠ f (i + 1)) n)
  | 0 => rfl
  | n + 1 => by
    unfold lastP
    by_cases h : f n ≠ f (n + 1)
    · rw [if_pos h]
    · rw [if_neg h, ← last_value f n]
      exact (Classical.not_not.1 h).symm

theorem mem_dedup {i : Nat} : ∀ {l : List Nat}, i ∈ dedup l → i ∈ l
  | [], h => by simp [dedup] at h
  | x :: r, h => by
    unfold dedup at h
    split at h
    · exact List.mem_cons_of_mem _ (mem_dedup h)
    · rcases List.mem_cons.1 h with h | h
      · rw [h]; exact List.mem_cons_self
      · exact List.mem_cons_of_mem _ (mem_dedup h)

theorem aheads_closed {listed : Nat → Prop} : ∀ (dl acc : List (List Nat)), (∀ k i, i ∈ acc.getD k [] → listed k → listed i) → (∀ m d, dl[m]? = some d → ∀ i ∈ d, listed (acc.length + m) → listed i) →
    ∀ k i, i ∈ (aheads dl acc).getD k [] → listed k → listed i
  | [], acc, h, _, k, i, hi, hk => h k i hi hk
  | d :: r, acc, h, hd, k, i, hi, hk => by
    refine aheads_closed r (acc ++ [dedup (d ++ d.flatMap fun k => acc.getD k [])]) ?_ ?_ k i hi hk
    · intro k i hi hk
      simp only [List.getD_eq_getElem?_getD] at hi
      by_cases h1 : k < acc.length
      · rw [List.getElem?_append_left h1] at hi
        exact h k i (by simpa [List.getD_eq_getElem?_getD] using hi) hk
      · rw [List.getElem?_append_right (by omega)] at hi
        by_cases h2 : k - acc.length = 0
        · rw [h2] at hi
          have hkk : k = acc.length := by omega
          subst hkk
          simp only [List.getElem?_cons_zero, Option.getD_some] at hi
          have hi := mem_dedup hi
          rcases List.mem_append.1 hi with h3 | h3
          · exact hd 0 d rfl i h3 (by simpa using hk)
          · obtain ⟨k', hk', hi'⟩ := List.mem_flatMap.1 h3
            exact h k' i hi' (hd 0 d rfl k' hk' (by simpa using hk))
        · rw [List.getElem?_eq_none (by simp; omega)] at hi
          simp at hi
    · intro m d' hd' i hi hl
      refine hd (m + 1) d' (by simpa using hd') i hi ?_
      simp only [List.length_append, List.length_cons, List.length_nil] at hl
      rw [show acc.length + (m + 1) = acc.length + (0 + 1) + m from by omega]
      exact hl

theorem trace_length {env : Env} : ∀ {l : List AO} {p : (Nat → Av) × St} {tr : List ((Nat → Av) × St)}, runTrace env l p = some tr → tr.length = l.length + 1
  | [], p, tr, h => by
    simp only [runTrace, Option.some.injEq] at h
    rw [← h]
    rfl
  | o :: l, p, tr, h => by
    simp only [runTrace, Option.bind_eq_some_iff, Option.map_eq_some_iff] at h
    obtain ⟨p1, h1, tr1, h2, rfl⟩ := h
    simp [trace_length h2]
theorem trace_head {env : Env} {l : List AO} {p : (Nat → Av) × St} {tr : List ((Nat → Av) × St)} (h : runTrace env l p = some tr) : tr[0]? = some p := by
  cases l with
  | nil =>
    simp only [runTrace, Option.some.injEq] at h
    rw [← h]
    rfl
  | cons o l =>
    simp only [runTrace, Option.bind_eq_some_iff, Option.map_eq_some_iff] at h
    obtain ⟨p1, h1, tr1, h2, rfl⟩ := h
    rfl
theorem trace_step {env : Env} : ∀ {l : List AO} {p : (Nat → Av) × St} {tr : List ((Nat → Av) × St)}, runTrace env l p = some tr → ∀ (i : Nat) (o : AO), l[i]? = some o → ∃ x y, tr[i]? = some x ∧ tr[i + 1]? = some y ∧ stepO env o x = some y
  | [], p, tr, h, i, o, ho => by simp at ho
  | o' :: l, p, tr, h, i, o, ho => by
    simp only [runTrace, Option.bind_eq_some_iff, Option.map_eq_some_iff] at h
    obtain ⟨p1, h1, tr1, h2, rfl⟩ := h
    cases i with
    | zero =>
      simp only [List.getElem?_cons_zero, Option.some.injEq] at ho
      subst ho
      exact ⟨p, p1, rfl, by simpa using trace_head h2, h1⟩
    | succ i =>
      simp only [List.getElem?_cons_succ] at ho ⊢
      exact trace_step h2 i o ho

theorem count_drop {p q : Nat → Bool} : ∀ (l : List Nat) (x : Nat), x ∈ l → (∀ y, q y = true → p y = true) → p x = true → q x = false → l.countP q + 1 ≤ l.countP p
  | [], x, h, _, _, _ => by simp at h
  | y :: l, x, h, hqp, hp, hq => by
    have mono : l.countP q ≤ l.countP p := List.countP_mono_left fun y _ hy => hqp y hy
    rw [List.countP_cons, List.countP_cons]
    rcases List.mem_cons.1 h with h | h
    · subst h
      simp [hp, hq]
      exact mono
    · have ih := count_drop l x h hqp hp hq
      by_cases hy : q y = true
      · simp [hy, hqp y hy]; omega
      · have : q y = false := by simpa using hy
        simp [this]
        omega

theorem operand_con {T : Nat → Av} {a : Act} {μ : Mp} {X : Operand} (hs : ∀ t, X = .tmp t → ConA μ (T t) (a.tmps.getD t undef)) : ConA μ (ev T (opdOf X)) (a.eval X) := by
  cases X with
  | tmp t => exact hs t rfl
  | const v => exact slot_ops (T := fun _ => .no) (fun _ => trivial) (.const v)
  | global gg => trivial
  | func f => exact ⟨[], rfl, trivial⟩

theorem Sim.on {μ : Mp} {g g' : Mem} {w : World} (hs : Sim μ g w) (h : ∀ q pl r, μ q = some pl → g' q = some r → g q = some r) : Sim μ g' w :=
  ⟨fun q pl r hp hr => hs.row q pl r hp (h q pl r hp hr), fun q q' pl pl' r r' hne hp hp' hr hr' => hs.apart q q' pl pl' r r' hne hp hp' (h q pl r hp hr) (h q' pl' r' hp' hr')⟩

/-- A region under way in the text's order: what stands fast. -/
structure Trc (P : Program) (env : Env) (B : Start) (locs : List Nat) (ops : Array Oper) (T : Nat → Nat → Av) (S : Nat → St) : Prop where
  step : ∀ i o, ops[i]? = some o → stepO env (stripO P locs B.n ops o) (T i, S i) = some (T (i + 1), S (i + 1))
  ok : openOk ops (ops.toList.map (stripO P locs B.n ops)) (aheads (ops.toList.map directs) []) = true
  back : backOk ops = true
  chk : ∀ i j oi oj q, ops[i]? = some oi → ops[j]? = some oj → (stripO P locs B.n ops oi).op.heavy = true → lightKey (T j) (S j) (stripO P locs B.n ops oj) = some q → (stripO P locs B.n ops oj).op.light = true → i ≠ j →
    ¬ i ∈ (aheads (ops.toList.map directs) []).getD j [] → ¬ j ∈ (aheads (ops.toList.map directs) []).getD i [] → (S i).get q = (S (i + 1)).get q
  wf : ∀ b, (S 0).h.nx ≤ b → (S 0).h.hp b = none
  loc : ∀ i o k, ops[i]? = some o → newKey o.dst (S i) (stripO P locs B.n ops o).op = some (.inl k) → (S 0).get (.inl k) = none
  top : (S ops.size).h.nx ≤ B.N
  nx0 : B.h0.nx ≤ (S 0).h.nx
  keep0 : ∀ b r', (S 0).get (.inr b) = some r' → (∃ r, B.h0.hp b = some r ∧ r.rw = r'.rw) ∨ (B.h0.nx ≤ b ∧ b < (S 0).h.nx)

section
variable {env : Env} {B : Start} {locs : List Nat} {ops : Array Oper} {T : Nat → Nat → Av} {S : Nat → St}

theorem Trc.nx (henv : EnvOk P env) (t : Trc P env B locs ops T S) : ∀ {i j : Nat}, i ≤ j → j ≤ ops.size → (S i).h.nx ≤ (S j).h.nx := by
  intro i j hij
  induction hij with
  | refl => intro _; exact Nat.le_refl _
  | @step j hj ih =>
    intro hjn
    have hget : ops[j]? = some ops[j] := Array.getElem?_eq_getElem (by omega)
    exact Nat.le_trans (ih (by omega)) (stepO_nx henv (t.step j _ hget))

/-- What one operation of the trace does to the memory. -/
theorem Trc.one (henv : EnvOk P env) (t : Trc P env B locs ops T S) {i : Nat} {o : Oper} (ho : ops[i]? = some o) :
    (∀ q r', (S (i + 1)).get q = some r' → (∃ r, (S i).get q = some r ∧ r.rw = r'.rw) ∨ newOf (S i).h.nx (S (i + 1)).h.nx q ∨ newKey o.dst (S i) (stripO P locs B.n ops o).op = some q) ∧
    (∀ q, (S i).get q ≠ (S (i + 1)).get q → (stripO P locs B.n ops o).op.heavy = true ∨ (newKey o.dst (S i) (stripO P locs B.n ops o).op = some q ∧ wantedA (T i) (stripO P locs B.n ops o) = some true)) ∧
    (∀ u, o.dst ≠ some u → T (i + 1) u = T i u) := by
  obtain ⟨g, hg, hd, heq, hcase⟩ := stripO_step (t.step i o ho)
  rw [heq]
  rcases hcase with ⟨hwt, v, s', ha, hp⟩ | ⟨_, hp⟩
  · simp only [Prod.mk.injEq] at hp
    obtain ⟨h1, h2⟩ := hp
    simp only at ha
    subst h2
    obtain ⟨hnx, hk⟩ := aop_keeps henv ha
    refine ⟨fun q r' hq => hk q r' hq, fun q hq => ?_, fun u hu => by rw [h1, upo_get, if_neg hu]⟩
    cases hh : (stripOp P (isLoc locs o.dst) o.op).heavy with
    | true => exact .inl rfl
    | false =>
      refine .inr ⟨Classical.byContradiction fun hne => hq ?_, hwt⟩
      exact (light_mem ha hh q hne).symm
  · simp only [Prod.mk.injEq] at hp
    obtain ⟨h1, h2⟩ := hp
    rw [h2]
    exact ⟨fun q r' hq => .inl ⟨r', hq, rfl⟩, fun q hq => absurd rfl hq, fun u hu => by rw [h1, upo_get, if_neg hu]⟩

theorem Trc.wfAll (henv : EnvOk P env) (t : Trc P env B locs ops T S) : ∀ (i : Nat), i ≤ ops.size → ∀ b, (S i).h.nx ≤ b → (S i).h.hp b = none
  | 0, _ => t.wf
  | i + 1, hi => by
    intro b hb
    have hget : ops[i]? = some ops[i] := Array.getElem?_eq_getElem (by omega)
    have hnx := t.nx henv (Nat.le_succ i) hi
    have ih := t.wfAll henv i (by omega)
    obtain ⟨g, hg, hd, heq, hcase⟩ := stripO_step (t.step i _ hget)
    rcases hcase with ⟨_, v, s', ha, hp⟩ | ⟨_, hp⟩
    · simp only [Prod.mk.injEq] at hp
      obtain ⟨_, h2⟩ := hp
      simp only at ha
      rw [← h2] at ha
      exact aop_wf henv ha ih b hb
    · simp only [Prod.mk.injEq] at hp
      rw [hp.2] at hb ⊢
      exact ih b hb

end
end Go.Abs
