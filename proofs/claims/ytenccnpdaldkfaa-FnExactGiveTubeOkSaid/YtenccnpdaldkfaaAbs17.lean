/-
  A region of open order, whole.
-/
import Derived.Test.YtenccnpdaldkfaaAbs16
namespace Go.Abs

variable {P : Program} {env : Env} {B : Start} {locs : List Nat} {ops : Array Oper} {T : Nat → Nat → Av} {S : Nat → St} {t : Trc P env B locs ops T S} {L : Nat → Prop} {μ μ' : Mp} {a : Act} {w w' : World}

theorem guard_mem {o : Oper} {u : Nat} {b : Bool} (h : guardOf ops o.guard = some (some (u, b))) : u ∈ guardTmps ops o := by
  unfold guardOf at h
  unfold guardTmps
  cases hg : o.guard with
  | none => rw [hg] at h; simp at h
  | some jb =>
    obtain ⟨j, b'⟩ := jb
    rw [hg] at h
    simp only [Option.map_eq_some_iff] at h
    obtain ⟨t, ht, he⟩ := h
    simp only [Option.some.injEq, Prod.mk.injEq] at he
    simp [ht, he.1]

theorem tmp_mem {o : Oper} {u : Nat} (h : Operand.tmp u ∈ o.op.operands) : u ∈ opTmps o := by
  unfold opTmps
  exact List.mem_filterMap.2 ⟨.tmp u, by simpa using h, rfl⟩

theorem read_con {T : Nat → Av} {o : Oper} {loc : Bool} {q : Key} (hops : ∀ X ∈ o.op.operands, ConA μ (ev T (opdOf X)) (a.eval X)) (h : readKey T (stripOp P loc o.op) = some q) : ∃ pl, μ q = some pl := by
  have ptr : ∀ X ∈ o.op.operands, (ev T (opdOf X)).ptr?.map (·.1) = some q → ∃ pl, μ q = some pl := by
    intro X hX hq
    simp only [Option.map_eq_some_iff] at hq
    obtain ⟨p, hp, rfl⟩ := hq
    obtain ⟨pl, hpl, _⟩ := con_ptr (hops X hX) hp
    exact ⟨pl, hpl⟩
  cases hop : o.op with
  | load t x =>
    simp only [hop, stripOp] at h
    split at h
    · exact ptr x (by simp [hop, Op.operands]) h
    · exact ptr x (by simp [hop, Op.operands]) h
    · simp [readKey] at h
  | convert sT dT x =>
    simp only [hop, stripOp] at h
    split at h
    · simp [readKey] at h
    · split at h
      · simp only [readKey] at h
        split at h
        · rename_i q' o' n m he
          simp only [Option.some.injEq] at h
          subst h
          have hx := hops x (by simp [hop, Op.operands])
          rw [he] at hx
          obtain ⟨_, _, _, _, pl, hpl, _⟩ := hx
          exact ⟨pl, hpl⟩
        · simp at h
      · simp [readKey] at h
    · simp [readKey] at h
  | makeFunc fn b c =>
    cases fn with
    | func f =>
      simp only [hop, stripOp] at h
      split at h <;> simp [readKey] at h
    | _ => simp [hop, stripOp, readKey] at h
  | _ =>
    simp only [hop, stripOp] at h
    repeat' split at h
    all_goals simp [readKey] at h

theorem read_there {T : Nat → Av} {s s' : St} {d : Option Nat} {ao : AOp} {v : Av} {q : Key} (ha : aop env d T s ao = some (v, s')) (h : readKey T ao = some q) : ∃ r, s.get q = some r := by
  cases ao with
  | load1 x =>
    simp only [aop, Option.bind_eq_some_iff, Option.map_eq_some_iff] at ha
    obtain ⟨p, hp, r, hr, _⟩ := ha
    simp only [readKey, hp, Option.map_some, Option.some.injEq] at h
    subst h
    exact ⟨r, hr⟩
  | loadN n x =>
    simp only [aop, Option.bind_eq_some_iff] at ha
    obtain ⟨p, hp, r, hr, _⟩ := ha
    simp only [readKey, hp, Option.map_some, Option.some.injEq] at h
    subst h
    exact ⟨r, hr⟩
  | convSB x =>
    simp only [aop, Option.bind_eq_some_iff] at ha
    obtain ⟨c, hc, l, hl, _⟩ := ha
    simp only [readKey, ev_ce hc] at h
    split at h
    · rename_i q' o n m he
      simp only [Option.some.injEq] at h
      subst h
      simp only [Av.v.injEq, Tv.c.injEq] at he
      subst he
      simp only [St.elems] at hl
      split at hl
      · rename_i r hr; exact ⟨r, hr⟩
      · simp at hl
    · simp at h
  | _ => simp [readKey] at h

theorem read_light {T : Nat → Av} {s : St} {ao : AO} {q : Key} (h : readKey T ao.op = some q) : ao.op.light = true ∧ lightKey T s ao = some q ∧ ao.op.heavy = false := by
  obtain ⟨d, op, g⟩ := ao
  cases op <;> simp_all [readKey, AOp.light, AOp.heavy, lightKey]
  all_goals exact h

theorem Drawn.done (henv : EnvOk P env) (h : Drawn P env B locs ops T S t L μ a w) (hL : ∀ i, i < ops.size → L i) : Rel B μ (T ops.size) (S ops.size) a w := by
  have e1 : ∀ q, lastP (fun i => L i ∧ t.md q i) ops.size = lastP (t.md q) ops.size := fun q => lastP_congr _ fun i hi => ⟨And.right, fun x => ⟨hL i hi, x⟩⟩
  have e2 : ∀ u, lastP (fun i => L i ∧ t.wr u i) ops.size = lastP (t.wr u) ops.size := fun u => lastP_congr _ fun i hi => ⟨And.right, fun x => ⟨hL i hi, x⟩⟩
  have hG : (fun q => (S (lastP (fun i => L i ∧ t.md q i) ops.size)).get q) = (S ops.size).get := funext fun q => by rw [e1 q]; exact (t.memAt q ops.size).symm
  have hg := h.glob
  have hs := h.sim
  rw [hG] at hg hs
  refine ⟨hs, ?_, h.defers, h.size, h.free', ?_, t.top, hg, t.wfAll henv _ (Nat.le_refl _)⟩
  · intro u
    have := h.slots u
    rw [e2 u, ← t.slotAt henv u ops.size (Nat.le_refl _)] at this
    exact this
  · exact Nat.le_trans t.nx0 (t.nx henv (Nat.zero_le _) (Nat.le_refl _))

theorem mem_ready {arr : Array Bool} {i : Nat} (h : i ∈ Region.ready .any ops arr) : i < ops.size ∧ arr.getD i true = false ∧ ∃ o, ops[i]? = some o ∧ ∀ k ∈ directs o, arr.getD k false = true := by
  unfold Region.ready at h
  simp only [List.mem_filter, List.mem_range, Bool.and_eq_true, Bool.not_eq_true'] at h
  obtain ⟨h1, h2, h3⟩ := h
  refine ⟨h1, h2, ?_⟩
  cases ho : ops[i]? with
  | none => rw [ho] at h3; simp at h3
  | some o =>
    refine ⟨o, rfl, ?_⟩
    rw [ho] at h3
    simp only [Option.map_some, Option.getD_some] at h3
    intro k hk
    unfold directs at hk
    obtain ⟨e, he, hk⟩ := List.mem_filterMap.1 hk
    split at hk
    · rename_i hb
      simp only [Option.some.injEq] at hk
      subst hk
      rw [Array.all_eq_true'] at h3
      have := h3 e (by simpa using he)
      simpa [hb] using this
    · simp at hk

/-- If nothing is ready, everything has been carried out. -/
theorem all_listed (hback : backOk ops = true) {arr : Array Bool} (hsz : arr.size = ops.size) (h : Region.ready .any ops arr = []) : ∀ i, i < ops.size → arr.getD i false = true := by
  intro i
  induction i using Nat.strongRecOn with
  | _ i ih =>
    intro hi
    cases hb : arr.getD i false with
    | true => rfl
    | false =>
      exfalso
      have hget : ops[i]? = some ops[i] := Array.getElem?_eq_getElem hi
      have : i ∈ Region.ready .any ops arr := by
        unfold Region.ready
        simp only [List.mem_filter, List.mem_range, Bool.and_eq_true, Bool.not_eq_true']
        refine ⟨hi, ?_, ?_⟩
        · rw [Array.getD_eq_getD_getElem?, Array.getElem?_eq_getElem (by omega)] at hb ⊢
          simpa using hb
        · rw [hget]
          simp only [Option.map_some, Option.getD_some]
          rw [Array.all_eq_true']
          intro e he
          by_cases hbd : Region.binds .any e = true
          · have hd : e.on ∈ directs ops[i] := List.mem_filterMap.2 ⟨e, by simpa using he, by rw [if_pos hbd]⟩
            have hlt := back_of hback hget hd
            rw [ih e.on hlt (by omega)]
            simp
          · simp [hbd]
      rw [h] at this
      simp at this

theorem draw_any (henv : EnvOk P env) (t : Trc P env B locs ops T S) {Q : Exit → Act → World → Prop} (hQ : ∀ μ' a' w', Rel B μ' (T ops.size) (S ops.size) a' w' → Q .normal a' w') :
    ∀ (fuel : Nat) (arr : Array Bool) (μ : Mp) (a : Act) (w : World), arr.size = ops.size → (List.range ops.size).countP (fun i => !arr.getD i false) ≤ fuel → (∀ m o, ops[m]? = some o → ∀ i ∈ directs o, arr.getD m false = true → arr.getD i false = true) →
      Drawn P env B locs ops T S t (fun i => arr.getD i false = true) μ a w → wpAny P .any ops Q fuel arr a w := by
  intro fuel
  induction fuel with
  | zero =>
    intro arr μ a w hsz hc hcl h
    have hall : ∀ i, i < ops.size → arr.getD i false = true := by
      intro i hi
      have h0 : (List.range ops.size).countP (fun i => !arr.getD i false) = 0 := by omega
      have := List.countP_eq_zero.1 h0 i (List.mem_range.2 hi)
      simpa using this
    refine ⟨?_, hQ μ a w (h.done henv hall)⟩
    cases hr : Region.ready .any ops arr with
    | nil => rfl
    | cons i l =>
      have hi : i ∈ Region.ready .any ops arr := by rw [hr]; exact List.mem_cons_self
      obtain ⟨h1, h2, _⟩ := mem_ready hi
      have h3 := hall i h1
      rw [Array.getD_eq_getD_getElem?, Array.getElem?_eq_getElem (by omega)] at h2 h3
      simp at h2 h3
      rw [h2] at h3
      cases h3
  | succ fuel ih =>
    intro arr μ a w hsz hc hcl h
    refine ⟨fun hr => hQ μ a w (h.done henv (all_listed t.back hsz hr)), ?_⟩
    intro j hj
    obtain ⟨hjn, hjl, o, ho, hdir⟩ := mem_ready hj
    have hjf : arr.getD j false = false := by
      rw [Array.getD_eq_getD_getElem?, Array.getElem?_eq_getElem (by omega)] at hjl ⊢
      simpa using hjl
    have hLj : ¬ (arr.getD j false = true) := by rw [hjf]; simp
    have hp : ∀ i, i ∈ t.ah.getD j [] → arr.getD i false = true := by
      intro i hi
      have hlt := t.backAhead hi
      have := aheads_closed (listed := fun x => arr.getD x false = true ∨ x = j) (ops.toList.map directs) [] (by intro k i hi; simp at hi) ?_ j i hi (.inr rfl)
      · rcases this with h1 | h1
        · exact h1
        · omega
      · intro m d hd i hi hm
        simp only [List.getElem?_map, Option.map_eq_some_iff] at hd
        obtain ⟨om, hom, rfl⟩ := hd
        have hom' : ops[m]? = some om := by simpa using hom
        rcases hm with hm | hm
        · exact .inl (hcl m om hom' i hi (by simpa using hm))
        · have hmj : m = j := by simpa using hm
          subst hmj
          rw [ho] at hom'
          obtain rfl := Option.some.inj hom'
          exact .inl (hdir i hi)
    -- the list with j
    have hset : ∀ i, (arr.setIfInBounds j true).getD i false = true ↔ (arr.getD i false = true ∨ i = j) := by
      intro i
      simp only [Array.getD_eq_getD_getElem?, Array.getElem?_setIfInBounds]
      by_cases hij : j = i
      · subst hij
        simp [show j < arr.size by omega]
      · simp [hij, Ne.symm hij]
    have hfun : (fun i => (arr.setIfInBounds j true).getD i false = true) = fun i => (arr.getD i false = true ∨ i = j) := funext fun i => propext (hset i)
    have next : ∀ μ' a' w', Drawn P env B locs ops T S t (fun i => arr.getD i false = true ∨ i = j) μ' a' w' → wpAny P .any ops Q fuel (arr.setIfInBounds j true) a' w' := by
      intro μ' a' w' h'
      refine ih _ μ' a' w' (by simp [hsz]) ?_ ?_ (by rw [hfun]; exact h')
      · have := count_drop (p := fun i => !arr.getD i false) (q := fun i => !(arr.setIfInBounds j true).getD i false) (List.range ops.size) j (List.mem_range.2 hjn) ?_ (by simp [hjf]) ?_
        · omega
        · intro y hy
          simp only [Bool.not_eq_true'] at hy ⊢
          cases hb : arr.getD y false with
          | false => rfl
          | true =>
            have := (hset y).2 (.inl hb)
            rw [hy] at this
            cases this
        · have := (hset j).2 (.inr rfl)
          simp [this]
      · intro m om hom i hi hm
        rcases (hset m).1 hm with h1 | h1
        · exact (hset i).2 (.inl (hcl m om hom i hi h1))
        · subst h1
          rw [ho] at hom
          obtain rfl := Option.some.inj hom
          exact (hset i).2 (.inl (hdir i hi))
    unfold wpOp
    simp only [ho]
    obtain ⟨g, hg, hd, heq, hcase⟩ := stripO_step (t.step j o ho)
    have hw : ∀ b, wantedA (T j) ⟨o.dst, stripOp P (isLoc locs o.dst) o.op, g⟩ = some b → Region.wanted o (yielded ops a.tmps) = b := by
      intro b hb
      refine wanted_of (μ := μ) (T := T j) hg (fun u b' hgu => ?_) hb
      subst hgu
      exact h.slot henv ho hLj hp (List.mem_append_right _ (guard_mem hg))
    have hops : ∀ X ∈ o.op.operands, ConA μ (ev (T j) (opdOf X)) (a.eval X) := by
      intro X hX
      refine operand_con fun u hu => ?_
      subst hu
      exact h.slot henv ho hLj hp (List.mem_append_left _ (tmp_mem hX))
    rcases hcase with ⟨hwt, v, s', ha, hpp⟩ | ⟨hwf, hpp⟩
    · simp only [Prod.mk.injEq] at hpp
      obtain ⟨hT, hS⟩ := hpp
      simp only at ha
      subst hS
      rw [if_pos (hw true hwt)]
      have hao : (stripO P locs B.n ops o).op = stripOp P (isLoc locs o.dst) o.op := by rw [heq]
      have hwt' : wantedA (T j) (stripO P locs B.n ops o) = some true := by rw [heq]; exact hwt
      have hfree := h.free j o ho hLj
      cases hh : (stripOp P (isLoc locs o.dst) o.op).heavy with
      | true =>
        have hs : Sim μ (S j).get w := by
          refine h.sim.on fun q pl r hq hr => ?_
          show (S _).get q = _
          rw [h.atJ henv ho hLj hp (by rw [hao]; exact hh) hq hr]
          exact hr
        refine .inl (op_wp henv hs hops ha (fun _ => rfl) (fun _ _ => rfl) hfree.1 (fun q hq => hfree.2 hwt' q (by rw [hao]; exact hq)) (t.wfAll henv j (by omega)) ?_)
        intro v' w' hafter
        obtain ⟨μ', h'⟩ := h.heavy henv ho hLj hp hd hao hwt' hT ha hh hafter
        exact next μ' _ _ h'
      | false =>
        refine .inl (op_wp henv h.sim hops ha (fun x => by rw [hh] at x; cases x) ?_ hfree.1 (fun q hq => hfree.2 hwt' q (by rw [hao]; exact hq)) (t.wfAll henv j (by omega)) ?_)
        · intro q hq
          obtain ⟨pl, hpl⟩ := read_con hops hq
          obtain ⟨r, hr⟩ := read_there ha hq
          refine h.mem henv ho hLj hp hpl hr ?_
          intro i oi hoi hij hhi hmd
          obtain ⟨hl1, hl2, _⟩ := read_light (T := T j) (s := S j) (ao := stripO P locs B.n ops o) (q := q) (by rw [hao]; exact hq)
          refine Classical.byContradiction fun hno => hmd ?_
          refine t.chk i j oi o q hoi ho hhi hl2 hl1 hij ?_ ?_
          · intro hin
            refine hno ?_
            have := t.backAhead hin
            unfold inOrder
            rw [if_pos this]
            simpa using hin
          · intro hin
            refine hno ?_
            have := t.backAhead hin
            unfold inOrder
            rw [if_neg (by omega)]
            simpa using hin
        · intro v' w' hafter
          obtain ⟨μ', h'⟩ := h.light henv ho hLj hp hd hao hwt' hT ha hh hafter
          exact next μ' _ _ h'
    · rw [if_neg (by rw [hw false hwf]; simp)]
      exact next μ _ _ (h.skip henv ho hLj hp hd hpp)

end Go.Abs
