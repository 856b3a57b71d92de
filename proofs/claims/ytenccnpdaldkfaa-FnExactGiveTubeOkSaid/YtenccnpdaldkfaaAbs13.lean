/-
  A region in the text's order; the end of local blocks.
-/
import Derived.Test.YtenccnpdaldkfaaAbs12
namespace Go.Abs

variable {P : Program}

def cutM (μ : Mp) (ds : List Nat) : Mp
  | .inl k => if ds.contains k = true then none else μ (.inl k)
  | .inr b => μ (.inr b)
theorem cutM_hp (μ : Mp) (ds : List Nat) (b : Nat) : cutM μ ds (.inr b) = μ (.inr b) := rfl
theorem cutM_le (μ : Mp) (ds : List Nat) : Le (cutM μ ds) μ := fun q pl h => by
  cases q with
  | inl k =>
    simp only [cutM] at h
    split at h
    · cases h
    · exact h
  | inr b => exact h

theorem killV_con {μ : Mp} {ds : List Nat} {x : Av} {v : Value} (h : ConA μ x v) : ConA (cutM μ ds) (killV ds x) v := by
  have ag := cutM_hp μ ds
  cases x with
  | no => trivial
  | tup l =>
    simp only [killV]
    split
    · rename_i hl
      obtain ⟨vs, e, hc⟩ := h
      exact ⟨vs, e, ConTs.agree (μ := μ) (μ' := cutM μ ds) ag hl hc⟩
    · trivial
  | v t =>
    cases t with
    | agg l =>
      obtain ⟨vs, e, hc, hn⟩ := h
      exact ⟨vs, e, ConL.agree (μ := μ) (μ' := cutM μ ds) ag hn hc, hn⟩
    | c y =>
      cases y with
      | ptr q o =>
        cases q with
        | inl k =>
          simp only [killV]
          split
          · trivial
          · rename_i hk
            obtain ⟨pl, hp, e⟩ := h
            exact ⟨pl, by simp only [cutM]; rw [if_neg hk]; exact hp, e⟩
        | inr b => exact h
      | sl q o n m =>
        cases q with
        | inl k =>
          simp only [killV]
          split
          · trivial
          · rename_i hk
            obtain ⟨a, c, e, hn, pl, hp, hm⟩ := h
            exact ⟨a, c, e, hn, pl, by simp only [cutM]; rw [if_neg hk]; exact hp, hm⟩
        | inr b => exact h
      | fn f ps =>
        simp only [killV]
        split
        · rename_i hl
          obtain ⟨l, e, hc⟩ := h
          exact ⟨l, e, ConPs.agree (μ := μ) (μ' := cutM μ ds) ag hl hc⟩
        · trivial
      | _ => exact h

theorem Rel.kill {B : Start} {μ : Mp} {T : Nat → Av} {s : St} {a : Act} {w : World} (hR : Rel B μ T s a w) (ds : List Nat) :
    ∃ μ', Rel B μ' (kill ds (T, s)).1 (kill ds (T, s)).2 a w ∧ ∀ d ∈ ds, μ' (.inl d) = none := by
  cases ds with
  | nil => exact ⟨μ, hR, fun d hd => by simp at hd⟩
  | cons d0 ds0 =>
    refine ⟨cutM μ (d0 :: ds0), ⟨?_, fun t => killV_con (hR.slots t), hR.defers, hR.size, hR.fresh, hR.nx0, hR.nxN, ?_, hR.wf⟩, ?_⟩
    · have hget : ∀ q r, (Abs.kill (d0 :: ds0) (T, s)).2.get q = some r → s.get q = some r := by
        intro q r hq
        cases q with
        | inl k =>
          simp only [Abs.kill, St.get] at hq
          split at hq
          · cases hq
          · exact hq
        | inr b => exact hq
      refine ⟨?_, ?_⟩
      · intro q pl r hq hr
        obtain ⟨cs, e, fr, a1, a2, a3, a4, a5⟩ := hR.sim.row q pl r (cutM_le _ _ q pl hq) (hget q r hr)
        exact ⟨cs, e, fr, a1, a2, ConL.agree (μ := μ) (μ' := cutM μ (d0 :: ds0)) (cutM_hp μ _) a4 a3, a4, a5⟩
      · intro q q' pl pl' r r' hne hq hq' hr hr' hrw
        exact hR.sim.apart q q' pl pl' r r' hne (cutM_le _ _ q pl hq) (cutM_le _ _ q' pl' hq') (hget q r hr) (hget q' r' hr') hrw
    · refine ⟨fun b pl hb => hR.glob.le b pl hb, hR.glob.frm, fun q pl hq => hR.glob.new q pl (cutM_le _ _ q pl hq), fun b r' hr => hR.glob.keeps b r' hr⟩
    · intro d hd
      simp only [cutM]
      rw [if_pos (by simpa using hd)]

theorem madeL_key {locs : List Nat} {o : Oper} {r : List Oper} {n : Nat} {ops : Array Oper} {s : St} {k : Nat} (h : newKey o.dst s (stripO P locs n ops o).op = some (.inl k)) : madeL locs (o :: r) = k :: madeL locs r ∧ o.dst = some k := by
  unfold stripO at h
  split at h
  · split at h
    · -- the operation as it is
      unfold newKey at h
      split at h
      all_goals simp only [Option.map_eq_some_iff, Sum.inl.injEq, exists_eq_right, Option.some.injEq, reduceCtorEq] at h
      all_goals
        rename_i heq
        cases hop : o.op <;> simp only [hop, stripOp, reduceCtorEq] at heq
      all_goals first
        | (repeat' split at heq) <;> simp_all [madeL, isLoc, h]
        | skip
    · simp [newKey] at h
  · simp [newKey] at h

theorem stepO_nx {env : Env} (henv : EnvOk P env) {o : AO} {p p' : (Nat → Av) × St} (h : stepO env o p = some p') : p.2.h.nx ≤ p'.2.h.nx := by
  unfold stepO at h
  split at h
  · simp only [Option.map_eq_some_iff] at h
    obtain ⟨⟨v, s'⟩, ha, rfl⟩ := h
    exact (aop_keeps henv ha).1
  · simp only [Option.some.injEq] at h
    rw [← h]
    exact Nat.le_refl _
  · simp at h
theorem runOps_nx {env : Env} (henv : EnvOk P env) : ∀ {l : List AO} {p p' : (Nat → Av) × St}, runOps env l p = some p' → p.2.h.nx ≤ p'.2.h.nx
  | [], p, p', h => by
    simp only [runOps, Option.some.injEq] at h
    rw [h]
    exact Nat.le_refl _
  | o :: l, p, p', h => by
    simp only [runOps, Option.bind_eq_some_iff] at h
    obtain ⟨p1, h1, h2⟩ := h
    exact Nat.le_trans (stepO_nx henv h1) (runOps_nx henv h2)

theorem stripO_dst {locs : List Nat} {n : Nat} {ops : Array Oper} {o : Oper} : (stripO P locs n ops o).dst = o.dst := by
  unfold stripO
  split
  · split <;> rfl
  · rfl

/-- One operation of a region, its operands at hand. -/
theorem stripO_step {env : Env} {locs : List Nat} {n : Nat} {ops : Array Oper} {o : Oper} {p p' : (Nat → Av) × St} (h : stepO env (stripO P locs n ops o) p = some p') :
    ∃ g, guardOf ops o.guard = some g ∧ dstOk n o.dst = true ∧ stripO P locs n ops o = ⟨o.dst, stripOp P (isLoc locs o.dst) o.op, g⟩ ∧
      ((wantedA p.1 ⟨o.dst, stripOp P (isLoc locs o.dst) o.op, g⟩ = some true ∧ ∃ v s', aop env o.dst p.1 p.2 (stripOp P (isLoc locs o.dst) o.op) = some (v, s') ∧ p' = (upo p.1 o.dst v, s')) ∨
       (wantedA p.1 ⟨o.dst, stripOp P (isLoc locs o.dst) o.op, g⟩ = some false ∧ p' = (upo p.1 o.dst (.tup []), p.2))) := by
  have bad : stripO P locs n ops o = ⟨o.dst, .bad, none⟩ → False := by
    intro e
    rw [e] at h
    simp [stepO, wantedA, aop] at h
  cases hg : guardOf ops o.guard with
  | none => exact (bad (by unfold stripO; rw [hg])).elim
  | some g =>
    cases hd : dstOk n o.dst with
    | false => exact (bad (by unfold stripO; simp [hg, hd])).elim
    | true =>
      have e : stripO P locs n ops o = ⟨o.dst, stripOp P (isLoc locs o.dst) o.op, g⟩ := by unfold stripO; simp [hg, hd]
      refine ⟨g, rfl, rfl, e, ?_⟩
      rw [e] at h
      unfold stepO at h
      split at h
      · rename_i hw
        simp only [Option.map_eq_some_iff] at h
        obtain ⟨⟨v, s'⟩, ha, rfl⟩ := h
        exact .inl ⟨hw, v, s', ha, rfl⟩
      · rename_i hw
        simp only [Option.some.injEq] at h
        exact .inr ⟨hw, h.symm⟩
      · simp at h

theorem madeL_mem {locs : List Nat} {o : Oper} {r : List Oper} {d : Nat} (h : d ∈ madeL locs r) : d ∈ madeL locs (o :: r) := by
  simp only [madeL]
  repeat' split
  all_goals first
    | exact List.mem_cons_of_mem _ h
    | exact h
theorem madeL_nodup {locs : List Nat} {o : Oper} {r : List Oper} (h : (madeL locs (o :: r)).Nodup) : (madeL locs r).Nodup := by
  revert h
  simp only [madeL]
  repeat' split
  all_goals first
    | exact fun h => (List.nodup_cons.1 h).2
    | exact fun h => h

theorem seq_ops {B : Start} {env : Env} (henv : EnvOk P env) {locs : List Nat} {ops : Array Oper} {Q : Exit → Act → World → Prop} : ∀ (k i : Nat) (T : Nat → Av) (s : St) (T' : Nat → Av) (s' : St) (μ : Mp) (a : Act) (w : World), i + k = ops.size →
    runOps env ((ops.toList.drop i).map (stripO P locs B.n ops)) (T, s) = some (T', s') → s'.h.nx ≤ B.N → Rel B μ T s a w → (∀ d ∈ madeL locs (ops.toList.drop i), μ (.inl d) = none) → (madeL locs (ops.toList.drop i)).Nodup →
    (∀ μ' a' w', Rel B μ' T' s' a' w' → Q .normal a' w') → wpOps P ops Q (List.range' i k) a w := by
  intro k
  induction k with
  | zero =>
    intro i T s T' s' μ a w hik hrun hN hR _ _ hQ
    have : ops.toList.drop i = [] := List.drop_of_length_le (by simp; omega)
    rw [this] at hrun
    simp only [List.map_nil, runOps, Option.some.injEq, Prod.mk.injEq] at hrun
    obtain ⟨rfl, rfl⟩ := hrun
    exact hQ μ a w hR
  | succ k ih =>
    intro i T s T' s' μ a w hik hrun hN hR hfr hnd hQ
    have hi : i < ops.size := by omega
    have hdrop : ops.toList.drop i = ops[i] :: ops.toList.drop (i + 1) := by
      rw [List.drop_eq_getElem_cons (by simpa using hi)]
      simp
    rw [hdrop] at hrun hfr hnd
    simp only [List.map_cons, runOps, Option.bind_eq_some_iff] at hrun
    obtain ⟨⟨T1, s1⟩, hstep, hrest⟩ := hrun
    have hnx1 := runOps_nx henv hrest
    rw [List.range'_succ, wpOps]
    have hget : ops[i]? = some ops[i] := Array.getElem?_eq_getElem hi
    revert hdrop hfr hnd hstep hget
    generalize ops[i] = o
    intro hnd hfr hdrop hstep hget
    simp only [hget]
    obtain ⟨g, hg, hd, heq, hcase⟩ := stripO_step hstep
    have hw : ∀ b, wantedA T ⟨o.dst, stripOp P (isLoc locs o.dst) o.op, g⟩ = some b → Region.wanted o (yielded ops a.tmps) = b :=
      fun b hb => wanted_of (μ := μ) (T := T) hg (fun t b' _ => hR.slots t) hb
    rcases hcase with ⟨hwt, v, s2, ha, hp⟩ | ⟨hwf, hp⟩
    · simp only [Prod.mk.injEq] at hp
      obtain ⟨rfl, rfl⟩ := hp
      rw [if_pos (hw true hwt)]
      have key : ∀ {k : Nat}, newKey o.dst s (stripOp P (isLoc locs o.dst) o.op) = some (.inl k) → madeL locs (o :: ops.toList.drop (i + 1)) = k :: madeL locs (ops.toList.drop (i + 1)) ∧ o.dst = some k :=
        fun {k} hq => madeL_key (P := P) (locs := locs) (n := B.n) (ops := ops) (s := s) (by rw [heq]; exact hq)
      refine .inl (op_wp henv (μ := μ) (g := s.get) hR.sim (fun X _ => slot_ops hR.slots X) ha (fun _ => rfl) (fun _ _ => rfl) ?_ ?_ hR.wf ?_)
      · intro b h1 h2
        exact hR.fresh b h1 (Nat.lt_of_lt_of_le h2 (Nat.le_trans hnx1 hN))
      · intro q hq
        cases q with
        | inl kk => exact hfr kk (by rw [(key hq).1]; simp)
        | inr b =>
          have hb := newKey_hp ha b hq
          exact hR.fresh b hb.2 (Nat.lt_of_lt_of_le hb.1 (Nat.le_trans hnx1 hN))
      · intro v' w' hafter
        obtain ⟨μ', hR', _, hloc⟩ := hR.op henv hd ha (Nat.le_trans hnx1 hN) hafter
        refine ih (i + 1) _ _ _ _ μ' _ _ (by omega) hrest hN hR' ?_ (madeL_nodup hnd) hQ
        intro d hdm
        cases hμ : μ' (.inl d) with
        | none => rfl
        | some pl =>
          rcases hloc d pl hμ with h1 | h1
          · rw [hfr d (madeL_mem hdm)] at h1
            cases h1
          · rw [(key h1).1] at hnd
            exact absurd hdm (List.nodup_cons.1 hnd).1
    · simp only [Prod.mk.injEq] at hp
      obtain ⟨rfl, rfl⟩ := hp
      rw [if_neg (by rw [hw false hwf]; simp)]
      exact ih (i + 1) _ _ _ _ μ _ _ (by omega) hrest hN (hR.skip hd) (fun d hdm => hfr d (madeL_mem hdm)) (madeL_nodup hnd) hQ

theorem region_wp {B : Start} {env : Env} (henv : EnvOk P env) {locs : List Nat} {id : Nat} {ops : Array Oper} {Q : Exit → Act → World → Prop} {T : Nat → Av} {s : St} {p' : (Nat → Av) × St} {μ : Mp} {a : Act} {w : World}
    (hrun : runOps env (ops.toList.map (stripO P locs B.n ops)) (kill (madeL locs ops.toList) (T, s)) = some p') (hnd : (madeL locs ops.toList).Nodup) (hN : p'.2.h.nx ≤ B.N) (hR : Rel B μ T s a w)
    (hQ : ∀ μ' a' w', Rel B μ' p'.1 p'.2 a' w' → Q .normal a' w') : (Code.region id ops false).wp P Q a w := by
  obtain ⟨μ1, hR1, hfr⟩ := hR.kill (madeL locs ops.toList)
  refine wp_region ?_
  rw [List.range_eq_range']
  exact seq_ops henv (locs := locs) ops.size 0 _ _ p'.1 p'.2 μ1 a w (by omega) (by simpa using hrun) hN hR1 (by simpa using hfr) (by simpa using hnd) hQ

end Go.Abs
