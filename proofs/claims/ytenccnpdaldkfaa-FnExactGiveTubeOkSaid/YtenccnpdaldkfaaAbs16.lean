/-
  A region of open order, third part: one operation more; the whole region.
-/
import Derived.Test.YtenccnpdaldkfaaAbs15
namespace Go.Abs

variable {P : Program} {env : Env} {B : Start} {locs : List Nat} {ops : Array Oper} {T : Nat → Nat → Av} {S : Nat → St} {t : Trc P env B locs ops T S} {L : Nat → Prop} {μ μ' : Mp} {a : Act} {w w' : World}

theorem Trc.keepAll (henv : EnvOk P env) (t : Trc P env B locs ops T S) : ∀ (i : Nat), i ≤ ops.size → ∀ b r', (S i).get (.inr b) = some r' → (∃ r, B.h0.hp b = some r ∧ r.rw = r'.rw) ∨ (B.h0.nx ≤ b ∧ b < (S i).h.nx)
  | 0, _ => t.keep0
  | i + 1, hi => by
    intro b r' hr'
    have hget : ops[i]? = some ops[i] := Array.getElem?_eq_getElem (by omega)
    have hnx := t.nx henv (i := i) (j := i + 1) (by omega) hi
    have hn0 := t.nx henv (Nat.zero_le i) (by omega)
    have h00 := t.nx0
    rcases (t.one henv hget).1 _ _ hr' with ⟨r, h1, h2⟩ | ⟨b', hb, h3, h4⟩ | h1
    · rcases t.keepAll henv i (by omega) b r h1 with ⟨r0, g1, g2⟩ | ⟨g1, g2⟩
      · exact .inl ⟨r0, g1, g2.trans h2⟩
      · exact .inr ⟨g1, by omega⟩
    · injection hb with hb
      subst hb
      exact .inr ⟨by omega, h4⟩
    · have hb : b = (S i).h.nx := by
        revert h1
        cases (stripO P locs B.n ops ops[i]).op <;> simp [newKey] <;> omega
      refine .inr ⟨by omega, ?_⟩
      refine Classical.byContradiction fun hlt => ?_
      have := t.wfAll henv (i + 1) hi b (by omega)
      rw [show (S (i + 1)).get (.inr b) = (S (i + 1)).h.hp b from rfl, this] at hr'
      cases hr'

/-- Who else has changed a block that j changes has done so before. -/
theorem Drawn.before (henv : EnvOk P env) (h : Drawn P env B locs ops T S t L μ a w) {j : Nat} {o : Oper} (ho : ops[j]? = some o) (hj : ¬ L j) (hp : ∀ i, i ∈ t.ah.getD j [] → L i) {q : Key}
    (hq : t.md q j ∨ (newKey o.dst (S j) (stripO P locs B.n ops o).op = some q ∧ wantedA (T j) (stripO P locs B.n ops o) = some true)) {i : Nat} (hi : i < ops.size) (hL : L i) (hm : t.md q i) : i < j ∧ (newKey o.dst (S j) (stripO P locs B.n ops o).op = some q → False) := by
  have hjn : j < ops.size := (Array.getElem?_eq_some_iff.1 ho).1
  have hij : i ≠ j := by rintro rfl; exact hj hL
  have hget : ops[i]? = some ops[i] := Array.getElem?_eq_getElem hi
  -- j makes q: nobody has changed it before
  have made : newKey o.dst (S j) (stripO P locs B.n ops o).op = some q → wantedA (T j) (stripO P locs B.n ops o) = some true → False := by
    intro hk hwt
    by_cases hlt : i < j
    · refine hm ?_
      rw [t.newNone henv ho hk (j := i) (by omega), t.newNone henv ho hk (j := i + 1) (by omega)]
    · rcases (t.one henv hget).2.1 q hm with hh | ⟨hk', hwt'⟩
      · by_cases hor : i ∈ t.ah.getD j [] ∨ j ∈ t.ah.getD i []
        · rcases hor with hor | hor
          · -- then i comes first in the text
            have hord : inOrder t.ah i j = true ∨ True := .inr trivial
            -- an edge leads back in the text alone
            exact absurd (t.backAhead hor) (by omega)
          · exact hj (h.closed i j hor hL)
        · refine hm (t.chk i j _ o q hget ho hh ?_ ?_ hij (fun x => hor (.inl x)) (fun x => hor (.inr x)))
          · unfold lightKey
            revert hk
            cases hop : (stripO P locs B.n ops o).op <;> simp [newKey, stripO_dst]
          · revert hk
            cases hop : (stripO P locs B.n ops o).op <;> simp [newKey, AOp.light]
      · cases q with
        | inl k =>
          have e1 := newLoc_of (ao := stripO P locs B.n ops o) (s := S j) (k := k) (by rw [stripO_dst]; exact hk)
          have e2 := newLoc_of (ao := stripO P locs B.n ops ops[i]) (s := S i) (k := k) (by rw [stripO_dst]; exact hk')
          exact (open_of t.ok (Trc.lget (P := P) (B := B) (locs := locs) hget) (Trc.lget (P := P) (B := B) (locs := locs) ho) ho hij).2.1 ⟨e2.1, e1.1, e2.2.trans e1.2.symm⟩
        | inr b =>
          have hb : b = (S i).h.nx := by
            revert hk'
            cases (stripO P locs B.n ops ops[i]).op <;> simp [newKey] <;> omega
          obtain ⟨g, hg, hd, heq, hcase⟩ := stripO_step (t.step j o ho)
          rw [heq] at hk hwt
          rcases hcase with ⟨_, v, s', ha, hpp⟩ | ⟨hwf, _⟩
          · simp only [Prod.mk.injEq] at hpp
            have := newKey_hp ha b hk
            rw [← hpp.2] at this
            have hnx := t.nx henv (i := j + 1) (j := i) (by omega) (by omega)
            omega
          · rw [hwf] at hwt; cases hwt
  have hno : newKey o.dst (S j) (stripO P locs B.n ops o).op = some q → False := by
    intro hk
    rcases hq with hq | ⟨_, hwt⟩
    · rcases (t.one henv ho).2.1 q hq with hh | ⟨_, hwt⟩
      · revert hk hh
        cases (stripO P locs B.n ops o).op <;> simp [newKey, AOp.heavy]
      · exact made hk hwt
    · exact made hk hwt
  refine ⟨?_, hno⟩
  rcases hq with hq | ⟨hk, hwt⟩
  · rcases (t.one henv ho).2.1 q hq with hhj | ⟨hk, hwt⟩
    · rcases (t.one henv hget).2.1 q hm with hhi | ⟨hk', hwt'⟩
      · have hord := (open_of t.ok (Trc.lget (P := P) (B := B) (locs := locs) hget) (Trc.lget (P := P) (B := B) (locs := locs) ho) ho hij).1 hhi hhj
        exact (listed_iff h.closed hij hord hj hp).1 hL
      · refine Classical.byContradiction fun hlt => hq ?_
        rw [t.newNone henv hget hk' (j := j) (by omega), t.newNone henv hget hk' (j := j + 1) (by omega)]
    · exact (made hk hwt).elim
  · exact (made hk hwt).elim

/-- The memory and the slots behind one operation more. -/
theorem Drawn.last (henv : EnvOk P env) (h : Drawn P env B locs ops T S t L μ a w) {j : Nat} {o : Oper} (ho : ops[j]? = some o) (hj : ¬ L j) (hp : ∀ i, i ∈ t.ah.getD j [] → L i) :
    (∀ q, t.md q j → lastP (fun i => (L i ∨ i = j) ∧ t.md q i) ops.size = j + 1) ∧
    (∀ q, ¬ t.md q j → lastP (fun i => (L i ∨ i = j) ∧ t.md q i) ops.size = lastP (fun i => L i ∧ t.md q i) ops.size) ∧
    (∀ u, o.dst = some u → lastP (fun i => (L i ∨ i = j) ∧ t.wr u i) ops.size = j + 1) ∧
    (∀ u, o.dst ≠ some u → lastP (fun i => (L i ∨ i = j) ∧ t.wr u i) ops.size = lastP (fun i => L i ∧ t.wr u i) ops.size) := by
  have hjn : j < ops.size := (Array.getElem?_eq_some_iff.1 ho).1
  refine ⟨?_, ?_, ?_, ?_⟩
  · intro q hq
    refine lastP_top (p := fun i => (L i ∨ i = j) ∧ t.md q i) ⟨.inr rfl, hq⟩ ops.size hjn ?_
    rintro i h1 h2 ⟨h3 | h3, h4⟩
    · have := (h.before henv ho hj hp (.inl hq) h2 h3 h4).1
      omega
    · omega
  · intro q hq
    refine lastP_congr _ fun i _ => ⟨?_, fun ⟨x, y⟩ => ⟨.inl x, y⟩⟩
    rintro ⟨x | x, y⟩
    · exact ⟨x, y⟩
    · subst x; exact absurd y hq
  · intro u hu
    refine lastP_top (p := fun i => (L i ∨ i = j) ∧ t.wr u i) ⟨.inr rfl, o, ho, hu⟩ ops.size hjn ?_
    rintro i h1 h2 ⟨h3 | h3, oi, hoi, hd⟩
    · have hord := (open_of t.ok (Trc.lget (P := P) (B := B) (locs := locs) hoi) (Trc.lget (P := P) (B := B) (locs := locs) ho) ho (by omega)).2.2 u (by rw [stripO_dst]; exact hd) (.inr (by rw [stripO_dst]; exact hu))
      have := (listed_iff h.closed (by omega) hord hj hp).1 h3
      omega
    · omega
  · intro u hu
    refine lastP_congr _ fun i _ => ⟨?_, fun ⟨x, y⟩ => ⟨.inl x, y⟩⟩
    rintro ⟨x | x, y⟩
    · exact ⟨x, y⟩
    · subst x
      obtain ⟨oi, hoi, hd⟩ := y
      rw [ho] at hoi
      obtain rfl := Option.some.inj hoi
      exact absurd hd hu

theorem closed_more (hc : ∀ k i, i ∈ t.ah.getD k [] → L k → L i) {j : Nat} (hp : ∀ i, i ∈ t.ah.getD j [] → L i) : ∀ k i, i ∈ t.ah.getD k [] → (L k ∨ k = j) → (L i ∨ i = j) := by
  rintro k i hi (h | h)
  · exact .inl (hc k i hi h)
  · subst h; exact .inl (hp i hi)

/-- An operation that isn't carried out. -/
theorem Drawn.skip (henv : EnvOk P env) (h : Drawn P env B locs ops T S t L μ a w) {j : Nat} {o : Oper} (ho : ops[j]? = some o) (hj : ¬ L j) (hp : ∀ i, i ∈ t.ah.getD j [] → L i) (hd : dstOk B.n o.dst = true)
    (hpp : (T (j + 1), S (j + 1)) = (upo (T j) o.dst (.tup []), S j)) : Drawn P env B locs ops T S t (fun i => L i ∨ i = j) μ (a.put o.dst undef) w := by
  simp only [Prod.mk.injEq] at hpp
  obtain ⟨hT, hS⟩ := hpp
  obtain ⟨_, l2, l3, l4⟩ := h.last henv ho hj hp
  have hmd : ∀ q, ¬ t.md q j := fun q hq => hq (by rw [hS])
  have hG : (fun q => (S (lastP (fun i => (L i ∨ i = j) ∧ t.md q i) ops.size)).get q) = fun q => (S (lastP (fun i => L i ∧ t.md q i) ops.size)).get q := funext fun q => by rw [l2 q (hmd q)]
  refine ⟨closed_more h.closed hp, by rw [hG]; exact h.sim, ?_, by rw [put_defers']; exact h.defers, by rw [put_size]; exact h.size, fun i oi hoi hL => h.free i oi hoi (fun x => hL (.inl x)), h.free', by rw [hG]; exact h.glob⟩
  intro u
  rw [put_getD a o.dst undef B.n h.size hd]
  by_cases hu : o.dst = some u
  · rw [if_pos hu, l3 u hu, hT, upo_get, if_pos hu]
    exact ⟨[], rfl, trivial⟩
  · rw [if_neg hu, l4 u hu]
    exact h.slots u

/-- An operation that is carried out, its memory told. -/
theorem Drawn.go (henv : EnvOk P env) (h : Drawn P env B locs ops T S t L μ a w) {j : Nat} {o : Oper} (ho : ops[j]? = some o) (hj : ¬ L j) (hp : ∀ i, i ∈ t.ah.getD j [] → L i) (hd : dstOk B.n o.dst = true) {v : Av} {v' : Value} {ao : AOp}
    (hao : (stripO P locs B.n ops o).op = ao) (hwt : wantedA (T j) (stripO P locs B.n ops o) = some true) (hT : T (j + 1) = upo (T j) o.dst v) (haop : aop env o.dst (T j) (S j) ao = some (v, S (j + 1)))
    (hle : Le μ μ') (hc : ConA μ' v v') (hsim : Sim μ' (fun q => (S (lastP (fun i => (L i ∨ i = j) ∧ t.md q i) ops.size)).get q) w')
    (hnew : ∀ q pl, μ' q = some pl → μ q = some pl ∨ isNew ao o.dst (S j) (S (j + 1)) q)
    (hglob : Glob B.μ0 B.h0 B.w0 μ' (fun q => (S (lastP (fun i => (L i ∨ i = j) ∧ t.md q i) ops.size)).get q) (S ops.size).h.nx w') :
    Drawn P env B locs ops T S t (fun i => L i ∨ i = j) μ' (a.put o.dst v') w' := by
  obtain ⟨_, _, l3, l4⟩ := h.last henv ho hj hp
  have hjn : j < ops.size := (Array.getElem?_eq_some_iff.1 ho).1
  have hnxj := t.nx henv (i := j) (j := j + 1) (by omega) (by omega)
  have hkind := isNew_kind hnxj (newKey_hp haop)
  refine ⟨closed_more h.closed hp, hsim, ?_, by rw [put_defers']; exact h.defers, by rw [put_size]; exact h.size, ?_, ?_, hglob⟩
  · intro u
    rw [put_getD a o.dst v' B.n h.size hd]
    by_cases hu : o.dst = some u
    · rw [if_pos hu, l3 u hu, hT, upo_get, if_pos hu]
      exact hc
    · rw [if_neg hu, l4 u hu]
      exact (h.slots u).le hle
  · intro i oi hoi hL
    have hLi : ¬ L i := fun x => hL (.inl x)
    have hij : i ≠ j := fun x => hL (.inr x)
    have hin : i < ops.size := (Array.getElem?_eq_some_iff.1 hoi).1
    have hnxi := t.nx henv (i := i) (j := i + 1) (by omega) (by omega)
    -- the numbers that two operations hand out are apart
    have part : ∀ b, (S i).h.nx ≤ b → b < (S (i + 1)).h.nx → (S j).h.nx ≤ b → b < (S (j + 1)).h.nx → False := by
      intro b h1 h2 h3 h4
      by_cases hlt : i < j
      · have := t.nx henv (i := i + 1) (j := j) (by omega) (by omega); omega
      · have := t.nx henv (i := j + 1) (j := i) (by omega) (by omega); omega
    obtain ⟨f1, f2⟩ := h.free i oi hoi hLi
    refine ⟨?_, ?_⟩
    · intro b h1 h2
      cases hb : μ' (.inr b) with
      | none => rfl
      | some pl =>
        rcases hnew _ _ hb with h3 | h3
        · rw [f1 b h1 h2] at h3; cases h3
        · rcases hkind _ h3 with ⟨k, hk⟩ | ⟨b', hb', h4, h5⟩
          · cases hk
          · injection hb' with hb'
            subst hb'
            exact (part b h1 h2 h4 h5).elim
    · intro hwi q hq
      cases hb : μ' q with
      | none => rfl
      | some pl =>
        rcases hnew _ _ hb with h3 | h3
        · rw [f2 hwi q hq] at h3; cases h3
        · exfalso
          obtain ⟨g, hg, hd', heq, hcase⟩ := stripO_step (t.step i oi hoi)
          rw [heq] at hwi hq
          rcases hcase with ⟨_, vi, si, hai, hpi⟩ | ⟨hwf, _⟩
          · simp only [Prod.mk.injEq] at hpi
            cases q with
            | inr b =>
              have e1 := newKey_hp hai b hq
              rw [← hpi.2] at e1
              rcases hkind _ h3 with ⟨k, hk⟩ | ⟨b', hb', h4, h5⟩
              · cases hk
              · injection hb' with hb'
                subst hb'
                exact part b e1.2 e1.1 h4 h5
            | inl k =>
              rcases h3 with ⟨b', hb', _⟩ | h3
              · cases hb'
              · have e1 := newLoc_of (ao := stripO P locs B.n ops o) (s := S j) (k := k) (by rw [stripO_dst, hao]; exact h3)
                have e2 := newLoc_of (ao := stripO P locs B.n ops oi) (s := S i) (k := k) (by rw [stripO_dst, heq]; exact hq)
                exact (open_of t.ok (Trc.lget (P := P) (B := B) (locs := locs) hoi) (Trc.lget (P := P) (B := B) (locs := locs) ho) ho hij).2.1 ⟨e2.1, e1.1, e2.2.trans e1.2.symm⟩
          · rw [hwf] at hwi; cases hwi
  · intro b h1 h2
    cases hb : μ' (.inr b) with
    | none => rfl
    | some pl =>
      rcases hnew _ _ hb with h3 | h3
      · rw [h.free' b h1 h2] at h3; cases h3
      · rcases hkind _ h3 with ⟨k, hk⟩ | ⟨b', hb', h4, h5⟩
        · cases hk
        · injection hb' with hb'
          have := t.nx henv (i := j + 1) (j := ops.size) (by omega) (by omega)
          omega

theorem isNew_top (henv : EnvOk P env) (t : Trc P env B locs ops T S) {j : Nat} {o : Oper} (ho : ops[j]? = some o) {ao : AOp} {v : Av} (haop : aop env o.dst (T j) (S j) ao = some (v, S (j + 1))) :
    ∀ q, isNew ao o.dst (S j) (S (j + 1)) q → (∃ k, q = .inl k) ∨ newOf B.h0.nx (S ops.size).h.nx q := by
  have hjn : j < ops.size := (Array.getElem?_eq_some_iff.1 ho).1
  have hnxj := t.nx henv (i := j) (j := j + 1) (by omega) (by omega)
  intro q hq
  rcases isNew_kind hnxj (newKey_hp haop) q hq with h | ⟨b, rfl, h1, h2⟩
  · exact .inl h
  · have e1 := t.nx henv (i := 0) (j := j) (by omega) (by omega)
    have e2 := t.nx henv (i := j + 1) (j := ops.size) (by omega) (by omega)
    have e3 := t.nx0
    exact .inr ⟨b, rfl, by omega, by omega⟩

theorem keepG (henv : EnvOk P env) (t : Trc P env B locs ops T S) (p : Key → Nat → Prop) : ∀ b r', (S (lastP (p (.inr b)) ops.size)).get (.inr b) = some r' → (∃ r, B.h0.hp b = some r ∧ r.rw = r'.rw) ∨ (B.h0.nx ≤ b ∧ b < (S ops.size).h.nx) := by
  intro b r' hr'
  have hle := lastP_le (p (.inr b)) ops.size
  rcases t.keepAll henv _ hle b r' hr' with h | ⟨h1, h2⟩
  · exact .inl h
  · have := t.nx henv hle (Nat.le_refl _)
    exact .inr ⟨h1, by omega⟩

theorem Drawn.light (henv : EnvOk P env) (h : Drawn P env B locs ops T S t L μ a w) {j : Nat} {o : Oper} (ho : ops[j]? = some o) (hj : ¬ L j) (hp : ∀ i, i ∈ t.ah.getD j [] → L i) (hd : dstOk B.n o.dst = true) {v : Av} {v' : Value} {ao : AOp}
    (hao : (stripO P locs B.n ops o).op = ao) (hwt : wantedA (T j) (stripO P locs B.n ops o) = some true) (hT : T (j + 1) = upo (T j) o.dst v) (haop : aop env o.dst (T j) (S j) ao = some (v, S (j + 1))) (hh : ao.heavy = false)
    (ha : After ao o.dst (S j) (S (j + 1)) (fun q => (S (lastP (fun i => L i ∧ t.md q i) ops.size)).get q) μ w v v' w') : ∃ μ', Drawn P env B locs ops T S t (fun i => L i ∨ i = j) μ' (a.put o.dst v') w' := by
  obtain ⟨μ', hcon, hpost⟩ := ha
  obtain ⟨l1, l2, _, _⟩ := h.last henv ho hj hp
  refine ⟨μ', h.go henv ho hj hp hd hao hwt hT haop hpost.le hcon ?_ (fun q pl hq => (hpost.new q pl hq).imp id And.left) ?_⟩
  · refine hpost.sim.on ?_
    intro q pl r hq hr
    by_cases hm : t.md q j
    · simp only [l1 q hm] at hr
      rcases (t.one henv ho).2.1 q hm with hhv | ⟨hk, _⟩
      · rw [hao, hh] at hhv; cases hhv
      · unfold outMem
        rw [hh]
        simp only [Bool.false_eq_true, if_false]
        rw [if_pos (by rw [← hao]; exact hk)]
        exact hr
    · simp only [l2 q hm] at hr
      unfold outMem
      rw [hh]
      simp only [Bool.false_eq_true, if_false]
      by_cases hk : newKey o.dst (S j) ao = some q
      · exfalso
        have hk' : newKey o.dst (S j) (stripO P locs B.n ops o).op = some q := by rw [hao]; exact hk
        rcases lastP_some (p := fun i => L i ∧ t.md q i) ops.size with h0 | ⟨i, hi, ⟨hL, hmi⟩, hlast⟩
        · rw [h0, t.newNone henv ho hk' (Nat.zero_le _)] at hr
          cases hr
        · exact (h.before henv ho hj hp (.inr ⟨hk', hwt⟩) hi hL hmi).2 hk'
      · rw [if_neg hk]
        exact hr
  · exact h.glob.step t.top (Nat.le_refl _) hpost (fun q pl r _ hr hrw => ⟨r, hr, hrw⟩) (keepG henv t (fun q i => (L i ∨ i = j) ∧ t.md q i)) (isNew_top henv t ho haop)

theorem heavy_newKey {d : Option Nat} {s : St} {ao : AOp} (h : ao.heavy = true) : newKey d s ao = none := by
  cases ao <;> simp_all [newKey, AOp.heavy]

theorem Drawn.atJ (henv : EnvOk P env) (h : Drawn P env B locs ops T S t L μ a w) {j : Nat} {o : Oper} (ho : ops[j]? = some o) (hj : ¬ L j) (hp : ∀ i, i ∈ t.ah.getD j [] → L i) (hh : (stripO P locs B.n ops o).op.heavy = true) {q : Key} {pl : Place} {r : Row} (hq : μ q = some pl) (hr : (S j).get q = some r) :
    (S (lastP (fun i => L i ∧ t.md q i) ops.size)).get q = (S j).get q :=
  h.mem henv ho hj hp hq hr (fun i oi hoi hij hhi _ => (open_of t.ok (Trc.lget (P := P) (B := B) (locs := locs) hoi) (Trc.lget (P := P) (B := B) (locs := locs) ho) ho hij).1 hhi hh)

theorem Drawn.heavy (henv : EnvOk P env) (h : Drawn P env B locs ops T S t L μ a w) {j : Nat} {o : Oper} (ho : ops[j]? = some o) (hj : ¬ L j) (hp : ∀ i, i ∈ t.ah.getD j [] → L i) (hd : dstOk B.n o.dst = true) {v : Av} {v' : Value} {ao : AOp}
    (hao : (stripO P locs B.n ops o).op = ao) (hwt : wantedA (T j) (stripO P locs B.n ops o) = some true) (hT : T (j + 1) = upo (T j) o.dst v) (haop : aop env o.dst (T j) (S j) ao = some (v, S (j + 1))) (hh : ao.heavy = true)
    (ha : After ao o.dst (S j) (S (j + 1)) (S j).get μ w v v' w') : ∃ μ', Drawn P env B locs ops T S t (fun i => L i ∨ i = j) μ' (a.put o.dst v') w' := by
  obtain ⟨μ', hcon, hpost⟩ := ha
  rw [outMem_self haop] at hpost
  obtain ⟨l1, l2, _, _⟩ := h.last henv ho hj hp
  have hjn : j < ops.size := (Array.getElem?_eq_some_iff.1 ho).1
  have hnxj := t.nx henv (i := j) (j := j + 1) (by omega) (by omega)
  have hhs : (stripO P locs B.n ops o).op.heavy = true := by rw [hao]; exact hh
  have hwfj := t.wfAll henv j (by omega)
  -- what is new is not there before
  have newNo : ∀ q, isNew ao o.dst (S j) (S (j + 1)) q → ∃ b, q = .inr b ∧ (S j).h.nx ≤ b ∧ b < (S (j + 1)).h.nx ∧ (S j).get q = none ∧ μ q = none := by
    rintro q (⟨b, rfl, h1, h2⟩ | h1)
    · exact ⟨b, rfl, h1, h2, hwfj b h1, (h.free j o ho hj).1 b h1 h2⟩
    · rw [heavy_newKey hh] at h1; cases h1
  -- the two kinds of blocks
  have status : ∀ q pl r, μ' q = some pl → (S (lastP (fun i => (L i ∨ i = j) ∧ t.md q i) ops.size)).get q = some r →
      ((S (j + 1)).get q = some r) ∨ ((S j).get q = none ∧ μ q = some pl ∧ (S (lastP (fun i => L i ∧ t.md q i) ops.size)).get q = some r) := by
    intro q pl r hq hr
    by_cases hm : t.md q j
    · rw [l1 q hm] at hr
      exact .inl hr
    · rw [l2 q hm] at hr
      have hsame : (S j).get q = (S (j + 1)).get q := Classical.not_not.1 hm
      cases hsj : (S j).get q with
      | some r0 =>
        rcases hpost.new q pl hq with h1 | ⟨h1, _⟩
        · have := h.atJ henv ho hj hp hhs h1 hsj
          rw [this, hsame] at hr
          exact .inl hr
        · obtain ⟨b, _, _, _, h2, _⟩ := newNo q h1
          rw [h2] at hsj; cases hsj
      | none =>
        rcases hpost.new q pl hq with h1 | ⟨h1, _⟩
        · exact .inr ⟨rfl, h1, hr⟩
        · exfalso
          obtain ⟨b, rfl, g1, g2, _, _⟩ := newNo q h1
          rcases lastP_some (p := fun i => L i ∧ t.md (.inr b) i) ops.size with h0 | ⟨i, hi, ⟨hL, hmi⟩, hlast⟩
          · have e0 := t.nx henv (i := 0) (j := j) (by omega) (by omega)
            rw [h0, show (S 0).get (.inr b) = (S 0).h.hp b from rfl, t.wf b (by omega)] at hr
            cases hr
          · rw [hlast] at hr
            have hij : i ≠ j := by rintro rfl; exact hj hL
            have hget : ops[i]? = some ops[i] := Array.getElem?_eq_getElem hi
            by_cases hlt : i < j
            · have e1 := t.nx henv (i := i + 1) (j := j) (by omega) (by omega)
              rw [show (S (i + 1)).get (.inr b) = (S (i + 1)).h.hp b from rfl, t.wfAll henv (i + 1) (by omega) b (by omega)] at hr
              cases hr
            · rcases (t.one henv hget).2.1 _ hmi with hhi | ⟨hk, _⟩
              · have hord := (open_of t.ok (Trc.lget (P := P) (B := B) (locs := locs) hget) (Trc.lget (P := P) (B := B) (locs := locs) ho) ho hij).1 hhi hhs
                have := (listed_iff h.closed hij hord hj hp).1 hL
                omega
              · have hb : b = (S i).h.nx := by
                  revert hk
                  cases (stripO P locs B.n ops ops[i]).op <;> simp [newKey] <;> omega
                have e1 := t.nx henv (i := j + 1) (j := i) (by omega) (by omega)
                omega
  refine ⟨μ', h.go henv ho hj hp hd hao hwt hT haop hpost.le hcon ⟨?_, ?_⟩ (fun q pl hq => (hpost.new q pl hq).imp id And.left) ?_⟩
  · intro q pl r hq hr
    rcases status q pl r hq hr with h1 | ⟨h1, h2, h3⟩
    · exact hpost.sim.row q pl r hq h1
    · have hrow := h.sim.row q pl r h2 h3
      refine hrow.le hpost.le (hpost.frm.block pl.B hrow.lt ?_)
      intro q' pl' r' hq' hr' hrw hB
      have hne : q' ≠ q := by rintro rfl; rw [h1] at hr'; cases hr'
      have hG := h.atJ henv ho hj hp hhs hq' hr'
      exact h.sim.apart q' q pl' pl r' r hne hq' h2 (by show (S _).get q' = _; rw [hG]; exact hr') h3 hrw hB
  · intro q q' pl pl' r r' hne hq hq' hr hr' hrw
    -- one of each kind
    have mixed : ∀ q q' pl pl' r r', q ≠ q' → μ' q = some pl → (S (j + 1)).get q = some r → (S j).get q' = none → μ q' = some pl' → (S (lastP (fun i => L i ∧ t.md q' i) ops.size)).get q' = some r' → (r.rw = true ∨ r'.rw = true) → pl.B ≠ pl'.B := by
      intro q q' pl pl' r r' hne hq hr h1 h2 h3 hor hB
      have hrow' := h.sim.row q' pl' r' h2 h3
      rcases hpost.new q pl hq with h4 | ⟨h4, h5⟩
      · rcases (t.one henv ho).1 q r hr with ⟨r0, g1, g2⟩ | g1 | g1
        · have hG := h.atJ henv ho hj hp hhs h4 g1
          rcases hor with hor | hor
          · exact h.sim.apart q q' pl pl' r0 r' hne h4 h2 (by show (S _).get q = _; rw [hG]; exact g1) h3 (g2.trans hor) hB
          · exact h.sim.apart q' q pl' pl r' r0 (fun x => hne x.symm) h2 h4 h3 (by show (S _).get q = _; rw [hG]; exact g1) hor hB.symm
        · obtain ⟨b, _, _, _, _, g6⟩ := newNo q (.inl g1)
          rw [g6] at h4; cases h4
        · rw [hao, heavy_newKey hh] at g1; cases g1
      · rcases h5 with h5 | ⟨q0, pl0, r0, k1, k2, k3, k4⟩
        · have := hrow'.lt
          omega
        · have hG := h.atJ henv ho hj hp hhs k1 k2
          have hne0 : q0 ≠ q' := by rintro rfl; rw [h1] at k2; cases k2
          exact h.sim.apart q0 q' pl0 pl' r0 r' hne0 k1 h2 (by show (S _).get q0 = _; rw [hG]; exact k2) h3 k3 (k4.trans hB)
    rcases status q pl r hq hr with h1 | ⟨h1, h2, h3⟩
    · rcases status q' pl' r' hq' hr' with h4 | ⟨h4, h5, h6⟩
      · exact hpost.sim.apart q q' pl pl' r r' hne hq hq' h1 h4 hrw
      · exact mixed q q' pl pl' r r' hne hq h1 h4 h5 h6 (.inl hrw)
    · rcases status q' pl' r' hq' hr' with h4 | ⟨h4, h5, h6⟩
      · exact fun hB => mixed q' q pl' pl r' r (fun x => hne x.symm) hq' h4 h1 h2 h3 (.inr hrw) hB.symm
      · exact h.sim.apart q q' pl pl' r r' hne h2 h5 h3 h6 hrw
  · refine h.glob.step t.top (Nat.le_refl _) hpost ?_ (keepG henv t (fun q i => (L i ∨ i = j) ∧ t.md q i)) (isNew_top henv t ho haop)
    intro q pl r hq hr hrw
    exact ⟨r, by show (S _).get q = _; rw [h.atJ henv ho hj hp hhs hq hr]; exact hr, hrw⟩

end Go.Abs
