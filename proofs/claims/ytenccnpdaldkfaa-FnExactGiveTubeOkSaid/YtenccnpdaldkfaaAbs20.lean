/-
  A function of the model and its abstract function.
-/
import Derived.Test.YtenccnpdaldkfaaAbs19
namespace Go.Abs

variable {P : Program} {env : Env}

def Grow (h h' : Heap) : Prop := h.nx ≤ h'.nx ∧ ∀ b r', h'.hp b = some r' → (∃ r, h.hp b = some r ∧ r.rw = r'.rw) ∨ (h.nx ≤ b ∧ b < h'.nx)

theorem keeperGrow (henv : EnvOk P env) : Keeper env Grow := by
  refine ⟨fun h => ⟨Nat.le_refl _, fun b r hr => .inl ⟨r, hr, rfl⟩⟩, ?_, ?_⟩
  · rintro a b c ⟨h1, h2⟩ ⟨k1, k2⟩
    refine ⟨Nat.le_trans h1 k1, fun x r' hr => ?_⟩
    rcases k2 x r' hr with ⟨r, g1, g2⟩ | ⟨g1, g2⟩
    · rcases h2 x r g1 with ⟨r0, m1, m2⟩ | ⟨m1, m2⟩
      · exact .inl ⟨r0, m1, m2.trans g2⟩
      · exact .inr ⟨m1, by omega⟩
    · exact .inr ⟨by omega, g2⟩
  · intro o p p' h
    unfold stepO at h
    split at h
    · simp only [Option.map_eq_some_iff] at h
      obtain ⟨⟨v, s'⟩, ha, rfl⟩ := h
      obtain ⟨h1, h2⟩ := aop_keeps henv ha
      refine ⟨h1, fun b r' hr => ?_⟩
      rcases h2 (.inr b) r' hr with h3 | ⟨b', hb, h4, h5⟩ | h3
      · exact .inl h3
      · injection hb with hb
        subst hb
        exact .inr ⟨h4, h5⟩
      · have := newKey_hp ha b h3
        exact .inr ⟨this.2, this.1⟩
    · simp only [Option.some.injEq] at h
      rw [← h]
      exact ⟨Nat.le_refl _, fun b r hr => .inl ⟨r, hr, rfl⟩⟩
    · simp at h

theorem ConAs.get {μ : Mp} : ∀ {xs : List Av} {vs : List Value}, ConAs μ xs vs → ∀ t, ConA μ (xs.getD t .no) (vs.getD t undef)
  | [], [], _, t => trivial
  | x :: xs, v :: vs, h, 0 => h.1
  | x :: xs, v :: vs, h, t + 1 => by simpa using ConAs.get h.2 t
  | [], _ :: _, h, _ => h.elim
  | _ :: _, [], h, _ => h.elim
theorem ConAs.length {μ : Mp} : ∀ {xs : List Av} {vs : List Value}, ConAs μ xs vs → xs.length = vs.length
  | [], [], _ => rfl
  | x :: xs, v :: vs, h => by simp [ConAs.length h.2]
  | [], _ :: _, h => h.elim
  | _ :: _, [], h => h.elim

theorem slots0 {μ : Mp} {xs : List Av} {vs : List Value} (h : ConAs μ xs vs) (n t : Nat) : ConA μ (argsT xs t) ((vs.toArray ++ Array.replicate n undef).getD t undef) := by
  unfold argsT
  by_cases ht : t < xs.length
  · have := h.get t
    rw [Array.getD_eq_getD_getElem?, Array.getElem?_append_left (by simpa [← h.length] using ht)]
    simpa [List.getD_eq_getElem?_getD] using this
  · rw [List.getD_eq_getElem?_getD, List.getElem?_eq_none (by omega)]
    trivial

def resG (P : Program) (tmps : Array Value) : ResultVar → Sem Value
  | .tmp t => pure (tmps.getD t undef)
  | .cell a t => do loadVar t (← asAddr (tmps.getD a undef))

theorem res_one {B : Start} {μ : Mp} {x : X} {a : Act} {w : World} (hR : Rel B μ x.1 x.2 a w) {r : ResultVar} {v : RV} {t : Tv} (hv : rvOf P r = some v) (h : resA x v = some t) :
    ∃ u, (resG P a.tmps r).run P w = .ok u w ∧ ConT (hpOnly μ) t u := by
  cases r with
  | tmp n =>
    simp only [rvOf, Option.some.injEq] at hv
    subst hv
    simp only [resA, Option.bind_eq_some_iff] at h
    obtain ⟨t', ht, h⟩ := h
    split at h
    · rename_i hno
      simp only [Option.some.injEq] at h
      subst h
      refine ⟨a.tmps.getD n undef, rfl, ?_⟩
      have hs := hR.slots n
      cases hx : x.1 n with
      | v y =>
        rw [hx] at hs ht
        simp only [Av.tv?, Option.some.injEq] at ht
        subst ht
        exact ConT.agree (μ := μ) (μ' := hpOnly μ) (fun _ => rfl) hno hs
      | _ => rw [hx] at ht; simp [Av.tv?] at ht
    · simp at h
  | cell n ty =>
    simp only [rvOf] at hv
    split at hv
    · rename_i k hag hsz
      simp only [Option.some.injEq] at hv
      subst hv
      simp only [resA, Option.bind_eq_some_iff] at h
      obtain ⟨p, hp, r, hr, h⟩ := h
      split at h
      · rename_i hfit
        simp only [Option.some.injEq] at h
        subst h
        have hc : ConP μ p (a.tmps.getD n undef) := by
          have hs := hR.slots n
          cases hx : x.1 n with
          | v y =>
            rw [hx] at hs hp
            cases y with
            | c c => cases c <;> simp [Av.ptr?, Av.ce?] at hp <;> (subst hp; exact hs)
            | agg l => simp [Av.ptr?, Av.ce?] at hp
          | _ => rw [hx] at hp; simp [Av.ptr?, Av.ce?] at hp
        obtain ⟨pl, hpl, e⟩ := hc
        have hrow := hR.sim.row _ _ _ hpl hr
        obtain ⟨vs, hl, hcell, hcon⟩ := hrow.cells hfit
        obtain ⟨_, _, _, _, _, _, hnl, _⟩ := hrow
        simp only [szOf, Option.map_eq_some_iff] at hsz
        obtain ⟨i, hi, rfl⟩ := hsz
        have hrun := run_loadCells_list (P := P) w _ vs hcell
        rw [hl] at hrun
        refine ⟨.agg vs.toArray, by simp [resG, e, asAddr, loadVar, agg_true hag, sizeOf, typeInfo, hi, hrun], vs, rfl, ?_, (hnl.drop _).take _⟩
        exact ConL.agree (μ := μ) (μ' := hpOnly μ) (fun _ => rfl) ((hnl.drop _).take _) hcon
      · simp at h
    · rename_i hag hsz
      simp only [Option.some.injEq] at hv
      subst hv
      simp only [resA, Option.bind_eq_some_iff, Option.map_eq_some_iff] at h
      obtain ⟨p, hp, r, hr, c, hcc, rfl⟩ := h
      have hc : ConP μ p (a.tmps.getD n undef) := by
        have hs := hR.slots n
        cases hx : x.1 n with
        | v y =>
          rw [hx] at hs hp
          cases y with
          | c c => cases c <;> simp [Av.ptr?, Av.ce?] at hp <;> (subst hp; exact hs)
          | agg l => simp [Av.ptr?, Av.ce?] at hp
        | _ => rw [hx] at hp; simp [Av.ptr?, Av.ce?] at hp
      obtain ⟨pl, hpl, e⟩ := hc
      have hrow := hR.sim.row _ _ _ hpl hr
      obtain ⟨v, hv, hcon⟩ := hrow.cell hcc
      obtain ⟨_, _, _, _, _, _, hnl, _⟩ := hrow
      refine ⟨v, by simp [resG, e, asAddr, loadVar, agg_false hag, hv], ?_⟩
      exact ConC.agree (μ := μ) (μ' := hpOnly μ) (fun _ => rfl) (hnl.get _ _ hcc) hcon
    · simp at hv

theorem res_all {B : Start} {μ : Mp} {x : X} {a : Act} {w : World} (hR : Rel B μ x.1 x.2 a w) : ∀ {l : List ResultVar} {rs : List RV} {ts : List Tv}, rvsOf P l = some rs → ressA x rs = some ts →
    ∃ vs, (l.mapM (resG P a.tmps)).run P w = .ok vs w ∧ ConTs (hpOnly μ) ts vs
  | [], rs, ts, h, k => by
    simp only [rvsOf, Option.some.injEq] at h
    subst h
    simp only [ressA, Option.some.injEq] at k
    subst k
    exact ⟨[], by simp, trivial⟩
  | r :: l, rs, ts, h, k => by
    simp only [rvsOf, Option.bind_eq_some_iff, Option.map_eq_some_iff] at h
    obtain ⟨v, hv, rs', hrs, rfl⟩ := h
    simp only [ressA, Option.bind_eq_some_iff, Option.map_eq_some_iff] at k
    obtain ⟨t, ht, ts', hts, rfl⟩ := k
    obtain ⟨u, hu, hcu⟩ := res_one (P := P) hR hv ht
    obtain ⟨us, hus, hcus⟩ := res_all hR hrs hts
    refine ⟨u :: us, ?_, hcu, hcus⟩
    rw [List.mapM_cons]
    simp [hu, hus]

theorem ConTs.length {μ : Mp} : ∀ {xs : List Tv} {vs : List Value}, ConTs μ xs vs → xs.length = vs.length
  | [], [], _ => rfl
  | x :: xs, v :: vs, h => by simp [ConTs.length h.2]
  | [], _ :: _, h => h.elim
  | _ :: _, [], h => h.elim

theorem results_run {fn : Func} {tmps : Array Value} {w : World} {vs : List Value} (h : (fn.results.toList.mapM (resG P tmps)).run P w = .ok vs w) {μ : Mp} {ts : List Tv} (hc : ConTs μ ts vs) :
    ∃ v, (results fn tmps).run P w = .ok v w ∧ ConA μ (resOf ts) v := by
  have e : fn.results.mapM (resG P tmps) = List.toArray <$> fn.results.toList.mapM (resG P tmps) := Array.mapM_eq_mapM_toList
  have hr : (results fn tmps).run P w = .ok (if h : vs.toArray.size = 1 then vs.toArray[0] else .tuple vs.toArray) w := by
    have e2 : results fn tmps = (fn.results.mapM (resG P tmps) >>= fun vs => pure (if h : vs.size = 1 then vs[0] else .tuple vs)) := by
      unfold results
      refine congrArg (fun f => (fn.results.mapM f >>= fun vs => pure (if h : vs.size = 1 then vs[0] else .tuple vs) : Sem Value)) (funext fun r => ?_)
      cases r <;> rfl
    rw [e2]
    rw [e]
    simp [h]
  refine ⟨_, hr, ?_⟩
  cases ts with
  | nil =>
    cases vs with
    | nil => exact ⟨[], rfl, trivial⟩
    | cons v vs => exact hc.elim
  | cons t ts =>
    cases vs with
    | nil => exact hc.elim
    | cons v vs =>
      cases ts with
      | nil =>
        cases vs with
        | nil => exact hc.1
        | cons u vs => exact hc.2.elim
      | cons t' ts =>
        cases vs with
        | nil => exact hc.2.elim
        | cons u vs => exact ⟨v :: u :: vs, by simp, hc⟩

theorem runF_sound (henv : EnvOk P env) (hm : P.follows .mixedOrders = true) {f : FuncId} {fn : Func} {c : Code} {rs : List RV} (locs : List Nat) (hf : P.funcs[f]? = some fn) (hb : fn.body = some c) (hname : (fn.name == "runtime.NumGoroutine") = false) (hrs : rvsOf P fn.results.toList = some rs) :
    Sound P f (runF env (strip P locs fn.ntmps c) rs) := by
  have grow : ∀ args h v h', runF env (strip P locs fn.ntmps c) rs args h = some (v, h') → Grow h h' := by
    intro args h v h' hF
    simp only [runF, Option.bind_eq_some_iff] at hF
    obtain ⟨⟨e, y⟩, hy, hF⟩ := hF
    have := code_rel (keeperGrow henv) _ _ e y hy
    cases e with
    | exit i => simp at hF
    | _ =>
      simp only [Option.map_eq_some_iff, Prod.mk.injEq] at hF
      obtain ⟨l, _, _, rfl⟩ := hF
      exact this
  refine ⟨⟨fn, hf, hname, by rw [hb]; rfl⟩, fun args h v h' hF => (grow args h v h' hF).1, ?_, ?_⟩
  · intro args h v h' b r' hF hno hr
    rcases (grow args h v h' hF).2 b r' hr with h1 | h1
    · exact h1
    · exact (hno h1).elim
  · intro args h v h' μ w vals hF hloc hfresh hs hargs hwf
    simp only [runF, Option.bind_eq_some_iff] at hF
    obtain ⟨⟨e, y⟩, hy, hF⟩ := hF
    have hF' : ∃ l, ressA y rs = some l ∧ resOf l = v ∧ y.2.h = h' ∧ (e = .normal ∨ e = .ret) := by
      cases e with
      | exit i => simp at hF
      | _ =>
        simp only [Option.map_eq_some_iff, Prod.mk.injEq] at hF
        obtain ⟨l, h1, h2, h3⟩ := hF
        exact ⟨l, h1, h2, h3, by simp⟩
    clear hF
    obtain ⟨ts, hts, rfl, rfl, he⟩ := hF'
    let B : Start := ⟨μ, h, w, y.2.h.nx, fn.ntmps, hloc, hfresh⟩
    have hnx := code_nx henv _ _ _ _ hy
    refine calls_of_wp hf hb (code_wp (B := B) henv hm (locs := locs) c _ _ e y μ _ w hy (Nat.le_refl _) ?_ ?_)
    · have hget : (⟨h, fun _ => none⟩ : St).get = h.get := by
        funext q
        cases q <;> rfl
      refine ⟨by rw [hget]; exact hs, fun t => ?_, rfl, ?_, fun b h1 h2 => hfresh b h1 h2, Nat.le_refl _, hnx, ⟨fun b pl hb => hb, Frm.refl _ _ _, fun q pl hq => .inl hq, fun b r' hr => .inl ⟨r', hr, rfl⟩⟩, hwf⟩
      · exact slots0 hargs _ t
      · show fn.ntmps ≤ _
        simp only [Array.size_append, Array.size_replicate]
        omega
    · intro μ' a' w' hR
      have post : a'.defers = [] ∧ ∃ v', (results fn a'.tmps).run P w' = .ok v' w' ∧ ∃ v'' μ', Ending.returned v' = .returned v'' ∧ ConA μ' (resOf ts) v'' ∧ Post μ h.get y.2.h.get w μ' w' (newOf h.nx y.2.h.nx) := by
        obtain ⟨vs, hvs, hcon⟩ := res_all (P := P) hR hrs hts
        obtain ⟨v', hv', hcv⟩ := results_run (P := P) hvs hcon
        refine ⟨hR.defers, v', hv', v', hpOnly μ', rfl, hcv, ?_, ?_, hR.glob.frm, ?_⟩
        · intro q pl hq
          cases q with
          | inl k => rw [hloc k] at hq; cases hq
          | inr b => exact hR.glob.le b pl hq
        · refine ⟨?_, ?_⟩
          · intro q pl r hq hr
            cases q with
            | inl k => simp [hpOnly] at hq
            | inr b =>
              obtain ⟨cs, e, fr, a1, a2, a3, a4, a5⟩ := hR.sim.row (.inr b) pl r hq hr
              exact ⟨cs, e, fr, a1, a2, ConL.agree (μ := μ') (μ' := hpOnly μ') (fun _ => rfl) a4 a3, a4, a5⟩
          · intro q q' pl pl' r r' hne hq hq' hr hr' hrw
            cases q with
            | inl k => simp [hpOnly] at hq
            | inr b =>
              cases q' with
              | inl k => simp [hpOnly] at hq'
              | inr b' => exact hR.sim.apart (.inr b) (.inr b') pl pl' r r' hne hq hq' hr hr' hrw
        · intro q pl hq
          cases q with
          | inl k => simp [hpOnly] at hq
          | inr b =>
            rcases hR.glob.new (.inr b) pl hq with h1 | ⟨h1, h2⟩
            · exact .inl h1
            · refine .inr ⟨?_, h2⟩
              rcases h1 with ⟨k, hk⟩ | h1
              · cases hk
              · exact h1
      rcases he with rfl | rfl
      · exact post
      · exact post

theorem sound_of (henv : EnvOk P env) (hm : P.follows .mixedOrders = true) {f : FuncId} {fn : Func} {code : ACode} {rs : List RV} (locs : List Nat) (hf : P.funcs[f]? = some fn) (hc : fn.body.map (strip P locs fn.ntmps) = some code) (hname : (fn.name == "runtime.NumGoroutine") = false) (hrs : rvsOf P fn.results.toList = some rs) :
    Sound P f (runF env code rs) := by
  obtain ⟨c, hb, rfl⟩ := Option.map_eq_some_iff.1 hc
  exact runF_sound henv hm locs hf hb hname hrs

end Go.Abs
