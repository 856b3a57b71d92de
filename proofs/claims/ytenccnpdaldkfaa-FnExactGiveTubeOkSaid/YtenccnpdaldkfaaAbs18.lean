/-
  A region of open order, from its abstract run.
-/
import Derived.Test.YtenccnpdaldkfaaAbs17
namespace Go.Abs

variable {P : Program} {env : Env} {B : Start} {locs : List Nat} {ops : Array Oper}

theorem Rel.drew {μ : Mp} {T : Nat → Av} {s : St} {a : Act} {w : World} (hR : Rel B μ T s a w) : Rel B μ T s a { w with drawn := w.drawn + 1 } :=
  ⟨⟨hR.sim.row, hR.sim.apart⟩, hR.slots, hR.defers, hR.size, hR.fresh, hR.nx0, hR.nxN,
    ⟨hR.glob.le, ⟨hR.glob.frm.os, hR.glob.frm.tape, hR.glob.frm.output, hR.glob.frm.size, hR.glob.frm.block⟩, hR.glob.new, hR.glob.keeps⟩, hR.wf⟩

theorem Glob.top_mono {μ0 μ : Mp} {h0 : Heap} {w0 w : World} {g : Mem} {m n : Nat} (h : Glob μ0 h0 w0 μ g m w) (hmn : m ≤ n) : Glob μ0 h0 w0 μ g n w := by
  refine ⟨h.le, h.frm, fun q pl hq => ?_, fun b r' hr => ?_⟩
  · rcases h.new q pl hq with h1 | ⟨h1, h2⟩
    · exact .inl h1
    · refine .inr ⟨?_, h2⟩
      rcases h1 with h1 | ⟨b, rfl, h3, h4⟩
      · exact .inl h1
      · exact .inr ⟨b, rfl, h3, by omega⟩
  · rcases h.keeps b r' hr with h1 | ⟨h1, h2⟩
    · exact .inl h1
    · exact .inr ⟨h1, by omega⟩

theorem lastP_none {p : Nat → Prop} (hp : ∀ i, ¬ p i) : ∀ n, lastP p n = 0
  | 0 => rfl
  | n + 1 => by
    unfold lastP
    rw [if_neg (hp n)]
    exact lastP_none hp n

theorem chkAll_mem {ops : List AO} {tr : List ((Nat → Av) × St)} : ∀ {l : List (Nat × Nat)} {p : Nat × Nat}, chkAll ops tr l → p ∈ l → chkPair ops tr p.1 p.2
  | [], p, _, h => by simp at h
  | (i, j) :: r, p, hc, h => by
    rcases List.mem_cons.1 h with h | h
    · subst h; exact hc.1
    · exact chkAll_mem hc.2 h

theorem open_mem {l : List AO} {ah : List (List Nat)} {i j : Nat} {a b : AO} (ha : l[i]? = some a) (hb : l[j]? = some b) (h1 : a.op.heavy = true) (h2 : b.op.light = true) (h3 : i ≠ j) (h4 : ¬ i ∈ ah.getD j []) (h5 : ¬ j ∈ ah.getD i []) : (i, j) ∈ openPairs l ah := by
  unfold openPairs
  refine List.mem_flatMap.2 ⟨i, List.mem_range.2 (List.getElem?_eq_some_iff.1 ha).1, List.mem_filterMap.2 ⟨j, List.mem_range.2 (List.getElem?_eq_some_iff.1 hb).1, ?_⟩⟩
  simp only [ha, hb]
  have e4 : (ah.getD j []).contains i = false := by simpa using h4
  have e5 : (ah.getD i []).contains j = false := by simpa using h5
  simp only [h1, h2, e4, e5]
  simp [h3]

theorem madeL_all {locs : List Nat} {n : Nat} {ops : Array Oper} {s : St} {k : Nat} : ∀ {l : List Oper} {o : Oper}, o ∈ l → newKey o.dst s (stripO P locs n ops o).op = some (.inl k) → k ∈ madeL locs l
  | [], o, h, _ => by simp at h
  | x :: l, o, h, hk => by
    rcases List.mem_cons.1 h with h | h
    · subst h
      rw [(madeL_key (r := l) hk).1]
      exact List.mem_cons_self
    · exact madeL_mem (madeL_all h hk)

theorem regionD_wp (henv : EnvOk P env) (hm : P.follows .mixedOrders = true) {id : Nat} {Q : Exit → Act → World → Prop} {T : Nat → Av} {s : St} {p' : (Nat → Av) × St} {μ : Mp} {a : Act} {w : World}
    (hrun : runRegD env (ops.toList.map (stripO P locs B.n ops)) (openPairs (ops.toList.map (stripO P locs B.n ops)) (aheads (ops.toList.map directs) [])) (kill (madeL locs ops.toList) (T, s)) = some p')
    (hok : openOk ops (ops.toList.map (stripO P locs B.n ops)) (aheads (ops.toList.map directs) []) = true) (hback : backOk ops = true) (hN : p'.2.h.nx ≤ B.N) (hR : Rel B μ T s a w)
    (hQ : ∀ μ' a' w', Rel B μ' p'.1 p'.2 a' w' → Q .normal a' w') : (Code.region id ops true).wp P Q a w := by
  obtain ⟨μ1, hR0, hfr⟩ := hR.kill (madeL locs ops.toList)
  have hR1 := hR0.drew
  have hcut : ∀ k, k ∈ madeL locs ops.toList → (kill (madeL locs ops.toList) (T, s)).2.get (.inl k) = none := by
    intro k hk
    cases hds : madeL locs ops.toList with
    | nil => rw [hds] at hk; simp at hk
    | cons d ds =>
      rw [hds] at hk
      simp only [kill, St.get]
      rw [if_pos (by simpa using hk)]
  revert hrun hR1 hcut
  generalize kill (madeL locs ops.toList) (T, s) = p0
  intro hrun hR1 hcut
  simp only [runRegD, Option.bind_eq_some_iff] at hrun
  obtain ⟨tr, htr, hrun⟩ := hrun
  split at hrun
  · rename_i hchk
    have hlen := trace_length htr
    simp only [List.length_map, Array.length_toList] at hlen hrun
    have hhead := trace_head htr
    have e0 : ((tr[0]?).getD p0) = p0 := by rw [hhead]; rfl
    have eN : ((tr[ops.size]?).getD p0) = p' := by rw [hrun]; rfl
    have t : Trc P env B locs ops (fun i => ((tr[i]?).getD p0).1) (fun i => ((tr[i]?).getD p0).2) := by
      refine ⟨?_, hok, hback, ?_, ?_, ?_, ?_, ?_, ?_⟩
      · intro i o ho
        obtain ⟨x, y, hx, hy, hst⟩ := trace_step htr i (stripO P locs B.n ops o) (by simp [List.getElem?_map, ho])
        simp only [hx, hy, Option.getD_some]
        exact hst
      · intro i j oi oj q hi hj hh hk hl hij h1 h2
        have hc := chkAll_mem hchk (open_mem (l := ops.toList.map (stripO P locs B.n ops)) (by simp [List.getElem?_map, hi]) (by simp [List.getElem?_map, hj]) hh hl hij h1 h2)
        unfold chkPair at hc
        have hil : i < ops.size := (Array.getElem?_eq_some_iff.1 hi).1
        have hjl : j < ops.size := (Array.getElem?_eq_some_iff.1 hj).1
        have g1 : tr[j]? = some tr[j] := List.getElem?_eq_getElem (by omega)
        have g2 : tr[i]? = some tr[i] := List.getElem?_eq_getElem (by omega)
        have g3 : tr[i + 1]? = some tr[i + 1] := List.getElem?_eq_getElem (by omega)
        simp only [g1, g2, g3, List.getElem?_map, Array.getElem?_toList, hj, Option.map_some, Option.getD_some] at hc hk ⊢
        rw [hk] at hc
        exact hc
      · simp only [e0]; exact hR1.wf
      · intro i o k ho hk
        simp only [e0]
        exact hcut k (madeL_all (l := ops.toList) (Array.mem_toList_iff.2 (Array.mem_of_getElem? ho)) hk)
      · simp only [eN]; exact hN
      · simp only [e0]; exact hR1.nx0
      · simp only [e0]; exact hR1.glob.keeps
    refine wp_region_any hm (draw_any henv t (fun μ' a' w' h => hQ μ' a' w' (by simpa only [eN] using h)) ops.size _ μ1 a _ (by simp) ?_ ?_ ?_)
    · exact Nat.le_trans List.countP_le_length (by simp)
    · intro m o hm' i hi h
      have hml : m < ops.size := (Array.getElem?_eq_some_iff.1 hm').1
      rw [Array.getD_eq_getD_getElem?] at h
      simp [hml] at h
    · have hno : ∀ i, ¬ (Array.replicate ops.size false).getD i false = true := by
        intro i h
        rw [Array.getD_eq_getD_getElem?] at h
        by_cases hi : i < ops.size <;> simp [hi] at h
      have l0 : ∀ q, lastP (fun i => (Array.replicate ops.size false).getD i false = true ∧ t.md q i) ops.size = 0 := fun q => lastP_none (fun i h => hno i h.1) _
      have l1 : ∀ u, lastP (fun i => (Array.replicate ops.size false).getD i false = true ∧ t.wr u i) ops.size = 0 := fun q => lastP_none (fun i h => hno i h.1) _
      have hG : (fun q => (((tr[lastP (fun i => (Array.replicate ops.size false).getD i false = true ∧ t.md q i) ops.size]?).getD p0).2).get q) = p0.2.get := funext fun q => by rw [l0 q, e0]
      have hnx := fun {i j : Nat} => t.nx henv (i := i) (j := j)
      have hnx0 : ∀ i, i ≤ ops.size → p0.2.h.nx ≤ ((tr[i]?).getD p0).2.h.nx := by
        intro i hi
        have := hnx (Nat.zero_le i) hi
        simpa only [e0] using this
      have htop : ∀ i, i ≤ ops.size → ((tr[i]?).getD p0).2.h.nx ≤ B.N := fun i hi => Nat.le_trans (hnx hi (Nat.le_refl _)) t.top
      refine ⟨?_, ?_, ?_, hR1.defers, hR1.size, ?_, ?_, ?_⟩
      · intro k i _ h; exact absurd h (hno k)
      · rw [hG]; exact hR1.sim
      · intro u; rw [l1 u, e0]; exact hR1.slots u
      · intro i o ho _
        have hil : i < ops.size := (Array.getElem?_eq_some_iff.1 ho).1
        refine ⟨fun b h1 h2 => ?_, fun hwt q hq => ?_⟩
        · exact hR1.fresh b (Nat.le_trans (hnx0 i (by omega)) h1) (Nat.lt_of_lt_of_le h2 (htop (i + 1) (by omega)))
        · cases q with
          | inl k => exact hfr k (madeL_all (l := ops.toList) (Array.mem_toList_iff.2 (Array.mem_of_getElem? ho)) hq)
          | inr b =>
            obtain ⟨g, hg, hd, heq, hcase⟩ := stripO_step (t.step i o ho)
            rw [heq] at hq hwt
            rcases hcase with ⟨_, v, s', ha, hpp⟩ | ⟨hwf, _⟩
            · simp only [Prod.mk.injEq] at hpp
              have := newKey_hp ha b hq
              rw [← hpp.2] at this
              exact hR1.fresh b (Nat.le_trans (hnx0 i (by omega)) this.2) (Nat.lt_of_lt_of_le this.1 (htop (i + 1) (by omega)))
            · rw [hwf] at hwt; cases hwt
      · intro b h1 h2
        exact hR1.fresh b (Nat.le_trans (hnx0 ops.size (Nat.le_refl _)) h1) h2
      · rw [hG]
        exact hR1.glob.top_mono (hnx0 ops.size (Nat.le_refl _))
  · simp at hrun

end Go.Abs
