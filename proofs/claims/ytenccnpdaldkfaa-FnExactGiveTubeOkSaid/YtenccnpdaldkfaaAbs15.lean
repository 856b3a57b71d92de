/-
  A region of open order, second part.
-/
import Derived.Test.YtenccnpdaldkfaaAbs14
namespace Go.Abs

variable {P : Program} {env : Env} {B : Start} {locs : List Nat} {ops : Array Oper} {T : Nat → Nat → Av} {S : Nat → St}

theorem open_of {l : List AO} {ah : List (List Nat)} (h : openOk ops l ah = true) {i j : Nat} {a b : AO} {o : Oper} (ha : l[i]? = some a) (hb : l[j]? = some b) (ho : ops[j]? = some o) (hne : i ≠ j) :
    (a.op.heavy = true → b.op.heavy = true → inOrder ah i j = true) ∧ ¬ (a.op.newLoc = true ∧ b.op.newLoc = true ∧ a.dst = b.dst) ∧
    (∀ d, a.dst = some d → (d ∈ opTmps o ++ guardTmps ops o ∨ b.dst = some d) → inOrder ah i j = true) := by
  unfold openOk at h
  have hi : i < l.length := (List.getElem?_eq_some_iff.1 ha).1
  have hj : j < l.length := (List.getElem?_eq_some_iff.1 hb).1
  have h1 := List.all_eq_true.1 (List.all_eq_true.1 h i (List.mem_range.2 hi)) j (List.mem_range.2 hj)
  simp only [ha, hb, ho, Bool.or_eq_true, beq_iff_eq, hne, false_or, Bool.and_eq_true] at h1
  obtain ⟨⟨h2, h3⟩, h4⟩ := h1
  refine ⟨?_, ?_, ?_⟩
  · intro x y
    rw [x, y] at h2
    simpa using h2
  · rintro ⟨x, y, z⟩
    rw [x, y, z] at h3
    simp at h3
  · intro d hd hor
    rw [hd] at h4
    simp only [Bool.or_eq_true, Bool.and_eq_true, Bool.not_eq_true', bne_iff_ne, ne_eq] at h4
    rcases h4 with ⟨h5, h6⟩ | h4
    · rcases hor with hor | hor
      · rw [List.contains_eq_mem] at h5
        simp [hor] at h5
      · exact absurd hor h6
    · exact h4

section
variable (henv : EnvOk P env) (t : Trc P env B locs ops T S)

abbrev Trc.ao (_ : Trc P env B locs ops T S) (o : Oper) : AO := stripO P locs B.n ops o
abbrev Trc.ah (_ : Trc P env B locs ops T S) : List (List Nat) := aheads (ops.toList.map directs) []

theorem Trc.lget {i : Nat} {o : Oper} (ho : ops[i]? = some o) : (ops.toList.map (stripO P locs B.n ops))[i]? = some (stripO P locs B.n ops o) := by
  simp [List.getElem?_map, ho]

theorem newLoc_of {s : St} {ao : AO} {k : Nat} (h : newKey ao.dst s ao.op = some (.inl k)) : ao.op.newLoc = true ∧ ao.dst = some k := by
  obtain ⟨d, op, g⟩ := ao
  cases op <;> simp_all [newKey, AOp.newLoc]

include henv t in
/-- A local block is not there before the operation that makes it. -/
theorem Trc.locNone {i : Nat} {o : Oper} (ho : ops[i]? = some o) {k : Nat} (hk : newKey o.dst (S i) (stripO P locs B.n ops o).op = some (.inl k)) : ∀ j, j ≤ i → (S j).get (.inl k) = none
  | 0, _ => t.loc i o k ho hk
  | j + 1, hj => by
    have hi : i < ops.size := (Array.getElem?_eq_some_iff.1 ho).1
    have hget : ops[j]? = some ops[j] := Array.getElem?_eq_getElem (by omega)
    have ih := Trc.locNone ho hk j (by omega)
    cases hr : (S (j + 1)).get (.inl k) with
    | none => rfl
    | some r =>
      rcases (t.one henv hget).1 _ _ hr with ⟨r0, h1, _⟩ | h1 | h1
      · rw [ih] at h1; cases h1
      · obtain ⟨b, hb, _⟩ := h1; cases hb
      · have e1 := newLoc_of (ao := stripO P locs B.n ops o) (s := S i) (k := k) (by rw [stripO_dst]; exact hk)
        have e2 := newLoc_of (ao := stripO P locs B.n ops ops[j]) (s := S j) (k := k) (by rw [stripO_dst]; exact h1)
        exact ((open_of t.ok (Trc.lget (P := P) (B := B) (locs := locs) hget) (Trc.lget (P := P) (B := B) (locs := locs) ho) ho (by omega)).2.1 ⟨e2.1, e1.1, e2.2.trans e1.2.symm⟩).elim

include henv t in
/-- A new block is not there before the operation that makes it. -/
theorem Trc.newNone {i : Nat} {o : Oper} (ho : ops[i]? = some o) {q : Key} (hk : newKey o.dst (S i) (stripO P locs B.n ops o).op = some q) {j : Nat} (hj : j ≤ i) : (S j).get q = none := by
  have hi : i < ops.size := (Array.getElem?_eq_some_iff.1 ho).1
  cases q with
  | inl k => exact Trc.locNone henv t ho hk j hj
  | inr b =>
    have hb : b = (S i).h.nx := by
      revert hk
      cases (stripO P locs B.n ops o).op <;> simp [newKey] <;> omega
    have := t.nx henv hj (by omega)
    exact t.wfAll henv j (by omega) b (by omega)

/-- A quantity's memory, out of the last that changed it. -/
def Trc.md (_ : Trc P env B locs ops T S) (q : Key) (i : Nat) : Prop := (S i).get q ≠ (S (i + 1)).get q
def Trc.wr (_ : Trc P env B locs ops T S) (u : Nat) (i : Nat) : Prop := ∃ o, ops[i]? = some o ∧ o.dst = some u

theorem Trc.memAt (q : Key) (j : Nat) : (S j).get q = (S (lastP (t.md q) j)).get q := last_value (fun i => (S i).get q) j

include henv in
theorem Trc.slotAt (u : Nat) : ∀ j, j ≤ ops.size → T j u = T (lastP (t.wr u) j) u
  | 0, _ => rfl
  | j + 1, hj => by
    have hget : ops[j]? = some ops[j] := Array.getElem?_eq_getElem (by omega)
    unfold lastP
    by_cases hw : t.wr u j
    · rw [if_pos hw]
    · rw [if_neg hw, ← Trc.slotAt u j (by omega)]
      exact (t.one henv hget).2.2 u (fun h => hw ⟨_, hget, h⟩)

end

theorem back_of {ops : Array Oper} (h : backOk ops = true) {i : Nat} {o : Oper} (ho : ops[i]? = some o) {k : Nat} (hk : k ∈ directs o) : k < i := by
  unfold backOk at h
  have hi : i < ops.size := (Array.getElem?_eq_some_iff.1 ho).1
  have h1 := List.all_eq_true.1 h i (List.mem_range.2 hi)
  rw [ho] at h1
  simp only [Option.map_some, Option.all_some] at h1
  simpa using List.all_eq_true.1 h1 k hk

theorem Trc.backAhead (t : Trc P env B locs ops T S) {i j : Nat} (h : i ∈ t.ah.getD j []) : i < j := by
  have h2 : ∀ (dl acc : List (List Nat)), (∀ k i, i ∈ acc.getD k [] → i < k) → (∀ m d, dl[m]? = some d → ∀ i ∈ d, i < acc.length + m) → ∀ k i, i ∈ (aheads dl acc).getD k [] → i < k := by
    intro dl
    induction dl with
    | nil => intro acc h _ k i hi; exact h k i hi
    | cons d r ih =>
      intro acc h hd k i hi
      refine ih (acc ++ [dedup (d ++ d.flatMap fun k => acc.getD k [])]) ?_ ?_ k i hi
      · intro k i hi
        simp only [List.getD_eq_getElem?_getD] at hi
        by_cases h1 : k < acc.length
        · rw [List.getElem?_append_left h1] at hi
          exact h k i (by simpa [List.getD_eq_getElem?_getD] using hi)
        · rw [List.getElem?_append_right (by omega)] at hi
          by_cases h2 : k - acc.length = 0
          · rw [h2] at hi
            simp only [List.getElem?_cons_zero, Option.getD_some] at hi
            have hi := mem_dedup hi
            rcases List.mem_append.1 hi with h3 | h3
            · have := hd 0 d rfl i h3; omega
            · obtain ⟨k', hk', hi'⟩ := List.mem_flatMap.1 h3
              have := h k' i hi'
              have := hd 0 d rfl k' hk'
              omega
          · rw [List.getElem?_eq_none (by simp; omega)] at hi
            simp at hi
      · intro m d' hd' i hi
        have := hd (m + 1) d' (by simpa using hd') i hi
        simp only [List.length_append, List.length_cons, List.length_nil]
        omega
  refine h2 _ [] (by intro k i hi; simp at hi) ?_ j i h
  intro m d hd i hi
  simp only [List.getElem?_map, Option.map_eq_some_iff] at hd
  obtain ⟨o, ho, rfl⟩ := hd
  have := back_of t.back (i := m) (o := o) (by simpa using ho) hi
  simpa using this

/-- What has been carried out of a region of open order. -/
structure Drawn (P : Program) (env : Env) (B : Start) (locs : List Nat) (ops : Array Oper) (T : Nat → Nat → Av) (S : Nat → St) (t : Trc P env B locs ops T S) (L : Nat → Prop) (μ : Mp) (a : Act) (w : World) : Prop where
  closed : ∀ k i, i ∈ t.ah.getD k [] → L k → L i
  sim : Sim μ (fun q => (S (lastP (fun i => L i ∧ t.md q i) ops.size)).get q) w
  slots : ∀ u, ConA μ (T (lastP (fun i => L i ∧ t.wr u i) ops.size) u) (a.tmps.getD u undef)
  defers : a.defers = []
  size : B.n ≤ a.tmps.size
  free : ∀ i o, ops[i]? = some o → ¬ L i → (∀ b, (S i).h.nx ≤ b → b < (S (i + 1)).h.nx → μ (.inr b) = none) ∧ (wantedA (T i) (stripO P locs B.n ops o) = some true → ∀ q, newKey o.dst (S i) (stripO P locs B.n ops o).op = some q → μ q = none)
  free' : ∀ b, (S ops.size).h.nx ≤ b → b < B.N → μ (.inr b) = none
  glob : Glob B.μ0 B.h0 B.w0 μ (fun q => (S (lastP (fun i => L i ∧ t.md q i) ops.size)).get q) (S ops.size).h.nx w

section
variable (henv : EnvOk P env) {t : Trc P env B locs ops T S} {L : Nat → Prop} {μ : Mp} {a : Act} {w : World}

theorem inOrder_lt {ah : List (List Nat)} {i j : Nat} (h : inOrder ah i j = true) : (i < j → i ∈ ah.getD j []) ∧ (¬ i < j → j ∈ ah.getD i []) := by
  unfold inOrder at h
  split at h
  · rename_i hij
    exact ⟨fun _ => by simpa using h, fun h' => absurd hij h'⟩
  · rename_i hij
    exact ⟨fun h' => absurd h' hij, fun _ => by simpa using h⟩

/-- An order between i and j (not yet carried out, all ahead of it carried out): i is carried out just if it comes first. -/
theorem listed_iff (hc : ∀ k i, i ∈ t.ah.getD k [] → L k → L i) {i j : Nat} (hne : i ≠ j) (ho : inOrder t.ah i j = true) (hj : ¬ L j) (hp : ∀ i, i ∈ t.ah.getD j [] → L i) : L i ↔ i < j := by
  obtain ⟨h1, h2⟩ := inOrder_lt ho
  constructor
  · intro hL
    refine Classical.byContradiction fun hij => hj ?_
    exact hc i j (h2 hij) hL
  · intro hij
    exact hp i (h1 hij)

theorem inOrder_symm {ah : List (List Nat)} {i j : Nat} (hne : i ≠ j) (h : inOrder ah i j = true) : inOrder ah j i = true := by
  unfold inOrder at h ⊢
  by_cases hij : i < j
  · rw [if_pos hij] at h; rw [if_neg (by omega)]; exact h
  · rw [if_neg hij] at h; rw [if_pos (by omega)]; exact h

/-- A slot that the operation j names reads as it does in the text's order. -/
theorem Drawn.slot (henv : EnvOk P env) (h : Drawn P env B locs ops T S t L μ a w) {j : Nat} {o : Oper} (ho : ops[j]? = some o) (hj : ¬ L j) (hp : ∀ i, i ∈ t.ah.getD j [] → L i) {u : Nat} (hu : u ∈ opTmps o ++ guardTmps ops o) : ConA μ (T j u) (a.tmps.getD u undef) := by
  have hjn : j < ops.size := (Array.getElem?_eq_some_iff.1 ho).1
  have h1 := h.slots u
  have e : lastP (fun i => L i ∧ t.wr u i) ops.size = lastP (t.wr u) j := by
    rw [lastP_cut (j := j) ops.size (by omega)]
    · refine lastP_congr j fun i hi => ⟨fun h => h.2, fun hw => ⟨?_, hw⟩⟩
      obtain ⟨oi, hoi, hd⟩ := hw
      have hord := (open_of t.ok (Trc.lget (P := P) (B := B) (locs := locs) hoi) (Trc.lget (P := P) (B := B) (locs := locs) ho) ho (by omega)).2.2 u (by rw [stripO_dst]; exact hd) (.inl hu)
      exact (listed_iff h.closed (by omega) hord hj hp).2 hi
    · rintro i hi hin ⟨hL, oi, hoi, hd⟩
      by_cases hij : i = j
      · subst hij; exact hj hL
      · have hord := (open_of t.ok (Trc.lget (P := P) (B := B) (locs := locs) hoi) (Trc.lget (P := P) (B := B) (locs := locs) ho) ho hij).2.2 u (by rw [stripO_dst]; exact hd) (.inl hu)
        have := (listed_iff h.closed hij hord hj hp).1 hL
        omega
  rw [e, ← t.slotAt henv u j (by omega)] at h1
  exact h1

/-- A block that is there when j is carried out in the text's order, and whose changers all stand in an order with j (or are its maker): it reads as in the text's order. -/
theorem Drawn.mem (henv : EnvOk P env) (h : Drawn P env B locs ops T S t L μ a w) {j : Nat} {o : Oper} (ho : ops[j]? = some o) (hj : ¬ L j) (hp : ∀ i, i ∈ t.ah.getD j [] → L i) {q : Key} {pl : Place} {r : Row} (hq : μ q = some pl) (hr : (S j).get q = some r)
    (hord : ∀ i oi, ops[i]? = some oi → i ≠ j → (stripO P locs B.n ops oi).op.heavy = true → t.md q i → inOrder t.ah i j = true) : (S (lastP (fun i => L i ∧ t.md q i) ops.size)).get q = (S j).get q := by
  have hjn : j < ops.size := (Array.getElem?_eq_some_iff.1 ho).1
  have e : lastP (fun i => L i ∧ t.md q i) ops.size = lastP (t.md q) j := by
    have side : ∀ i, i < ops.size → i ≠ j → t.md q i → (L i ↔ i < j) := by
      intro i hi hij hm
      have hget : ops[i]? = some ops[i] := Array.getElem?_eq_getElem hi
      rcases (t.one henv hget).2.1 q hm with hh | ⟨hk, hwt⟩
      · exact listed_iff h.closed hij (hord i _ hget hij hh hm) hj hp
      · have hL : L i := by
          refine Classical.byContradiction fun hL => ?_
          rw [(h.free i _ hget hL).2 hwt q hk] at hq
          cases hq
        refine ⟨fun _ => ?_, fun _ => hL⟩
        refine Classical.byContradiction fun hlt => ?_
        rw [Trc.newNone henv t hget hk (j := j) (by omega)] at hr
        cases hr
    rw [lastP_cut (j := j) ops.size (by omega)]
    · exact lastP_congr j fun i hi => ⟨fun h => h.2, fun hm => ⟨(side i (by omega) (by omega) hm).2 hi, hm⟩⟩
    · rintro i hi hin ⟨hL, hm⟩
      by_cases hij : i = j
      · subst hij; exact hj hL
      · have := (side i hin hij hm).1 hL
        omega
  rw [e, ← t.memAt q j]

end
end Go.Abs
