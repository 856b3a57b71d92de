/-
  A region of open order, second part.
-/
import Derived.Test.YtenccnpdaldkfaaB2631c
import Derived.LoopN
import Derived.ChangeShapes
import Derived.OpenShut
import Derived.Deep.Slices
import Derived.ChangeOld
import Derived.Below
import Derived.SizedLaws
import Derived.WalkKit
import Derived.ProofKit
set_option linter.unusedSimpArgs false
set_option linter.unusedVariables false
namespace Go.Abs

variable {P : Program} {env : Env} {B : Start} {locs : List Nat} {ops : Array Oper} {T : Nat → Nat → Av} {S : Nat → St}

theorem open_of {l : List AO} {ah : List (List Nat)} (h : openOk ops l ah = true) {i j : Nat} {a b : AO} {o : Oper} (ha : l[i]? = some a) (hb : l[j]? = some b) (ho : ops[j]? = some o) (hne : i ≠ j) :
    (a.op.heavy = true → b.op.heavy = true → inOrder ah i j = true) ∧ ¬ (a.op.newLoc = true ∧ b.op.newLoc = true ∧ a.dst = b.dst) ∧
    (∀ d, a.dst = some d → (d ∈ opTmps o ++ guardTmps ops o ∨ b.dst = some d) → inOrder ah i j = true) := by
  unfold openOk at h
  have hi : i < l.length := (List.getElem?_eq_some_iff.1 ha).1
  have hj : j < l.length := (List.getElem?_eq_some_iff.1 hb).1
  have h1 := List.all_eq_true.1 (List.all_eq_true.1 h i (List.mem_range.2 hi)) j (List.mem_range.2 hj)
  simp only [ha, hb, ho, Bool.or_eq_true, beq_iff_eq, hne, false_or, Bool.and_eq_true] at h1
  obtain ⟨⟨h2, h3⟩, h4⟩ := h1
  refine ⟨?_, ?_, ?_⟩
  · intro x y
    rw [x, y] at h2
    simpa using h2
  · rintro ⟨x, y, z⟩
    rw [x, y, z] at h3
    simp at h3
  · intro d hd hor
    rw [hd] at h4
    simp only [Bool.or_eq_true, Bool.and_eq_true, Bool.not_eq_true', bne_iff_ne, ne_eq] at h4
    rcases h4 with ⟨h5, h6⟩ | h4
    · rcases hor with hor | hor
      · rw [List.contains_eq_mem] at h5
        simp [hor] at h5
      · exact absurd hor h6
    · exact h4

section
variable (henv : EnvOk P env) (t : Trc P env B locs ops T S)

abbrev Trc.ao (_ : Trc P env B locs ops T S) (o : Oper) : AO := stripO P locs B.n ops o
abbrev Trc.ah (_ : Trc P env B locs ops T S) : List (List Nat) := aheads (ops.toList.map directs) []

theorem Trc.lget {i : Nat} {o : Oper} (ho : ops[i]? = some o) : (ops.toList.map (stripO P locs B.n ops))[i]? = some (stripO P locs B.n ops o) := by
  simp [List.getElem?_map, ho]

theorem newLoc_of {s : St} {ao : AO} {k : Nat} (h : newKey ao.dst s ao.op = some (.inl k)) : ao.op.newLoc = true ∧ ao.dst = some k := by
  obtain ⟨d, op, g⟩ := ao
  cases op <;> simp_all [newKey, AOp.newLoc]

include henv t in
/-- A local block is not there before the operation that makes it. -/
theorem Trc.locNone {i : Nat} {o : Oper} (ho : ops[i]? = some o) {k : Nat} (hk : newKey o.dst (S i) (stripO P locs B.n ops o).op = some (.inl k)) : ∀ j, j ≤ i → (S j).get (.inl k) = none
  | 0, _ => t.loc i o k ho hk
  | j + 1, hj => by
    have hi : i < ops.size := (Array.getElem?_eq_some_iff.1 ho).1
    have hget : ops[j]? = some ops[j] := Array.getElem?_eq_getElem (by omega)
    have ih := Trc.locNone ho hk j (by omega)
    cases hr : (S (j + 1)).get (.inl k) with
    | none => rfl
    | some r =>
      rcases (t.one henv hget).1 _ _ hr with ⟨r0, h1, _⟩ | h1 | h1
      · rw [ih] at h1; cases h1
      · obtain ⟨b, hb, _⟩ := h1; cases hb
      · have e1 := newLoc_of (ao := stripO P locs B.n ops o) (s := S i) (k := k) (by rw [stripO_dst]; exact hk)
        have e2 := newLoc_of (ao := stripO P locs B.n ops ops[j]) (s := S j) (k := k) (by rw [stripO_dst]; exact h1)
        exact ((open_of t.ok (Trc.lget (P := P) (B := B) (locs := locs) hget) (Trc.lget (P := P) (B := B) (locs := locs) ho) ho (by omega)).2.1 ⟨e2.1, e1.1, e2.2.trans e1.2.symm⟩).elim

include henv t in
/-- A new block is not there before the operation that makes it. -/
theorem Trc.newNone {i : Nat} {o : Oper} (ho : ops[i]? = some o) {q : Key} (hk : newKey o.dst (S i) (stripO P locs B.n ops o).op = some q) {j : Nat} (hj : j ≤ i) : (S j).get q = none := by
  have hi : i < ops.size := (Array.getElem?_eq_some_iff.1 ho).1
  cases q with
  | inl k => exact Trc.locNone henv t ho hk j hj
  | inr b =>
    have hb : b = (S i).h.nx := by
      revert hk
      cases (stripO P locs B.n ops o).op <;> simp [newKey] <;> omega
    have := t.nx henv hj (by omega)
    exact t.wfAll henv j (by omega) b (by omega)

/-- A quantity's memory, out of the last that changed it. -/
def Trc.md (_ : Trc P env B locs ops T S) (q : Key) (i : Nat) : Prop := (S i).get q ≠ (S (i + 1)).get q
def Trc.wr (_ : Trc P env B locs ops T S) (u : Nat) (i : Nat) : Prop := ∃ o, ops[i]? = some o ∧ o.dst = some u

theorem Trc.memAt (q : Key) (j : Nat) : (S j).get q = (S (lastP (t.md q) j)).get q := last_value (fun i => (S i).get q) j

include henv in
theorem Trc.slotAt (u : Nat) : ∀ j, j ≤ ops.size → T j u = T (lastP (t.wr u) j) u
  | 0, _ => rfl
  | j + 1, hj => by
    have hget : ops[j]? = some ops[j] := Array.getElem?_eq_getElem (by omega)
    unfold lastP
    by_cases hw : t.wr u j
    · rw [if_pos hw]
    · rw [if_neg hw, ← Trc.slotAt u j (by omega)]
      exact (t.one henv hget).2.2 u (fun h => hw ⟨_, hget, h⟩)

end

theorem back_of {ops : Array Oper} (h : backOk ops = true) {i : Nat} {o : Oper} (ho : ops[i]? = some o) {k : Nat} (hk : k ∈ directs o) : k < i := by
  unfold backOk at h
  have hi : i < ops.size := (Array.getElem?_eq_some_iff.1 ho).1
  have h1 := List.all_eq_true.1 h i (List.mem_range.2 hi)
  rw [ho] at h1
  simp only [Option.map_some, Option.all_some] at h1
  simpa using List.all_eq_true.1 h1 k hk

theorem Trc.backAhead (t : Trc P env B locs ops T S) {i j : Nat} (h : i ∈ t.ah.getD j []) : i < j := by
  have h2 : ∀ (dl acc : List (List Nat)), (∀ k i, i ∈ acc.getD k [] → i < k) → (∀ m d, dl[m]? = some d → ∀ i ∈ d, i < acc.length + m) → ∀ k i, i ∈ (aheads dl acc).getD k [] → i < k := by
    intro dl
    induction dl with
    | nil => intro acc h _ k i hi; exact h k i hi
    | cons d r ih =>
      intro acc h hd k i hi
      refine ih (acc ++ [dedup (d ++ d.flatMap fun k => acc.getD k [])]) ?_ ?_ k i hi
      · intro k i hi
        simp only [List.getD_eq_getElem?_getD] at hi
        by_cases h1 : k < acc.length
        · rw [List.getElem?_append_left h1] at hi
          exact h k i (by simpa [List.getD_eq_getElem?_getD] using hi)
        · rw [List.getElem?_append_right (by omega)] at hi
          by_cases h2 : k - acc.length = 0
          · rw [h2] at hi
            simp only [List.getElem?_cons_zero, Option.getD_some] at hi
            have hi := mem_dedup hi
            rcases List.mem_append.1 hi with h3 | h3
            · have := hd 0 d rfl i h3; omega
            · obtain ⟨k', hk', hi'⟩ := List.mem_flatMap.1 h3
              have := h k' i hi'
              have := hd 0 d rfl k' hk'
              omega
          · rw [List.getElem?_eq_none (by simp; omega)] at hi
            simp at hi
      · intro m d' hd' i hi
        have := hd (m + 1) d' (by simpa using hd') i hi
        simp only [List.length_append, List.length_cons, List.length_nil]
        omega
  refine h2 _ [] (by intro k i hi; simp at hi) ?_ j i h
  intro m d hd i hi
  simp only [List.getElem?_map, Option.map_eq_some_iff] at hd
  obtain ⟨o, ho, rfl⟩ := hd
  have := back_of t.back (i := m) (o := o) (by simpa using ho) hi
  simpa using this

/-- What has been carried out of a region of open order. -/
structure Drawn (P : Program) (env : Env) (B : Start) (locs : List Nat) (ops : Array Oper) (T : Nat → Nat → Av) (S : Nat → St) (t : Trc P env B locs ops T S) (L : Nat → Prop) (μ : Mp) (a : Act) (w : World) : Prop where
  closed : ∀ k i, i ∈ t.ah.getD k [] → L k → L i
  sim : Sim μ (fun q => (S (lastP (fun i => L i ∧ t.md q i) ops.size)).get q) w
  slots : ∀ u, ConA μ (T (lastP (fun i => L i ∧ t.wr u i) ops.size) u) (a.tmps.getD u undef)
  defers : a.defers = []
  size : B.n ≤ a.tmps.size
  free : ∀ i o, ops[i]? = some o → ¬ L i → (∀ b, (S i).h.nx ≤ b → b < (S (i + 1)).h.nx → μ (.inr b) = none) ∧ (wantedA (T i) (stripO P locs B.n ops o) = some true → ∀ q, newKey o.dst (S i) (stripO P locs B.n ops o).op = some q → μ q = none)
  free' : ∀ b, (S ops.size).h.nx ≤ b → b < B.N → μ (.inr b) = none
  glob : Glob B.μ0 B.h0 B.w0 μ (fun q => (S (lastP (fun i => L i ∧ t.md q i) ops.size)).get q) (S ops.size).h.nx w

section
variable (henv : EnvOk P env) {t : Trc P env B locs ops T S} {L : Nat → Prop} {μ : Mp} {a : Act} {w : World}

theorem inOrder_lt {ah : List (List Nat)} {i j : Nat} (h : inOrder ah i j = true) : (i < j → i ∈ ah.getD j []) ∧ (¬ i < j → j ∈ ah.getD i []) := by
  unfold inOrder at h
  split at h
  · rename_i hij
    exact ⟨fun _ => by simpa using h, fun h' => absurd hij h'⟩
  · rename_i hij
    exact ⟨fun h' => absurd h' hij, fun _ => by simpa using h⟩

/-- An order between i and j (not yet carried out, all ahead of it carried out): i is carried out just if it comes first. -/
theorem listed_iff (hc : ∀ k i, i ∈ t.ah.getD k [] → L k → L i) {i j : Nat} (hne : i ≠ j) (ho : inOrder t.ah i j = true) (hj : ¬ L j) (hp : ∀ i, i ∈ t.ah.getD j [] → L i) : L i ↔ i < j := by
  obtain ⟨h1, h2⟩ := inOrder_lt ho
  constructor
  · intro hL
    refine Classical.byContradiction fun hij => hj ?_
    exact hc i j (h2 hij) hL
  · intro hij
    exact hp i (h1 hij)

theorem inOrder_symm {ah : List (List Nat)} {i j : Nat} (hne : i ≠ j) (h : inOrder ah i j = true) : inOrder ah j i = true := by
  unfold inOrder at h ⊢
  by_cases hij : i < j
  · rw [if_pos hij] at h; rw [if_neg (by omega)]; exact h
  · rw [if_neg hij] at h; rw [if_pos (by omega)]; exact h

/-- A slot that the operation j names reads as it does in the text's order. -/
theorem Drawn.slot (henv : EnvOk P env) (h : Drawn P env B locs ops T S t L μ a w) {j : Nat} {o : Oper} (ho : ops[j]? = some o) (hj : ¬ L j) (hp : ∀ i, i ∈ t.ah.getD j [] → L i) {u : Nat} (hu : u ∈ opTmps o ++ guardTmps ops o) : ConA μ (T j u) (a.tmps.getD u undef) := by
  have hjn : j < ops.size := (Array.getElem?_eq_some_iff.1 ho).1
  have h1 := h.slots u
  have e : lastP (fun i => L i ∧ t.wr u i) ops.size = lastP (t.wr u) j := by
    rw [lastP_cut (j := j) ops.size (by omega)]
    · refine lastP_congr j fun i hi => ⟨fun h => h.2, fun hw => ⟨?_, hw⟩⟩
      obtain ⟨oi, hoi, hd⟩ := hw
      have hord := (open_of t.ok (Trc.lget (P := P) (B := B) (locs := locs) hoi) (Trc.lget (P := P) (B := B) (locs := locs) ho) ho (by omega)).2.2 u (by rw [stripO_dst]; exact hd) (.inl hu)
      exact (listed_iff h.closed (by omega) hord hj hp).2 hi
    · rintro i hi hin ⟨hL, oi, hoi, hd⟩
      by_cases hij : i = j
      · subst hij; exact hj hL
      · have hord := (open_of t.ok (Trc.lget (P := P) (B := B) (locs := locs) hoi) (Trc.lget (P := P) (B := B) (locs := locs) ho) ho hij).2.2 u (by rw [stripO_dst]; exact hd) (.inl hu)
        have := (listed_iff h.closed hij hord hj hp).1 hL
        omega
  rw [e, ← t.slotAt henv u j (by omega)] at h1
  exact h1

/-- A block that is there when j is carried out in the text's order, and whose changers all stand in an order with j (or are its maker): it reads as in the text's order. -/
theorem Drawn.mem (henv : EnvOk P env) (h : Drawn P env B locs ops T S t L μ a w) {j : Nat} {o : Oper} (ho : ops[j]? = some o) (hj : ¬ L j) (hp : ∀ i, i ∈ t.ah.getD j [] → L i) {q : Key} {pl : Place} {r : Row} (hq : μ q = some pl) (hr : (S j).get q = some r)
    (hord : ∀ i oi, ops[i]? = some oi → i ≠ j → (stripO P locs B.n ops oi).op.heavy = true → t.md q i → inOrder t.ah i j = true) : (S (lastP (fun i => L i ∧ t.md q i) ops.size)).get q = (S j).get q := by
  have hjn : j < ops.size := (Array.getElem?_eq_some_iff.1 ho).1
  have e : lastP (fun i => L i ∧ t.md q i) ops.size = lastP (t.md q) j := by
    have side : ∀ i, i < ops.size → i ≠ j → t.md q i → (L i ↔ i < j) := by
      intro i hi hij hm
      have hget : ops[i]? = some ops[i] := Array.getElem?_eq_getElem hi
      rcases (t.one henv hget).2.1 q hm with hh | ⟨hk, hwt⟩
      · exact listed_iff h.closed hij (hord i _ hget hij hh hm) hj hp
      · have hL : L i := by
          refine Classical.byContradiction fun hL => ?_
          rw [(h.free i _ hget hL).2 hwt q hk] at hq
          cases hq
        refine ⟨fun _ => ?_, fun _ => hL⟩
        refine Classical.byContradiction fun hlt => ?_
        rw [Trc.newNone henv t hget hk (j := j) (by omega)] at hr
        cases hr
    rw [lastP_cut (j := j) ops.size (by omega)]
    · exact lastP_congr j fun i hi => ⟨fun h => h.2, fun hm => ⟨(side i (by omega) (by omega) hm).2 hi, hm⟩⟩
    · rintro i hi hin ⟨hL, hm⟩
      by_cases hij : i = j
      · subst hij; exact hj hL
      · have := (side i hin hij hm).1 hL
        omega
  rw [e, ← t.memAt q j]

end
end Go.Abs

/-
  A region of open order, third part: one operation more; the whole region.
-/

namespace Go.Abs

variable {P : Program} {env : Env} {B : Start} {locs : List Nat} {ops : Array Oper} {T : Nat → Nat → Av} {S : Nat → St} {t : Trc P env B locs ops T S} {L : Nat → Prop} {μ μ' : Mp} {a : Act} {w w' : World}

theorem Trc.keepAll (henv : EnvOk P env) (t : Trc P env B locs ops T S) : ∀ (i : Nat), i ≤ ops.size → ∀ b r', (S i).get (.inr b) = some r' → (∃ r, B.h0.hp b = some r ∧ r.rw = r'.rw) ∨ (B.h0.nx ≤ b ∧ b < (S i).h.nx)
  | 0, _ => t.keep0
  | i + 1, hi => by
    intro b r' hr'
    have hget : ops[i]? = some ops[i] := Array.getElem?_eq_getElem (by omega)
    have hnx := t.nx henv (i := i) (j := i + 1) (by omega) hi
    have hn0 := t.nx henv (Nat.zero_le i) (by omega)
    have h00 := t.nx0
    rcases (t.one henv hget).1 _ _ hr' with ⟨r, h1, h2⟩ | ⟨b', hb, h3, h4⟩ | h1
    · rcases t.keepAll henv i (by omega) b r h1 with ⟨r0, g1, g2⟩ | ⟨g1, g2⟩
      · exact .inl ⟨r0, g1, g2.trans h2⟩
      · exact .inr ⟨g1, by omega⟩
    · injection hb with hb
      subst hb
      exact .inr ⟨by omega, h4⟩
    · have hb : b = (S i).h.nx := by
        revert h1
        cases (stripO P locs B.n ops ops[i]).op <;> simp [newKey] <;> omega
      refine .inr ⟨by omega, ?_⟩
      refine Classical.byContradiction fun hlt => ?_
      have := t.wfAll henv (i + 1) hi b (by omega)
      rw [show (S (i + 1)).get (.inr b) = (S (i + 1)).h.hp b from rfl, this] at hr'
      cases hr'

/-- Who else has changed a block that j changes has done so before. -/
theorem Drawn.before (henv : EnvOk P env) (h : Drawn P env B locs ops T S t L μ a w) {j : Nat} {o : Oper} (ho : ops[j]? = some o) (hj : ¬ L j) (hp : ∀ i, i ∈ t.ah.getD j [] → L i) {q : Key}
    (hq : t.md q j ∨ (newKey o.dst (S j) (stripO P locs B.n ops o).op = some q ∧ wantedA (T j) (stripO P locs B.n ops o) = some true)) {i : Nat} (hi : i < ops.size) (hL : L i) (hm : t.md q i) : i < j ∧ (newKey o.dst (S j) (stripO P locs B.n ops o).op = some q → False) := by
  have hjn : j < ops.size := (Array.getElem?_eq_some_iff.1 ho).1
  have hij : i ≠ j := by rintro rfl; exact hj hL
  have hget : ops[i]? = some ops[i] := Array.getElem?_eq_getElem hi
  -- j makes q: nobody has changed it before
  have made : newKey o.dst (S j) (stripO P locs B.n ops o).op = some q → wantedA (T j) (stripO P locs B.n ops o) = some true → False := by
    intro hk hwt
    by_cases hlt : i < j
    · refine hm ?_
      rw [t.newNone henv ho hk (j := i) (by omega), t.newNone henv ho hk (j := i + 1) (by omega)]
    · rcases (t.one henv hget).2.1 q hm with hh | ⟨hk', hwt'⟩
      · by_cases hor : i ∈ t.ah.getD j [] ∨ j ∈ t.ah.getD i []
        · rcases hor with hor | hor
          · -- then i comes first in the text
            have hord : inOrder t.ah i j = true ∨ True := .inr trivial
            -- an edge leads back in the text alone
            exact absurd (t.backAhead hor) (by omega)
          · exact hj (h.closed i j hor hL)
        · refine hm (t.chk i j _ o q hget ho hh ?_ ?_ hij (fun x => hor (.inl x)) (fun x => hor (.inr x)))
          · unfold lightKey
            revert hk
            cases hop : (stripO P locs B.n ops o).op <;> simp [newKey, stripO_dst]
          · revert hk
            cases hop : (stripO P locs B.n ops o).op <;> simp [newKey, AOp.light]
      · cases q with
        | inl k =>
          have e1 := newLoc_of (ao := stripO P locs B.n ops o) (s := S j) (k := k) (by rw [stripO_dst]; exact hk)
          have e2 := newLoc_of (ao := stripO P locs B.n ops ops[i]) (s := S i) (k := k) (by rw [stripO_dst]; exact hk')
          exact (open_of t.ok (Trc.lget (P := P) (B := B) (locs := locs) hget) (Trc.lget (P := P) (B := B) (locs := locs) ho) ho hij).2.1 ⟨e2.1, e1.1, e2.2.trans e1.2.symm⟩
        | inr b =>
          have hb : b = (S i).h.nx := by
            revert hk'
            cases (stripO P locs B.n ops ops[i]).op <;> simp [newKey] <;> omega
          obtain ⟨g, hg, hd, heq, hcase⟩ := stripO_step (t.step j o ho)
          rw [heq] at hk hwt
          rcases hcase with ⟨_, v, s', ha, hpp⟩ | ⟨hwf, _⟩
          · simp only [Prod.mk.injEq] at hpp
            have := newKey_hp ha b hk
            rw [← hpp.2] at this
            have hnx := t.nx henv (i := j + 1) (j := i) (by omega) (by omega)
            omega
          · rw [hwf] at hwt; cases hwt
  have hno : newKey o.dst (S j) (stripO P locs B.n ops o).op = some q → False := by
    intro hk
    rcases hq with hq | ⟨_, hwt⟩
    · rcases (t.one henv ho).2.1 q hq with hh | ⟨_, hwt⟩
      · revert hk hh
        cases (stripO P locs B.n ops o).op <;> simp [newKey, AOp.heavy]
      · exact made hk hwt
    · exact made hk hwt
  refine ⟨?_, hno⟩
  rcases hq with hq | ⟨hk, hwt⟩
  · rcases (t.one henv ho).2.1 q hq with hhj | ⟨hk, hwt⟩
    · rcases (t.one henv hget).2.1 q hm with hhi | ⟨hk', hwt'⟩
      · have hord := (open_of t.ok (Trc.lget (P := P) (B := B) (locs := locs) hget) (Trc.lget (P := P) (B := B) (locs := locs) ho) ho hij).1 hhi hhj
        exact (listed_iff h.closed hij hord hj hp).1 hL
      · refine Classical.byContradiction fun hlt => hq ?_
        rw [t.newNone henv hget hk' (j := j) (by omega), t.newNone henv hget hk' (j := j + 1) (by omega)]
    · exact (made hk hwt).elim
  · exact (made hk hwt).elim

/-- The memory and the slots behind one operation more. -/
theorem Drawn.last (henv : EnvOk P env) (h : Drawn P env B locs ops T S t L μ a w) {j : Nat} {o : Oper} (ho : ops[j]? = some o) (hj : ¬ L j) (hp : ∀ i, i ∈ t.ah.getD j [] → L i) :
    (∀ q, t.md q j → lastP (fun i => (L i ∨ i = j) ∧ t.md q i) ops.size = j + 1) ∧
    (∀ q, ¬ t.md q j → lastP (fun i => (L i ∨ i = j) ∧ t.md q i) ops.size = lastP (fun i => L i ∧ t.md q i) ops.size) ∧
    (∀ u, o.dst = some u → lastP (fun i => (L i ∨ i = j) ∧ t.wr u i) ops.size = j + 1) ∧
    (∀ u, o.dst ≠ some u → lastP (fun i => (L i ∨ i = j) ∧ t.wr u i) ops.size = lastP (fun i => L i ∧ t.wr u i) ops.size) := by
  have hjn : j < ops.size := (Array.getElem?_eq_some_iff.1 ho).1
  refine ⟨?_, ?_, ?_, ?_⟩
  · intro q hq
    refine lastP_top (p := fun i => (L i ∨ i = j) ∧ t.md q i) ⟨.inr rfl, hq⟩ ops.size hjn ?_
    rintro i h1 h2 ⟨h3 | h3, h4⟩
    · have := (h.before henv ho hj hp (.inl hq) h2 h3 h4).1
      omega
    · omega
  · intro q hq
    refine lastP_congr _ fun i _ => ⟨?_, fun ⟨x, y⟩ => ⟨.inl x, y⟩⟩
    rintro ⟨x | x, y⟩
    · exact ⟨x, y⟩
    · subst x; exact absurd y hq
  · intro u hu
    refine lastP_top (p := fun i => (L i ∨ i = j) ∧ t.wr u i) ⟨.inr rfl, o, ho, hu⟩ ops.size hjn ?_
    rintro i h1 h2 ⟨h3 | h3, oi, hoi, hd⟩
    · have hord := (open_of t.ok (Trc.lget (P := P) (B := B) (locs := locs) hoi) (Trc.lget (P := P) (B := B) (locs := locs) ho) ho (by omega)).2.2 u (by rw [stripO_dst]; exact hd) (.inr (by rw [stripO_dst]; exact hu))
      have := (listed_iff h.closed (by omega) hord hj hp).1 h3
      omega
    · omega
  · intro u hu
    refine lastP_congr _ fun i _ => ⟨?_, fun ⟨x, y⟩ => ⟨.inl x, y⟩⟩
    rintro ⟨x | x, y⟩
    · exact ⟨x, y⟩
    · subst x
      obtain ⟨oi, hoi, hd⟩ := y
      rw [ho] at hoi
      obtain rfl := Option.some.inj hoi
      exact absurd hd hu

theorem closed_more (hc : ∀ k i, i ∈ t.ah.getD k [] → L k → L i) {j : Nat} (hp : ∀ i, i ∈ t.ah.getD j [] → L i) : ∀ k i, i ∈ t.ah.getD k [] → (L k ∨ k = j) → (L i ∨ i = j) := by
  rintro k i hi (h | h)
  · exact .inl (hc k i hi h)
  · subst h; exact .inl (hp i hi)

/-- An operation that isn't carried out. -/
theorem Drawn.skip (henv : EnvOk P env) (h : Drawn P env B locs ops T S t L μ a w) {j : Nat} {o : Oper} (ho : ops[j]? = some o) (hj : ¬ L j) (hp : ∀ i, i ∈ t.ah.getD j [] → L i) (hd : dstOk B.n o.dst = true)
    (hpp : (T (j + 1), S (j + 1)) = (upo (T j) o.dst (.tup []), S j)) : Drawn P env B locs ops T S t (fun i => L i ∨ i = j) μ (a.put o.dst undef) w := by
  simp only [Prod.mk.injEq] at hpp
  obtain ⟨hT, hS⟩ := hpp
  obtain ⟨_, l2, l3, l4⟩ := h.last henv ho hj hp
  have hmd : ∀ q, ¬ t.md q j := fun q hq => hq (by rw [hS])
  have hG : (fun q => (S (lastP (fun i => (L i ∨ i = j) ∧ t.md q i) ops.size)).get q) = fun q => (S (lastP (fun i => L i ∧ t.md q i) ops.size)).get q := funext fun q => by rw [l2 q (hmd q)]
  refine ⟨closed_more h.closed hp, by rw [hG]; exact h.sim, ?_, by rw [put_defers']; exact h.defers, by rw [put_size]; exact h.size, fun i oi hoi hL => h.free i oi hoi (fun x => hL (.inl x)), h.free', by rw [hG]; exact h.glob⟩
  intro u
  rw [put_getD a o.dst undef B.n h.size hd]
  by_cases hu : o.dst = some u
  · rw [if_pos hu, l3 u hu, hT, upo_get, if_pos hu]
    exact ⟨[], rfl, trivial⟩
  · rw [if_neg hu, l4 u hu]
    exact h.slots u

/-- An operation that is carried out, its memory told. -/
theorem Drawn.go (henv : EnvOk P env) (h : Drawn P env B locs ops T S t L μ a w) {j : Nat} {o : Oper} (ho : ops[j]? = some o) (hj : ¬ L j) (hp : ∀ i, i ∈ t.ah.getD j [] → L i) (hd : dstOk B.n o.dst = true) {v : Av} {v' : Value} {ao : AOp}
    (hao : (stripO P locs B.n ops o).op = ao) (hwt : wantedA (T j) (stripO P locs B.n ops o) = some true) (hT : T (j + 1) = upo (T j) o.dst v) (haop : aop env o.dst (T j) (S j) ao = some (v, S (j + 1)))
    (hle : Le μ μ') (hc : ConA μ' v v') (hsim : Sim μ' (fun q => (S (lastP (fun i => (L i ∨ i = j) ∧ t.md q i) ops.size)).get q) w')
    (hnew : ∀ q pl, μ' q = some pl → μ q = some pl ∨ isNew ao o.dst (S j) (S (j + 1)) q)
    (hglob : Glob B.μ0 B.h0 B.w0 μ' (fun q => (S (lastP (fun i => (L i ∨ i = j) ∧ t.md q i) ops.size)).get q) (S ops.size).h.nx w') :
    Drawn P env B locs ops T S t (fun i => L i ∨ i = j) μ' (a.put o.dst v') w' := by
  obtain ⟨_, _, l3, l4⟩ := h.last henv ho hj hp
  have hjn : j < ops.size := (Array.getElem?_eq_some_iff.1 ho).1
  have hnxj := t.nx henv (i := j) (j := j + 1) (by omega) (by omega)
  have hkind := isNew_kind hnxj (newKey_hp haop)
  refine ⟨closed_more h.closed hp, hsim, ?_, by rw [put_defers']; exact h.defers, by rw [put_size]; exact h.size, ?_, ?_, hglob⟩
  · intro u
    rw [put_getD a o.dst v' B.n h.size hd]
    by_cases hu : o.dst = some u
    · rw [if_pos hu, l3 u hu, hT, upo_get, if_pos hu]
      exact hc
    · rw [if_neg hu, l4 u hu]
      exact (h.slots u).le hle
  · intro i oi hoi hL
    have hLi : ¬ L i := fun x => hL (.inl x)
    have hij : i ≠ j := fun x => hL (.inr x)
    have hin : i < ops.size := (Array.getElem?_eq_some_iff.1 hoi).1
    have hnxi := t.nx henv (i := i) (j := i + 1) (by omega) (by omega)
    -- the numbers that two operations hand out are apart
    have part : ∀ b, (S i).h.nx ≤ b → b < (S (i + 1)).h.nx → (S j).h.nx ≤ b → b < (S (j + 1)).h.nx → False := by
      intro b h1 h2 h3 h4
      by_cases hlt : i < j
      · have := t.nx henv (i := i + 1) (j := j) (by omega) (by omega); omega
      · have := t.nx henv (i := j + 1) (j := i) (by omega) (by omega); omega
    obtain ⟨f1, f2⟩ := h.free i oi hoi hLi
    refine ⟨?_, ?_⟩
    · intro b h1 h2
      cases hb : μ' (.inr b) with
      | none => rfl
      | some pl =>
        rcases hnew _ _ hb with h3 | h3
        · rw [f1 b h1 h2] at h3; cases h3
        · rcases hkind _ h3 with ⟨k, hk⟩ | ⟨b', hb', h4, h5⟩
          · cases hk
          · injection hb' with hb'
            subst hb'
            exact (part b h1 h2 h4 h5).elim
    · intro hwi q hq
      cases hb : μ' q with
      | none => rfl
      | some pl =>
        rcases hnew _ _ hb with h3 | h3
        · rw [f2 hwi q hq] at h3; cases h3
        · exfalso
          obtain ⟨g, hg, hd', heq, hcase⟩ := stripO_step (t.step i oi hoi)
          rw [heq] at hwi hq
          rcases hcase with ⟨_, vi, si, hai, hpi⟩ | ⟨hwf, _⟩
          · simp only [Prod.mk.injEq] at hpi
            cases q with
            | inr b =>
              have e1 := newKey_hp hai b hq
              rw [← hpi.2] at e1
              rcases hkind _ h3 with ⟨k, hk⟩ | ⟨b', hb', h4, h5⟩
              · cases hk
              · injection hb' with hb'
                subst hb'
                exact part b e1.2 e1.1 h4 h5
            | inl k =>
              rcases h3 with ⟨b', hb', _⟩ | h3
              · cases hb'
              · have e1 := newLoc_of (ao := stripO P locs B.n ops o) (s := S j) (k := k) (by rw [stripO_dst, hao]; exact h3)
                have e2 := newLoc_of (ao := stripO P locs B.n ops oi) (s := S i) (k := k) (by rw [stripO_dst, heq]; exact hq)
                exact (open_of t.ok (Trc.lget (P := P) (B := B) (locs := locs) hoi) (Trc.lget (P := P) (B := B) (locs := locs) ho) ho hij).2.1 ⟨e2.1, e1.1, e2.2.trans e1.2.symm⟩
          · rw [hwf] at hwi; cases hwi
  · intro b h1 h2
    cases hb : μ' (.inr b) with
    | none => rfl
    | some pl =>
      rcases hnew _ _ hb with h3 | h3
      · rw [h.free' b h1 h2] at h3; cases h3
      · rcases hkind _ h3 with ⟨k, hk⟩ | ⟨b', hb', h4, h5⟩
        · cases hk
        · injection hb' with hb'
          have := t.nx henv (i := j + 1) (j := ops.size) (by omega) (by omega)
          omega

theorem isNew_top (henv : EnvOk P env) (t : Trc P env B locs ops T S) {j : Nat} {o : Oper} (ho : ops[j]? = some o) {ao : AOp} {v : Av} (haop : aop env o.dst (T j) (S j) ao = some (v, S (j + 1))) :
    ∀ q, isNew ao o.dst (S j) (S (j + 1)) q → (∃ k, q = .inl k) ∨ newOf B.h0.nx (S ops.size).h.nx q := by
  have hjn : j < ops.size := (Array.getElem?_eq_some_iff.1 ho).1
  have hnxj := t.nx henv (i := j) (j := j + 1) (by omega) (by omega)
  intro q hq
  rcases isNew_kind hnxj (newKey_hp haop) q hq with h | ⟨b, rfl, h1, h2⟩
  · exact .inl h
  · have e1 := t.nx henv (i := 0) (j := j) (by omega) (by omega)
    have e2 := t.nx henv (i := j + 1) (j := ops.size) (by omega) (by omega)
    have e3 := t.nx0
    exact .inr ⟨b, rfl, by omega, by omega⟩

theorem keepG (henv : EnvOk P env) (t : Trc P env B locs ops T S) (p : Key → Nat → Prop) : ∀ b r', (S (lastP (p (.inr b)) ops.size)).get (.inr b) = some r' → (∃ r, B.h0.hp b = some r ∧ r.rw = r'.rw) ∨ (B.h0.nx ≤ b ∧ b < (S ops.size).h.nx) := by
  intro b r' hr'
  have hle := lastP_le (p (.inr b)) ops.size
  rcases t.keepAll henv _ hle b r' hr' with h | ⟨h1, h2⟩
  · exact .inl h
  · have := t.nx henv hle (Nat.le_refl _)
    exact .inr ⟨h1, by omega⟩

theorem Drawn.light (henv : EnvOk P env) (h : Drawn P env B locs ops T S t L μ a w) {j : Nat} {o : Oper} (ho : ops[j]? = some o) (hj : ¬ L j) (hp : ∀ i, i ∈ t.ah.getD j [] → L i) (hd : dstOk B.n o.dst = true) {v : Av} {v' : Value} {ao : AOp}
    (hao : (stripO P locs B.n ops o).op = ao) (hwt : wantedA (T j) (stripO P locs B.n ops o) = some true) (hT : T (j + 1) = upo (T j) o.dst v) (haop : aop env o.dst (T j) (S j) ao = some (v, S (j + 1))) (hh : ao.heavy = false)
    (ha : After ao o.dst (S j) (S (j + 1)) (fun q => (S (lastP (fun i => L i ∧ t.md q i) ops.size)).get q) μ w v v' w') : ∃ μ', Drawn P env B locs ops T S t (fun i => L i ∨ i = j) μ' (a.put o.dst v') w' := by
  obtain ⟨μ', hcon, hpost⟩ := ha
  obtain ⟨l1, l2, _, _⟩ := h.last henv ho hj hp
  refine ⟨μ', h.go henv ho hj hp hd hao hwt hT haop hpost.le hcon ?_ (fun q pl hq => (hpost.new q pl hq).imp id And.left) ?_⟩
  · refine hpost.sim.on ?_
    intro q pl r hq hr
    by_cases hm : t.md q j
    · simp only [l1 q hm] at hr
      rcases (t.one henv ho).2.1 q hm with hhv | ⟨hk, _⟩
      · rw [hao, hh] at hhv; cases hhv
      · unfold outMem
        rw [hh]
        simp only [Bool.false_eq_true, if_false]
        rw [if_pos (by rw [← hao]; exact hk)]
        exact hr
    · simp only [l2 q hm] at hr
      unfold outMem
      rw [hh]
      simp only [Bool.false_eq_true, if_false]
      by_cases hk : newKey o.dst (S j) ao = some q
      · exfalso
        have hk' : newKey o.dst (S j) (stripO P locs B.n ops o).op = some q := by rw [hao]; exact hk
        rcases lastP_some (p := fun i => L i ∧ t.md q i) ops.size with h0 | ⟨i, hi, ⟨hL, hmi⟩, hlast⟩
        · rw [h0, t.newNone henv ho hk' (Nat.zero_le _)] at hr
          cases hr
        · exact (h.before henv ho hj hp (.inr ⟨hk', hwt⟩) hi hL hmi).2 hk'
      · rw [if_neg hk]
        exact hr
  · exact h.glob.step t.top (Nat.le_refl _) hpost (fun q pl r _ hr hrw => ⟨r, hr, hrw⟩) (keepG henv t (fun q i => (L i ∨ i = j) ∧ t.md q i)) (isNew_top henv t ho haop)

theorem heavy_newKey {d : Option Nat} {s : St} {ao : AOp} (h : ao.heavy = true) : newKey d s ao = none := by
  cases ao <;> simp_all [newKey, AOp.heavy]

theorem Drawn.atJ (henv : EnvOk P env) (h : Drawn P env B locs ops T S t L μ a w) {j : Nat} {o : Oper} (ho : ops[j]? = some o) (hj : ¬ L j) (hp : ∀ i, i ∈ t.ah.getD j [] → L i) (hh : (stripO P locs B.n ops o).op.heavy = true) {q : Key} {pl : Place} {r : Row} (hq : μ q = some pl) (hr : (S j).get q = some r) :
    (S (lastP (fun i => L i ∧ t.md q i) ops.size)).get q = (S j).get q :=
  h.mem henv ho hj hp hq hr (fun i oi hoi hij hhi _ => (open_of t.ok (Trc.lget (P := P) (B := B) (locs := locs) hoi) (Trc.lget (P := P) (B := B) (locs := locs) ho) ho hij).1 hhi hh)

theorem Drawn.heavy (henv : EnvOk P env) (h : Drawn P env B locs ops T S t L μ a w) {j : Nat} {o : Oper} (ho : ops[j]? = some o) (hj : ¬ L j) (hp : ∀ i, i ∈ t.ah.getD j [] → L i) (hd : dstOk B.n o.dst = true) {v : Av} {v' : Value} {ao : AOp}
    (hao : (stripO P locs B.n ops o).op = ao) (hwt : wantedA (T j) (stripO P locs B.n ops o) = some true) (hT : T (j + 1) = upo (T j) o.dst v) (haop : aop env o.dst (T j) (S j) ao = some (v, S (j + 1))) (hh : ao.heavy = true)
    (ha : After ao o.dst (S j) (S (j + 1)) (S j).get μ w v v' w') : ∃ μ', Drawn P env B locs ops T S t (fun i => L i ∨ i = j) μ' (a.put o.dst v') w' := by
  obtain ⟨μ', hcon, hpost⟩ := ha
  rw [outMem_self haop] at hpost
  obtain ⟨l1, l2, _, _⟩ := h.last henv ho hj hp
  have hjn : j < ops.size := (Array.getElem?_eq_some_iff.1 ho).1
  have hnxj := t.nx henv (i := j) (j := j + 1) (by omega) (by omega)
  have hhs : (stripO P locs B.n ops o).op.heavy = true := by rw [hao]; exact hh
  have hwfj := t.wfAll henv j (by omega)
  -- what is new is not there before
  have newNo : ∀ q, isNew ao o.dst (S j) (S (j + 1)) q → ∃ b, q = .inr b ∧ (S j).h.nx ≤ b ∧ b < (S (j + 1)).h.nx ∧ (S j).get q = none ∧ μ q = none := by
    rintro q (⟨b, rfl, h1, h2⟩ | h1)
    · exact ⟨b, rfl, h1, h2, hwfj b h1, (h.free j o ho hj).1 b h1 h2⟩
    · rw [heavy_newKey hh] at h1; cases h1
  -- the two kinds of blocks
  have status : ∀ q pl r, μ' q = some pl → (S (lastP (fun i => (L i ∨ i = j) ∧ t.md q i) ops.size)).get q = some r →
      ((S (j + 1)).get q = some r) ∨ ((S j).get q = none ∧ μ q = some pl ∧ (S (lastP (fun i => L i ∧ t.md q i) ops.size)).get q = some r) := by
    intro q pl r hq hr
    by_cases hm : t.md q j
    · rw [l1 q hm] at hr
      exact .inl hr
    · rw [l2 q hm] at hr
      have hsame : (S j).get q = (S (j + 1)).get q := Classical.not_not.1 hm
      cases hsj : (S j).get q with
      | some r0 =>
        rcases hpost.new q pl hq with h1 | ⟨h1, _⟩
        · have := h.atJ henv ho hj hp hhs h1 hsj
          rw [this, hsame] at hr
          exact .inl hr
        · obtain ⟨b, _, _, _, h2, _⟩ := newNo q h1
          rw [h2] at hsj; cases hsj
      | none =>
        rcases hpost.new q pl hq with h1 | ⟨h1, _⟩
        · exact .inr ⟨rfl, h1, hr⟩
        · exfalso
          obtain ⟨b, rfl, g1, g2, _, _⟩ := newNo q h1
          rcases lastP_some (p := fun i => L i ∧ t.md (.inr b) i) ops.size with h0 | ⟨i, hi, ⟨hL, hmi⟩, hlast⟩
          · have e0 := t.nx henv (i := 0) (j := j) (by omega) (by omega)
            rw [h0, show (S 0).get (.inr b) = (S 0).h.hp b from rfl, t.wf b (by omega)] at hr
            cases hr
          · rw [hlast] at hr
            have hij : i ≠ j := by rintro rfl; exact hj hL
            have hget : ops[i]? = some ops[i] := Array.getElem?_eq_getElem hi
            by_cases hlt : i < j
            · have e1 := t.nx henv (i := i + 1) (j := j) (by omega) (by omega)
              rw [show (S (i + 1)).get (.inr b) = (S (i + 1)).h.hp b from rfl, t.wfAll henv (i + 1) (by omega) b (by omega)] at hr
              cases hr
            · rcases (t.one henv hget).2.1 _ hmi with hhi | ⟨hk, _⟩
              · have hord := (open_of t.ok (Trc.lget (P := P) (B := B) (locs := locs) hget) (Trc.lget (P := P) (B := B) (locs := locs) ho) ho hij).1 hhi hhs
                have := (listed_iff h.closed hij hord hj hp).1 hL
                omega
              · have hb : b = (S i).h.nx := by
                  revert hk
                  cases (stripO P locs B.n ops ops[i]).op <;> simp [newKey] <;> omega
                have e1 := t.nx henv (i := j + 1) (j := i) (by omega) (by omega)
                omega
  refine ⟨μ', h.go henv ho hj hp hd hao hwt hT haop hpost.le hcon ⟨?_, ?_⟩ (fun q pl hq => (hpost.new q pl hq).imp id And.left) ?_⟩
  · intro q pl r hq hr
    rcases status q pl r hq hr with h1 | ⟨h1, h2, h3⟩
    · exact hpost.sim.row q pl r hq h1
    · have hrow := h.sim.row q pl r h2 h3
      refine hrow.le hpost.le (hpost.frm.block pl.B hrow.lt ?_)
      intro q' pl' r' hq' hr' hrw hB
      have hne : q' ≠ q := by rintro rfl; rw [h1] at hr'; cases hr'
      have hG := h.atJ henv ho hj hp hhs hq' hr'
      exact h.sim.apart q' q pl' pl r' r hne hq' h2 (by show (S _).get q' = _; rw [hG]; exact hr') h3 hrw hB
  · intro q q' pl pl' r r' hne hq hq' hr hr' hrw
    -- one of each kind
    have mixed : ∀ q q' pl pl' r r', q ≠ q' → μ' q = some pl → (S (j + 1)).get q = some r → (S j).get q' = none → μ q' = some pl' → (S (lastP (fun i => L i ∧ t.md q' i) ops.size)).get q' = some r' → (r.rw = true ∨ r'.rw = true) → pl.B ≠ pl'.B := by
      intro q q' pl pl' r r' hne hq hr h1 h2 h3 hor hB
      have hrow' := h.sim.row q' pl' r' h2 h3
      rcases hpost.new q pl hq with h4 | ⟨h4, h5⟩
      · rcases (t.one henv ho).1 q r hr with ⟨r0, g1, g2⟩ | g1 | g1
        · have hG := h.atJ henv ho hj hp hhs h4 g1
          rcases hor with hor | hor
          · exact h.sim.apart q q' pl pl' r0 r' hne h4 h2 (by show (S _).get q = _; rw [hG]; exact g1) h3 (g2.trans hor) hB
          · exact h.sim.apart q' q pl' pl r' r0 (fun x => hne x.symm) h2 h4 h3 (by show (S _).get q = _; rw [hG]; exact g1) hor hB.symm
        · obtain ⟨b, _, _, _, _, g6⟩ := newNo q (.inl g1)
          rw [g6] at h4; cases h4
        · rw [hao, heavy_newKey hh] at g1; cases g1
      · rcases h5 with h5 | ⟨q0, pl0, r0, k1, k2, k3, k4⟩
        · have := hrow'.lt
          omega
        · have hG := h.atJ henv ho hj hp hhs k1 k2
          have hne0 : q0 ≠ q' := by rintro rfl; rw [h1] at k2; cases k2
          exact h.sim.apart q0 q' pl0 pl' r0 r' hne0 k1 h2 (by show (S _).get q0 = _; rw [hG]; exact k2) h3 k3 (k4.trans hB)
    rcases status q pl r hq hr with h1 | ⟨h1, h2, h3⟩
    · rcases status q' pl' r' hq' hr' with h4 | ⟨h4, h5, h6⟩
      · exact hpost.sim.apart q q' pl pl' r r' hne hq hq' h1 h4 hrw
      · exact mixed q q' pl pl' r r' hne hq h1 h4 h5 h6 (.inl hrw)
    · rcases status q' pl' r' hq' hr' with h4 | ⟨h4, h5, h6⟩
      · exact fun hB => mixed q' q pl' pl r' r (fun x => hne x.symm) hq' h4 h1 h2 h3 (.inr hrw) hB.symm
      · exact h.sim.apart q q' pl pl' r r' hne h2 h5 h3 h6 hrw
  · refine h.glob.step t.top (Nat.le_refl _) hpost ?_ (keepG henv t (fun q i => (L i ∨ i = j) ∧ t.md q i)) (isNew_top henv t ho haop)
    intro q pl r hq hr hrw
    exact ⟨r, by show (S _).get q = _; rw [h.atJ henv ho hj hp hhs hq hr]; exact hr, hrw⟩

end Go.Abs

/-
  A region of open order, whole.
-/

namespace Go.Abs

variable {P : Program} {env : Env} {B : Start} {locs : List Nat} {ops : Array Oper} {T : Nat → Nat → Av} {S : Nat → St} {t : Trc P env B locs ops T S} {L : Nat → Prop} {μ μ' : Mp} {a : Act} {w w' : World}

theorem guard_mem {o : Oper} {u : Nat} {b : Bool} (h : guardOf ops o.guard = some (some (u, b))) : u ∈ guardTmps ops o := by
  unfold guardOf at h
  unfold guardTmps
  cases hg : o.guard with
  | none => rw [hg] at h; simp at h
  | some jb =>
    obtain ⟨j, b'⟩ := jb
    rw [hg] at h
    simp only [Option.map_eq_some_iff] at h
    obtain ⟨t, ht, he⟩ := h
    simp only [Option.some.injEq, Prod.mk.injEq] at he
    simp [ht, he.1]

theorem tmp_mem {o : Oper} {u : Nat} (h : Operand.tmp u ∈ o.op.operands) : u ∈ opTmps o := by
  unfold opTmps
  exact List.mem_filterMap.2 ⟨.tmp u, by simpa using h, rfl⟩

theorem read_con {T : Nat → Av} {o : Oper} {loc : Bool} {q : Key} (hops : ∀ X ∈ o.op.operands, ConA μ (ev T (opdOf X)) (a.eval X)) (h : readKey T (stripOp P loc o.op) = some q) : ∃ pl, μ q = some pl := by
  have ptr : ∀ X ∈ o.op.operands, (ev T (opdOf X)).ptr?.map (·.1) = some q → ∃ pl, μ q = some pl := by
    intro X hX hq
    simp only [Option.map_eq_some_iff] at hq
    obtain ⟨p, hp, rfl⟩ := hq
    obtain ⟨pl, hpl, _⟩ := con_ptr (hops X hX) hp
    exact ⟨pl, hpl⟩
  cases hop : o.op with
  | load t x =>
    simp only [hop, stripOp] at h
    split at h
    · exact ptr x (by simp [hop, Op.operands]) h
    · exact ptr x (by simp [hop, Op.operands]) h
    · simp [readKey] at h
  | convert sT dT x =>
    simp only [hop, stripOp] at h
    split at h
    · simp [readKey] at h
    · split at h
      · simp only [readKey] at h
        split at h
        · rename_i q' o' n m he
          simp only [Option.some.injEq] at h
          subst h
          have hx := hops x (by simp [hop, Op.operands])
          rw [he] at hx
          obtain ⟨_, _, _, _, pl, hpl, _⟩ := hx
          exact ⟨pl, hpl⟩
        · simp at h
      · simp [readKey] at h
    · simp [readKey] at h
  | makeFunc fn b c =>
    cases fn with
    | func f =>
      simp only [hop, stripOp] at h
      split at h <;> simp [readKey] at h
    | _ => simp [hop, stripOp, readKey] at h
  | _ =>
    simp only [hop, stripOp] at h
    repeat' split at h
    all_goals simp [readKey] at h

theorem read_there {T : Nat → Av} {s s' : St} {d : Option Nat} {ao : AOp} {v : Av} {q : Key} (ha : aop env d T s ao = some (v, s')) (h : readKey T ao = some q) : ∃ r, s.get q = some r := by
  cases ao with
  | load1 x =>
    simp only [aop, Option.bind_eq_some_iff, Option.map_eq_some_iff] at ha
    obtain ⟨p, hp, r, hr, _⟩ := ha
    simp only [readKey, hp, Option.map_some, Option.some.injEq] at h
    subst h
    exact ⟨r, hr⟩
  | loadN n x =>
    simp only [aop, Option.bind_eq_some_iff] at ha
    obtain ⟨p, hp, r, hr, _⟩ := ha
    simp only [readKey, hp, Option.map_some, Option.some.injEq] at h
    subst h
    exact ⟨r, hr⟩
  | convSB x =>
    simp only [aop, Option.bind_eq_some_iff] at ha
    obtain ⟨c, hc, l, hl, _⟩ := ha
    simp only [readKey, ev_ce hc] at h
    split at h
    · rename_i q' o n m he
      simp only [Option.some.injEq] at h
      subst h
      simp only [Av.v.injEq, Tv.c.injEq] at he
      subst he
      simp only [St.elems] at hl
      split at hl
      · rename_i r hr; exact ⟨r, hr⟩
      · simp at hl
    · simp at h
  | _ => simp [readKey] at h

theorem read_light {T : Nat → Av} {s : St} {ao : AO} {q : Key} (h : readKey T ao.op = some q) : ao.op.light = true ∧ lightKey T s ao = some q ∧ ao.op.heavy = false := by
  obtain ⟨d, op, g⟩ := ao
  cases op <;> simp_all [readKey, AOp.light, AOp.heavy, lightKey]
  all_goals exact h

theorem Drawn.done (henv : EnvOk P env) (h : Drawn P env B locs ops T S t L μ a w) (hL : ∀ i, i < ops.size → L i) : Rel B μ (T ops.size) (S ops.size) a w := by
  have e1 : ∀ q, lastP (fun i => L i ∧ t.md q i) ops.size = lastP (t.md q) ops.size := fun q => lastP_congr _ fun i hi => ⟨And.right, fun x => ⟨hL i hi, x⟩⟩
  have e2 : ∀ u, lastP (fun i => L i ∧ t.wr u i) ops.size = lastP (t.wr u) ops.size := fun u => lastP_congr _ fun i hi => ⟨And.right, fun x => ⟨hL i hi, x⟩⟩
  have hG : (fun q => (S (lastP (fun i => L i ∧ t.md q i) ops.size)).get q) = (S ops.size).get := funext fun q => by rw [e1 q]; exact (t.memAt q ops.size).symm
  have hg := h.glob
  have hs := h.sim
  rw [hG] at hg hs
  refine ⟨hs, ?_, h.defers, h.size, h.free', ?_, t.top, hg, t.wfAll henv _ (Nat.le_refl _)⟩
  · intro u
    have := h.slots u
    rw [e2 u, ← t.slotAt henv u ops.size (Nat.le_refl _)] at this
    exact this
  · exact Nat.le_trans t.nx0 (t.nx henv (Nat.zero_le _) (Nat.le_refl _))

theorem mem_ready {arr : Array Bool} {i : Nat} (h : i ∈ Region.ready .any ops arr) : i < ops.size ∧ arr.getD i true = false ∧ ∃ o, ops[i]? = some o ∧ ∀ k ∈ directs o, arr.getD k false = true := by
  unfold Region.ready at h
  simp only [List.mem_filter, List.mem_range, Bool.and_eq_true, Bool.not_eq_true'] at h
  obtain ⟨h1, h2, h3⟩ := h
  refine ⟨h1, h2, ?_⟩
  cases ho : ops[i]? with
  | none => rw [ho] at h3; simp at h3
  | some o =>
    refine ⟨o, rfl, ?_⟩
    rw [ho] at h3
    simp only [Option.map_some, Option.getD_some] at h3
    intro k hk
    unfold directs at hk
    obtain ⟨e, he, hk⟩ := List.mem_filterMap.1 hk
    split at hk
    · rename_i hb
      simp only [Option.some.injEq] at hk
      subst hk
      rw [Array.all_eq_true'] at h3
      have := h3 e (by simpa using he)
      simpa [hb] using this
    · simp at hk

/-- If nothing is ready, everything has been carried out. -/
theorem all_listed (hback : backOk ops = true) {arr : Array Bool} (hsz : arr.size = ops.size) (h : Region.ready .any ops arr = []) : ∀ i, i < ops.size → arr.getD i false = true := by
  intro i
  induction i using Nat.strongRecOn with
  | _ i ih =>
    intro hi
    cases hb : arr.getD i false with
    | true => rfl
    | false =>
      exfalso
      have hget : ops[i]? = some ops[i] := Array.getElem?_eq_getElem hi
      have : i ∈ Region.ready .any ops arr := by
        unfold Region.ready
        simp only [List.mem_filter, List.mem_range, Bool.and_eq_true, Bool.not_eq_true']
        refine ⟨hi, ?_, ?_⟩
        · rw [Array.getD_eq_getD_getElem?, Array.getElem?_eq_getElem (by omega)] at hb ⊢
          simpa using hb
        · rw [hget]
          simp only [Option.map_some, Option.getD_some]
          rw [Array.all_eq_true']
          intro e he
          by_cases hbd : Region.binds .any e = true
          · have hd : e.on ∈ directs ops[i] := List.mem_filterMap.2 ⟨e, by simpa using he, by rw [if_pos hbd]⟩
            have hlt := back_of hback hget hd
            rw [ih e.on hlt (by omega)]
            simp
          · simp [hbd]
      rw [h] at this
      simp at this

theorem draw_any (henv : EnvOk P env) (t : Trc P env B locs ops T S) {Q : Exit → Act → World → Prop} (hQ : ∀ μ' a' w', Rel B μ' (T ops.size) (S ops.size) a' w' → Q .normal a' w') :
    ∀ (fuel : Nat) (arr : Array Bool) (μ : Mp) (a : Act) (w : World), arr.size = ops.size → (List.range ops.size).countP (fun i => !arr.getD i false) ≤ fuel → (∀ m o, ops[m]? = some o → ∀ i ∈ directs o, arr.getD m false = true → arr.getD i false = true) →
      Drawn P env B locs ops T S t (fun i => arr.getD i false = true) μ a w → wpAny P .any ops Q fuel arr a w := by
  intro fuel
  induction fuel with
  | zero =>
    intro arr μ a w hsz hc hcl h
    have hall : ∀ i, i < ops.size → arr.getD i false = true := by
      intro i hi
      have h0 : (List.range ops.size).countP (fun i => !arr.getD i false) = 0 := by omega
      have := List.countP_eq_zero.1 h0 i (List.mem_range.2 hi)
      simpa using this
    refine ⟨?_, hQ μ a w (h.done henv hall)⟩
    cases hr : Region.ready .any ops arr with
    | nil => rfl
    | cons i l =>
      have hi : i ∈ Region.ready .any ops arr := by rw [hr]; exact List.mem_cons_self
      obtain ⟨h1, h2, _⟩ := mem_ready hi
      have h3 := hall i h1
      rw [Array.getD_eq_getD_getElem?, Array.getElem?_eq_getElem (by omega)] at h2 h3
      simp at h2 h3
      rw [h2] at h3
      cases h3
  | succ fuel ih =>
    intro arr μ a w hsz hc hcl h
    refine ⟨fun hr => hQ μ a w (h.done henv (all_listed t.back hsz hr)), ?_⟩
    intro j hj
    obtain ⟨hjn, hjl, o, ho, hdir⟩ := mem_ready hj
    have hjf : arr.getD j false = false := by
      rw [Array.getD_eq_getD_getElem?, Array.getElem?_eq_getElem (by omega)] at hjl ⊢
      simpa using hjl
    have hLj : ¬ (arr.getD j false = true) := by rw [hjf]; simp
    have hp : ∀ i, i ∈ t.ah.getD j [] → arr.getD i false = true := by
      intro i hi
      have hlt := t.backAhead hi
      have := aheads_closed (listed := fun x => arr.getD x false = true ∨ x = j) (ops.toList.map directs) [] (by intro k i hi; simp at hi) ?_ j i hi (.inr rfl)
      · rcases this with h1 | h1
        · exact h1
        · omega
      · intro m d hd i hi hm
        simp only [List.getElem?_map, Option.map_eq_some_iff] at hd
        obtain ⟨om, hom, rfl⟩ := hd
        have hom' : ops[m]? = some om := by simpa using hom
        rcases hm with hm | hm
        · exact .inl (hcl m om hom' i hi (by simpa using hm))
        · have hmj : m = j := by simpa using hm
          subst hmj
          rw [ho] at hom'
          obtain rfl := Option.some.inj hom'
          exact .inl (hdir i hi)
    -- the list with j
    have hset : ∀ i, (arr.setIfInBounds j true).getD i false = true ↔ (arr.getD i false = true ∨ i = j) := by
      intro i
      simp only [Array.getD_eq_getD_getElem?, Array.getElem?_setIfInBounds]
      by_cases hij : j = i
      · subst hij
        simp [show j < arr.size by omega]
      · simp [hij, Ne.symm hij]
    have hfun : (fun i => (arr.setIfInBounds j true).getD i false = true) = fun i => (arr.getD i false = true ∨ i = j) := funext fun i => propext (hset i)
    have next : ∀ μ' a' w', Drawn P env B locs ops T S t (fun i => arr.getD i false = true ∨ i = j) μ' a' w' → wpAny P .any ops Q fuel (arr.setIfInBounds j true) a' w' := by
      intro μ' a' w' h'
      refine ih _ μ' a' w' (by simp [hsz]) ?_ ?_ (by rw [hfun]; exact h')
      · have := count_drop (p := fun i => !arr.getD i false) (q := fun i => !(arr.setIfInBounds j true).getD i false) (List.range ops.size) j (List.mem_range.2 hjn) ?_ (by simp [hjf]) ?_
        · omega
        · intro y hy
          simp only [Bool.not_eq_true'] at hy ⊢
          cases hb : arr.getD y false with
          | false => rfl
          | true =>
            have := (hset y).2 (.inl hb)
            rw [hy] at this
            cases this
        · have := (hset j).2 (.inr rfl)
          simp [this]
      · intro m om hom i hi hm
        rcases (hset m).1 hm with h1 | h1
        · exact (hset i).2 (.inl (hcl m om hom i hi h1))
        · subst h1
          rw [ho] at hom
          obtain rfl := Option.some.inj hom
          exact (hset i).2 (.inl (hdir i hi))
    unfold wpOp
    simp only [ho]
    obtain ⟨g, hg, hd, heq, hcase⟩ := stripO_step (t.step j o ho)
    have hw : ∀ b, wantedA (T j) ⟨o.dst, stripOp P (isLoc locs o.dst) o.op, g⟩ = some b → Region.wanted o (yielded ops a.tmps) = b := by
      intro b hb
      refine wanted_of (μ := μ) (T := T j) hg (fun u b' hgu => ?_) hb
      subst hgu
      exact h.slot henv ho hLj hp (List.mem_append_right _ (guard_mem hg))
    have hops : ∀ X ∈ o.op.operands, ConA μ (ev (T j) (opdOf X)) (a.eval X) := by
      intro X hX
      refine operand_con fun u hu => ?_
      subst hu
      exact h.slot henv ho hLj hp (List.mem_append_left _ (tmp_mem hX))
    rcases hcase with ⟨hwt, v, s', ha, hpp⟩ | ⟨hwf, hpp⟩
    · simp only [Prod.mk.injEq] at hpp
      obtain ⟨hT, hS⟩ := hpp
      simp only at ha
      subst hS
      rw [if_pos (hw true hwt)]
      have hao : (stripO P locs B.n ops o).op = stripOp P (isLoc locs o.dst) o.op := by rw [heq]
      have hwt' : wantedA (T j) (stripO P locs B.n ops o) = some true := by rw [heq]; exact hwt
      have hfree := h.free j o ho hLj
      cases hh : (stripOp P (isLoc locs o.dst) o.op).heavy with
      | true =>
        have hs : Sim μ (S j).get w := by
          refine h.sim.on fun q pl r hq hr => ?_
          show (S _).get q = _
          rw [h.atJ henv ho hLj hp (by rw [hao]; exact hh) hq hr]
          exact hr
        refine .inl (op_wp henv hs hops ha (fun _ => rfl) (fun _ _ => rfl) hfree.1 (fun q hq => hfree.2 hwt' q (by rw [hao]; exact hq)) (t.wfAll henv j (by omega)) ?_)
        intro v' w' hafter
        obtain ⟨μ', h'⟩ := h.heavy henv ho hLj hp hd hao hwt' hT ha hh hafter
        exact next μ' _ _ h'
      | false =>
        refine .inl (op_wp henv h.sim hops ha (fun x => by rw [hh] at x; cases x) ?_ hfree.1 (fun q hq => hfree.2 hwt' q (by rw [hao]; exact hq)) (t.wfAll henv j (by omega)) ?_)
        · intro q hq
          obtain ⟨pl, hpl⟩ := read_con hops hq
          obtain ⟨r, hr⟩ := read_there ha hq
          refine h.mem henv ho hLj hp hpl hr ?_
          intro i oi hoi hij hhi hmd
          obtain ⟨hl1, hl2, _⟩ := read_light (T := T j) (s := S j) (ao := stripO P locs B.n ops o) (q := q) (by rw [hao]; exact hq)
          refine Classical.byContradiction fun hno => hmd ?_
          refine t.chk i j oi o q hoi ho hhi hl2 hl1 hij ?_ ?_
          · intro hin
            refine hno ?_
            have := t.backAhead hin
            unfold inOrder
            rw [if_pos this]
            simpa using hin
          · intro hin
            refine hno ?_
            have := t.backAhead hin
            unfold inOrder
            rw [if_neg (by omega)]
            simpa using hin
        · intro v' w' hafter
          obtain ⟨μ', h'⟩ := h.light henv ho hLj hp hd hao hwt' hT ha hh hafter
          exact next μ' _ _ h'
    · rw [if_neg (by rw [hw false hwf]; simp)]
      exact next μ _ _ (h.skip henv ho hLj hp hd hpp)

end Go.Abs

/-
  A region of open order, from its abstract run.
-/

namespace Go.Abs

variable {P : Program} {env : Env} {B : Start} {locs : List Nat} {ops : Array Oper}

theorem Rel.drew {μ : Mp} {T : Nat → Av} {s : St} {a : Act} {w : World} (hR : Rel B μ T s a w) : Rel B μ T s a { w with drawn := w.drawn + 1 } :=
  ⟨⟨hR.sim.row, hR.sim.apart⟩, hR.slots, hR.defers, hR.size, hR.fresh, hR.nx0, hR.nxN,
    ⟨hR.glob.le, ⟨hR.glob.frm.os, hR.glob.frm.tape, hR.glob.frm.output, hR.glob.frm.size, hR.glob.frm.block⟩, hR.glob.new, hR.glob.keeps⟩, hR.wf⟩

theorem Glob.top_mono {μ0 μ : Mp} {h0 : Heap} {w0 w : World} {g : Mem} {m n : Nat} (h : Glob μ0 h0 w0 μ g m w) (hmn : m ≤ n) : Glob μ0 h0 w0 μ g n w := by
  refine ⟨h.le, h.frm, fun q pl hq => ?_, fun b r' hr => ?_⟩
  · rcases h.new q pl hq with h1 | ⟨h1, h2⟩
    · exact .inl h1
    · refine .inr ⟨?_, h2⟩
      rcases h1 with h1 | ⟨b, rfl, h3, h4⟩
      · exact .inl h1
      · exact .inr ⟨b, rfl, h3, by omega⟩
  · rcases h.keeps b r' hr with h1 | ⟨h1, h2⟩
    · exact .inl h1
    · exact .inr ⟨h1, by omega⟩

theorem lastP_none {p : Nat → Prop} (hp : ∀ i, ¬ p i) : ∀ n, lastP p n = 0
  | 0 => rfl
  | n + 1 => by
    unfold lastP
    rw [if_neg (hp n)]
    exact lastP_none hp n

theorem chkAll_mem {ops : List AO} {tr : List ((Nat → Av) × St)} : ∀ {l : List (Nat × Nat)} {p : Nat × Nat}, chkAll ops tr l → p ∈ l → chkPair ops tr p.1 p.2
  | [], p, _, h => by simp at h
  | (i, j) :: r, p, hc, h => by
    rcases List.mem_cons.1 h with h | h
    · subst h; exact hc.1
    · exact chkAll_mem hc.2 h

theorem open_mem {l : List AO} {ah : List (List Nat)} {i j : Nat} {a b : AO} (ha : l[i]? = some a) (hb : l[j]? = some b) (h1 : a.op.heavy = true) (h2 : b.op.light = true) (h3 : i ≠ j) (h4 : ¬ i ∈ ah.getD j []) (h5 : ¬ j ∈ ah.getD i []) : (i, j) ∈ openPairs l ah := by
  unfold openPairs
  refine List.mem_flatMap.2 ⟨i, List.mem_range.2 (List.getElem?_eq_some_iff.1 ha).1, List.mem_filterMap.2 ⟨j, List.mem_range.2 (List.getElem?_eq_some_iff.1 hb).1, ?_⟩⟩
  simp only [ha, hb]
  have e4 : (ah.getD j []).contains i = false := by simpa using h4
  have e5 : (ah.getD i []).contains j = false := by simpa using h5
  simp only [h1, h2, e4, e5]
  simp [h3]

theorem madeL_all {locs : List Nat} {n : Nat} {ops : Array Oper} {s : St} {k : Nat} : ∀ {l : List Oper} {o : Oper}, o ∈ l → newKey o.dst s (stripO P locs n ops o).op = some (.inl k) → k ∈ madeL locs l
  | [], o, h, _ => by simp at h
  | x :: l, o, h, hk => by
    rcases List.mem_cons.1 h with h | h
    · subst h
      rw [(madeL_key (r := l) hk).1]
      exact List.mem_cons_self
    · exact madeL_mem (madeL_all h hk)

theorem regionD_wp (henv : EnvOk P env) (hm : P.follows .mixedOrders = true) {id : Nat} {Q : Exit → Act → World → Prop} {T : Nat → Av} {s : St} {p' : (Nat → Av) × St} {μ : Mp} {a : Act} {w : World}
    (hrun : runRegD env (ops.toList.map (stripO P locs B.n ops)) (openPairs (ops.toList.map (stripO P locs B.n ops)) (aheads (ops.toList.map directs) [])) (kill (madeL locs ops.toList) (T, s)) = some p')
    (hok : openOk ops (ops.toList.map (stripO P locs B.n ops)) (aheads (ops.toList.map directs) []) = true) (hback : backOk ops = true) (hN : p'.2.h.nx ≤ B.N) (hR : Rel B μ T s a w)
    (hQ : ∀ μ' a' w', Rel B μ' p'.1 p'.2 a' w' → Q .normal a' w') : (Code.region id ops true).wp P Q a w := by
  obtain ⟨μ1, hR0, hfr⟩ := hR.kill (madeL locs ops.toList)
  have hR1 := hR0.drew
  have hcut : ∀ k, k ∈ madeL locs ops.toList → (kill (madeL locs ops.toList) (T, s)).2.get (.inl k) = none := by
    intro k hk
    cases hds : madeL locs ops.toList with
    | nil => rw [hds] at hk; simp at hk
    | cons d ds =>
      rw [hds] at hk
      simp only [kill, St.get]
      rw [if_pos (by simpa using hk)]
  revert hrun hR1 hcut
  generalize kill (madeL locs ops.toList) (T, s) = p0
  intro hrun hR1 hcut
  simp only [runRegD, Option.bind_eq_some_iff] at hrun
  obtain ⟨tr, htr, hrun⟩ := hrun
  split at hrun
  · rename_i hchk
    have hlen := trace_length htr
    simp only [List.length_map, Array.length_toList] at hlen hrun
    have hhead := trace_head htr
    have e0 : ((tr[0]?).getD p0) = p0 := by rw [hhead]; rfl
    have eN : ((tr[ops.size]?).getD p0) = p' := by rw [hrun]; rfl
    have t : Trc P env B locs ops (fun i => ((tr[i]?).getD p0).1) (fun i => ((tr[i]?).getD p0).2) := by
      refine ⟨?_, hok, hback, ?_, ?_, ?_, ?_, ?_, ?_⟩
      · intro i o ho
        obtain ⟨x, y, hx, hy, hst⟩ := trace_step htr i (stripO P locs B.n ops o) (by simp [List.getElem?_map, ho])
        simp only [hx, hy, Option.getD_some]
        exact hst
      · intro i j oi oj q hi hj hh hk hl hij h1 h2
        have hc := chkAll_mem hchk (open_mem (l := ops.toList.map (stripO P locs B.n ops)) (by simp [List.getElem?_map, hi]) (by simp [List.getElem?_map, hj]) hh hl hij h1 h2)
        unfold chkPair at hc
        have hil : i < ops.size := (Array.getElem?_eq_some_iff.1 hi).1
        have hjl : j < ops.size := (Array.getElem?_eq_some_iff.1 hj).1
        have g1 : tr[j]? = some tr[j] := List.getElem?_eq_getElem (by omega)
        have g2 : tr[i]? = some tr[i] := List.getElem?_eq_getElem (by omega)
        have g3 : tr[i + 1]? = some tr[i + 1] := List.getElem?_eq_getElem (by omega)
        simp only [g1, g2, g3, List.getElem?_map, Array.getElem?_toList, hj, Option.map_some, Option.getD_some] at hc hk ⊢
        rw [hk] at hc
        exact hc
      · simp only [e0]; exact hR1.wf
      · intro i o k ho hk
        simp only [e0]
        exact hcut k (madeL_all (l := ops.toList) (Array.mem_toList_iff.2 (Array.mem_of_getElem? ho)) hk)
      · simp only [eN]; exact hN
      · simp only [e0]; exact hR1.nx0
      · simp only [e0]; exact hR1.glob.keeps
    refine wp_region_any hm (draw_any henv t (fun μ' a' w' h => hQ μ' a' w' (by simpa only [eN] using h)) ops.size _ μ1 a _ (by simp) ?_ ?_ ?_)
    · exact Nat.le_trans List.countP_le_length (by simp)
    · intro m o hm' i hi h
      have hml : m < ops.size := (Array.getElem?_eq_some_iff.1 hm').1
      rw [Array.getD_eq_getD_getElem?] at h
      simp [hml] at h
    · have hno : ∀ i, ¬ (Array.replicate ops.size false).getD i false = true := by
        intro i h
        rw [Array.getD_eq_getD_getElem?] at h
        by_cases hi : i < ops.size <;> simp [hi] at h
      have l0 : ∀ q, lastP (fun i => (Array.replicate ops.size false).getD i false = true ∧ t.md q i) ops.size = 0 := fun q => lastP_none (fun i h => hno i h.1) _
      have l1 : ∀ u, lastP (fun i => (Array.replicate ops.size false).getD i false = true ∧ t.wr u i) ops.size = 0 := fun q => lastP_none (fun i h => hno i h.1) _
      have hG : (fun q => (((tr[lastP (fun i => (Array.replicate ops.size false).getD i false = true ∧ t.md q i) ops.size]?).getD p0).2).get q) = p0.2.get := funext fun q => by rw [l0 q, e0]
      have hnx := fun {i j : Nat} => t.nx henv (i := i) (j := j)
      have hnx0 : ∀ i, i ≤ ops.size → p0.2.h.nx ≤ ((tr[i]?).getD p0).2.h.nx := by
        intro i hi
        have := hnx (Nat.zero_le i) hi
        simpa only [e0] using this
      have htop : ∀ i, i ≤ ops.size → ((tr[i]?).getD p0).2.h.nx ≤ B.N := fun i hi => Nat.le_trans (hnx hi (Nat.le_refl _)) t.top
      refine ⟨?_, ?_, ?_, hR1.defers, hR1.size, ?_, ?_, ?_⟩
      · intro k i _ h; exact absurd h (hno k)
      · rw [hG]; exact hR1.sim
      · intro u; rw [l1 u, e0]; exact hR1.slots u
      · intro i o ho _
        have hil : i < ops.size := (Array.getElem?_eq_some_iff.1 ho).1
        refine ⟨fun b h1 h2 => ?_, fun hwt q hq => ?_⟩
        · exact hR1.fresh b (Nat.le_trans (hnx0 i (by omega)) h1) (Nat.lt_of_lt_of_le h2 (htop (i + 1) (by omega)))
        · cases q with
          | inl k => exact hfr k (madeL_all (l := ops.toList) (Array.mem_toList_iff.2 (Array.mem_of_getElem? ho)) hq)
          | inr b =>
            obtain ⟨g, hg, hd, heq, hcase⟩ := stripO_step (t.step i o ho)
            rw [heq] at hq hwt
            rcases hcase with ⟨_, v, s', ha, hpp⟩ | ⟨hwf, _⟩
            · simp only [Prod.mk.injEq] at hpp
              have := newKey_hp ha b hq
              rw [← hpp.2] at this
              exact hR1.fresh b (Nat.le_trans (hnx0 i (by omega)) this.2) (Nat.lt_of_lt_of_le this.1 (htop (i + 1) (by omega)))
            · rw [hwf] at hwt; cases hwt
      · intro b h1 h2
        exact hR1.fresh b (Nat.le_trans (hnx0 ops.size (Nat.le_refl _)) h1) h2
      · rw [hG]
        exact hR1.glob.top_mono (hnx0 ops.size (Nat.le_refl _))
  · simp at hrun

end Go.Abs

/-
  The whole code of a function.
-/

namespace Go.Abs

variable {P : Program} {env : Env} {B : Start} {locs : List Nat}

theorem kill_h (ds : List Nat) (p : (Nat → Av) × St) : (kill ds p).2.h = p.2.h := by
  cases ds <;> rfl

/-- A relation of heaps that each operation keeps. -/
structure Keeper (env : Env) (K : Heap → Heap → Prop) : Prop where
  refl : ∀ h, K h h
  trans : ∀ a b c, K a b → K b c → K a c
  step : ∀ o p p', stepO env o p = some p' → K p.2.h p'.2.h

variable {K : Heap → Heap → Prop}

theorem runOps_rel (hK : Keeper env K) : ∀ {l : List AO} {p p' : (Nat → Av) × St}, runOps env l p = some p' → K p.2.h p'.2.h
  | [], p, p', h => by
    simp only [runOps, Option.some.injEq] at h
    rw [h]
    exact hK.refl _
  | o :: l, p, p', h => by
    simp only [runOps, Option.bind_eq_some_iff] at h
    obtain ⟨p1, h1, h2⟩ := h
    exact hK.trans _ _ _ (hK.step o p p1 h1) (runOps_rel hK h2)

theorem trace_rel (hK : Keeper env K) : ∀ {l : List AO} {p : (Nat → Av) × St} {tr : List ((Nat → Av) × St)}, runTrace env l p = some tr → ∀ x ∈ tr, K p.2.h x.2.h
  | [], p, tr, h, x, hx => by
    simp only [runTrace, Option.some.injEq] at h
    rw [← h] at hx
    simp only [List.mem_singleton] at hx
    rw [hx]
    exact hK.refl _
  | o :: l, p, tr, h, x, hx => by
    simp only [runTrace, Option.bind_eq_some_iff, Option.map_eq_some_iff] at h
    obtain ⟨p1, h1, tr1, h2, rfl⟩ := h
    rcases List.mem_cons.1 hx with hx | hx
    · rw [hx]; exact hK.refl _
    · exact hK.trans _ _ _ (hK.step o p p1 h1) (trace_rel hK h2 x hx)

theorem runRegD_rel (hK : Keeper env K) {l : List AO} {chk : List (Nat × Nat)} {p p' : (Nat → Av) × St} (h : runRegD env l chk p = some p') : K p.2.h p'.2.h := by
  simp only [runRegD, Option.bind_eq_some_iff] at h
  obtain ⟨tr, htr, h⟩ := h
  split at h
  · exact trace_rel hK htr p' (List.mem_of_getElem? h)
  · simp at h

theorem iter_rel (hK : Keeper env K) {f : X → Option R} (hf : ∀ x e y, f x = some (e, y) → K x.2.h y.2.h) : ∀ (n : Nat) (x : X) (e : Ex) (y : X), iter f n x = some (e, y) → K x.2.h y.2.h
  | 0, x, e, y, h => by simp [iter] at h
  | n + 1, x, e, y, h => by
    unfold iter at h
    split at h
    · rename_i z hz
      exact hK.trans _ _ _ (hf x _ z hz) (iter_rel hK hf n z e y h)
    · exact hf x e y h

theorem aloop_iter {f : X → Option R} {x : X} {r : R} (h : aloop f x = some r) : ∃ n, iter f n x = some r := by
  unfold aloop at h
  split at h
  · exact ⟨_, h⟩
  · simp at h

theorem code_rel (hK : Keeper env K) : ∀ (c : ACode) (x : X) (e : Ex) (y : X), aexec env c x = some (e, y) → K x.2.h y.2.h := by
  intro c
  induction c with
  | skip =>
    intro x e y h
    simp only [aexec, Option.some.injEq, Prod.mk.injEq] at h
    rw [h.2]; exact hK.refl _
  | reg ds ops =>
    intro x e y h
    simp only [aexec, Option.map_eq_some_iff, Prod.mk.injEq] at h
    obtain ⟨z, hz, _, rfl⟩ := h
    have := runOps_rel hK hz
    rwa [kill_h] at this
  | regD ds ops chk =>
    intro x e y h
    simp only [aexec, Option.map_eq_some_iff, Prod.mk.injEq] at h
    obtain ⟨z, hz, _, rfl⟩ := h
    have := runRegD_rel hK hz
    rwa [kill_h] at this
  | seq a b iha ihb =>
    intro x e y h
    simp only [aexec] at h
    split at h
    · rename_i z hz
      exact hK.trans _ _ _ (iha x _ z hz) (ihb z e y h)
    · exact iha x e y h
  | cond c a b iha ihb =>
    intro x e y h
    simp only [aexec] at h
    split at h
    · split at h
      · exact iha x e y h
      · exact ihb x e y h
    · simp at h
  | block i a ih =>
    intro x e y h
    simp only [aexec] at h
    split at h
    · rename_i j z hz
      have := ih x _ z hz
      split at h
      all_goals
        simp only [Option.some.injEq, Prod.mk.injEq] at h
        rw [← h.2]; exact this
    · exact ih x e y h
  | loop a ih =>
    intro x e y h
    simp only [aexec] at h
    obtain ⟨n, hn⟩ := aloop_iter h
    exact iter_rel hK ih n x e y hn
  | exit i =>
    intro x e y h
    simp only [aexec, Option.some.injEq, Prod.mk.injEq] at h
    rw [h.2]; exact hK.refl _
  | ret =>
    intro x e y h
    simp only [aexec, Option.some.injEq, Prod.mk.injEq] at h
    rw [h.2]; exact hK.refl _
  | bad => intro x e y h; simp [aexec] at h

theorem keeperNx (henv : EnvOk P env) : Keeper env fun a b => a.nx ≤ b.nx := ⟨fun _ => Nat.le_refl _, fun _ _ _ h k => Nat.le_trans h k, fun _ _ _ h => stepO_nx henv h⟩
theorem code_nx (henv : EnvOk P env) (c : ACode) (x : X) (e : Ex) (y : X) (h : aexec env c x = some (e, y)) : x.2.h.nx ≤ y.2.h.nx := code_rel (keeperNx henv) c x e y h
theorem iter_nx (henv : EnvOk P env) {c : ACode} (n : Nat) (x : X) (e : Ex) (y : X) (h : iter (aexec env c) n x = some (e, y)) : x.2.h.nx ≤ y.2.h.nx := iter_rel (keeperNx henv) (code_nx henv c) n x e y h

def Ex.out : Ex → Exit
  | .normal => .normal
  | .exit i => .exit i
  | .ret => .ret

theorem code_wp (henv : EnvOk P env) (hm : P.follows .mixedOrders = true) : ∀ (c : Code) (Q : Exit → Act → World → Prop) (x : X) (e : Ex) (y : X) (μ : Mp) (a : Act) (w : World), aexec env (strip P locs B.n c) x = some (e, y) → y.2.h.nx ≤ B.N → Rel B μ x.1 x.2 a w →
    (∀ μ' a' w', Rel B μ' y.1 y.2 a' w' → Q e.out a' w') → c.wp P Q a w := by
  intro c
  induction c with
  | skip =>
    intro Q x e y μ a w h hN hR hQ
    simp only [strip, aexec, Option.some.injEq, Prod.mk.injEq] at h
    obtain ⟨rfl, rfl⟩ := h
    exact wp_skip (hQ μ a w hR)
  | region id ops draw =>
    intro Q x e y μ a w h hN hR hQ
    simp only [strip, stripRegion] at h
    split at h
    · rename_i hnd
      split at h
      · rename_i hdr
        subst hdr
        split at h
        · rename_i hok
          simp only [aexec, Option.map_eq_some_iff, Prod.mk.injEq] at h
          obtain ⟨z, hz, rfl, rfl⟩ := h
          exact regionD_wp henv hm (T := x.1) (s := x.2) hz hok.1 hok.2 hN hR hQ
        · simp [aexec] at h
      · rename_i hdr
        have : draw = false := by simpa using hdr
        subst this
        simp only [aexec, Option.map_eq_some_iff, Prod.mk.injEq] at h
        obtain ⟨z, hz, rfl, rfl⟩ := h
        exact region_wp henv (T := x.1) (s := x.2) hz hnd hN hR hQ
    · simp [aexec] at h
  | seq c d ihc ihd =>
    intro Q x e y μ a w h hN hR hQ
    simp only [strip, aexec] at h
    refine wp_seq ?_
    split at h
    · rename_i z hz
      refine ihc _ x _ z μ a w hz (Nat.le_trans (code_nx henv _ _ _ _ h) hN) hR fun μ' a' w' hR' => ?_
      exact ihd Q z e y μ' a' w' h hN hR' hQ
    · rename_i hne
      refine ihc _ x e y μ a w h hN hR fun μ' a' w' hR' => ?_
      cases e with
      | normal => exact (hne y h).elim
      | exit i => exact hQ μ' a' w' hR'
      | ret => exact hQ μ' a' w' hR'
  | cond o c d ihc ihd =>
    intro Q x e y μ a w h hN hR hQ
    simp only [strip, aexec] at h
    split at h
    · rename_i t ht
      have hv := con_bool (slot_ops hR.slots o) ht
      refine wp_cond hv ?_
      cases t with
      | true => exact ihc Q x e y μ a w (by simpa using h) hN hR hQ
      | false => exact ihd Q x e y μ a w (by simpa using h) hN hR hQ
    · simp at h
  | block i c ih =>
    intro Q x e y μ a w h hN hR hQ
    simp only [strip, aexec] at h
    refine wp_block ?_
    split at h
    · rename_i j z hz
      split at h
      · rename_i hj
        simp only [Option.some.injEq, Prod.mk.injEq] at h
        obtain ⟨rfl, rfl⟩ := h
        refine ih _ x _ z μ a w hz hN hR fun μ' a' w' hR' => ?_
        simp only [Ex.out, Exit.inBlock]
        rw [if_pos hj]
        exact hQ μ' a' w' hR'
      · rename_i hj
        simp only [Option.some.injEq, Prod.mk.injEq] at h
        obtain ⟨rfl, rfl⟩ := h
        refine ih _ x _ z μ a w hz hN hR fun μ' a' w' hR' => ?_
        simp only [Ex.out, Exit.inBlock]
        rw [if_neg hj]
        exact hQ μ' a' w' hR'
    · rename_i hne
      refine ih _ x e y μ a w h hN hR fun μ' a' w' hR' => ?_
      cases e with
      | exit i => exact (hne i y h).elim
      | normal => exact hQ μ' a' w' hR'
      | ret => exact hQ μ' a' w' hR'
  | loop c ih =>
    intro Q x e y μ a w h hN hR hQ
    simp only [strip, aexec] at h
    obtain ⟨n, hn⟩ := aloop_iter h
    refine wp_loop_rounds n ?_
    clear h
    induction n generalizing x μ a w with
    | zero => simp [iter] at hn
    | succ n ihn =>
      rw [rounds_succ]
      unfold iter at hn
      split at hn
      · rename_i z hz
        refine ih _ x _ z μ a w hz (Nat.le_trans (iter_nx henv n z e y hn) hN) hR fun μ' a' w' hR' => ?_
        exact ihn z μ' a' w' hR' hn
      · rename_i hne
        refine ih _ x e y μ a w hn hN hR fun μ' a' w' hR' => ?_
        cases e with
        | normal => exact (hne y hn).elim
        | exit i => exact hQ μ' a' w' hR'
        | ret => exact hQ μ' a' w' hR'
  | exit i =>
    intro Q x e y μ a w h hN hR hQ
    simp only [strip, aexec, Option.some.injEq, Prod.mk.injEq] at h
    obtain ⟨rfl, rfl⟩ := h
    exact wp_exit (hQ μ a w hR)
  | ret =>
    intro Q x e y μ a w h hN hR hQ
    simp only [strip, aexec, Option.some.injEq, Prod.mk.injEq] at h
    obtain ⟨rfl, rfl⟩ := h
    exact wp_ret (hQ μ a w hR)
  | _ =>
    intro Q x e y μ a w h
    simp [strip, aexec] at h

end Go.Abs

/-
  A function of the model and its abstract function.
-/

namespace Go.Abs

variable {P : Program} {env : Env}

def Grow (h h' : Heap) : Prop := h.nx ≤ h'.nx ∧ ∀ b r', h'.hp b = some r' → (∃ r, h.hp b = some r ∧ r.rw = r'.rw) ∨ (h.nx ≤ b ∧ b < h'.nx)

theorem keeperGrow (henv : EnvOk P env) : Keeper env Grow := by
  refine ⟨fun h => ⟨Nat.le_refl _, fun b r hr => .inl ⟨r, hr, rfl⟩⟩, ?_, ?_⟩
  · rintro a b c ⟨h1, h2⟩ ⟨k1, k2⟩
    refine ⟨Nat.le_trans h1 k1, fun x r' hr => ?_⟩
    rcases k2 x r' hr with ⟨r, g1, g2⟩ | ⟨g1, g2⟩
    · rcases h2 x r g1 with ⟨r0, m1, m2⟩ | ⟨m1, m2⟩
      · exact .inl ⟨r0, m1, m2.trans g2⟩
      · exact .inr ⟨m1, by omega⟩
    · exact .inr ⟨by omega, g2⟩
  · intro o p p' h
    unfold stepO at h
    split at h
    · simp only [Option.map_eq_some_iff] at h
      obtain ⟨⟨v, s'⟩, ha, rfl⟩ := h
      obtain ⟨h1, h2⟩ := aop_keeps henv ha
      refine ⟨h1, fun b r' hr => ?_⟩
      rcases h2 (.inr b) r' hr with h3 | ⟨b', hb, h4, h5⟩ | h3
      · exact .inl h3
      · injection hb with hb
        subst hb
        exact .inr ⟨h4, h5⟩
      · have := newKey_hp ha b h3
        exact .inr ⟨this.2, this.1⟩
    · simp only [Option.some.injEq] at h
      rw [← h]
      exact ⟨Nat.le_refl _, fun b r hr => .inl ⟨r, hr, rfl⟩⟩
    · simp at h

theorem ConAs.get {μ : Mp} : ∀ {xs : List Av} {vs : List Value}, ConAs μ xs vs → ∀ t, ConA μ (xs.getD t .no) (vs.getD t undef)
  | [], [], _, t => trivial
  | x :: xs, v :: vs, h, 0 => h.1
  | x :: xs, v :: vs, h, t + 1 => by simpa using ConAs.get h.2 t
  | [], _ :: _, h, _ => h.elim
  | _ :: _, [], h, _ => h.elim
theorem ConAs.length {μ : Mp} : ∀ {xs : List Av} {vs : List Value}, ConAs μ xs vs → xs.length = vs.length
  | [], [], _ => rfl
  | x :: xs, v :: vs, h => by simp [ConAs.length h.2]
  | [], _ :: _, h => h.elim
  | _ :: _, [], h => h.elim

theorem slots0 {μ : Mp} {xs : List Av} {vs : List Value} (h : ConAs μ xs vs) (n t : Nat) : ConA μ (argsT xs t) ((vs.toArray ++ Array.replicate n undef).getD t undef) := by
  unfold argsT
  by_cases ht : t < xs.length
  · have := h.get t
    rw [Array.getD_eq_getD_getElem?, Array.getElem?_append_left (by simpa [← h.length] using ht)]
    simpa [List.getD_eq_getElem?_getD] using this
  · rw [List.getD_eq_getElem?_getD, List.getElem?_eq_none (by omega)]
    trivial

def resG (P : Program) (tmps : Array Value) : ResultVar → Sem Value
  | .tmp t => pure (tmps.getD t undef)
  | .cell a t => do loadVar t (← asAddr (tmps.getD a undef))

theorem res_one {B : Start} {μ : Mp} {x : X} {a : Act} {w : World} (hR : Rel B μ x.1 x.2 a w) {r : ResultVar} {v : RV} {t : Tv} (hv : rvOf P r = some v) (h : resA x v = some t) :
    ∃ u, (resG P a.tmps r).run P w = .ok u w ∧ ConT (hpOnly μ) t u := by
  cases r with
  | tmp n =>
    simp only [rvOf, Option.some.injEq] at hv
    subst hv
    simp only [resA, Option.bind_eq_some_iff] at h
    obtain ⟨t', ht, h⟩ := h
    split at h
    · rename_i hno
      simp only [Option.some.injEq] at h
      subst h
      refine ⟨a.tmps.getD n undef, rfl, ?_⟩
      have hs := hR.slots n
      cases hx : x.1 n with
      | v y =>
        rw [hx] at hs ht
        simp only [Av.tv?, Option.some.injEq] at ht
        subst ht
        exact ConT.agree (μ := μ) (μ' := hpOnly μ) (fun _ => rfl) hno hs
      | _ => rw [hx] at ht; simp [Av.tv?] at ht
    · simp at h
  | cell n ty =>
    simp only [rvOf] at hv
    split at hv
    · rename_i k hag hsz
      simp only [Option.some.injEq] at hv
      subst hv
      simp only [resA, Option.bind_eq_some_iff] at h
      obtain ⟨p, hp, r, hr, h⟩ := h
      split at h
      · rename_i hfit
        simp only [Option.some.injEq] at h
        subst h
        have hc : ConP μ p (a.tmps.getD n undef) := by
          have hs := hR.slots n
          cases hx : x.1 n with
          | v y =>
            rw [hx] at hs hp
            cases y with
            | c c => cases c <;> simp [Av.ptr?, Av.ce?] at hp <;> (subst hp; exact hs)
            | agg l => simp [Av.ptr?, Av.ce?] at hp
          | _ => rw [hx] at hp; simp [Av.ptr?, Av.ce?] at hp
        obtain ⟨pl, hpl, e⟩ := hc
        have hrow := hR.sim.row _ _ _ hpl hr
        obtain ⟨vs, hl, hcell, hcon⟩ := hrow.cells hfit
        obtain ⟨_, _, _, _, _, _, hnl, _⟩ := hrow
        simp only [szOf, Option.map_eq_some_iff] at hsz
        obtain ⟨i, hi, rfl⟩ := hsz
        have hrun := run_loadCells_list (P := P) w _ vs hcell
        rw [hl] at hrun
        refine ⟨.agg vs.toArray, by simp [resG, e, asAddr, loadVar, agg_true hag, sizeOf, typeInfo, hi, hrun], vs, rfl, ?_, (hnl.drop _).take _⟩
        exact ConL.agree (μ := μ) (μ' := hpOnly μ) (fun _ => rfl) ((hnl.drop _).take _) hcon
      · simp at h
    · rename_i hag hsz
      simp only [Option.some.injEq] at hv
      subst hv
      simp only [resA, Option.bind_eq_some_iff, Option.map_eq_some_iff] at h
      obtain ⟨p, hp, r, hr, c, hcc, rfl⟩ := h
      have hc : ConP μ p (a.tmps.getD n undef) := by
        have hs := hR.slots n
        cases hx : x.1 n with
        | v y =>
          rw [hx] at hs hp
          cases y with
          | c c => cases c <;> simp [Av.ptr?, Av.ce?] at hp <;> (subst hp; exact hs)
          | agg l => simp [Av.ptr?, Av.ce?] at hp
        | _ => rw [hx] at hp; simp [Av.ptr?, Av.ce?] at hp
      obtain ⟨pl, hpl, e⟩ := hc
      have hrow := hR.sim.row _ _ _ hpl hr
      obtain ⟨v, hv, hcon⟩ := hrow.cell hcc
      obtain ⟨_, _, _, _, _, _, hnl, _⟩ := hrow
      refine ⟨v, by simp [resG, e, asAddr, loadVar, agg_false hag, hv], ?_⟩
      exact ConC.agree (μ := μ) (μ' := hpOnly μ) (fun _ => rfl) (hnl.get _ _ hcc) hcon
    · simp at hv

theorem res_all {B : Start} {μ : Mp} {x : X} {a : Act} {w : World} (hR : Rel B μ x.1 x.2 a w) : ∀ {l : List ResultVar} {rs : List RV} {ts : List Tv}, rvsOf P l = some rs → ressA x rs = some ts →
    ∃ vs, (l.mapM (resG P a.tmps)).run P w = .ok vs w ∧ ConTs (hpOnly μ) ts vs
  | [], rs, ts, h, k => by
    simp only [rvsOf, Option.some.injEq] at h
    subst h
    simp only [ressA, Option.some.injEq] at k
    subst k
    exact ⟨[], by simp, trivial⟩
  | r :: l, rs, ts, h, k => by
    simp only [rvsOf, Option.bind_eq_some_iff, Option.map_eq_some_iff] at h
    obtain ⟨v, hv, rs', hrs, rfl⟩ := h
    simp only [ressA, Option.bind_eq_some_iff, Option.map_eq_some_iff] at k
    obtain ⟨t, ht, ts', hts, rfl⟩ := k
    obtain ⟨u, hu, hcu⟩ := res_one (P := P) hR hv ht
    obtain ⟨us, hus, hcus⟩ := res_all hR hrs hts
    refine ⟨u :: us, ?_, hcu, hcus⟩
    rw [List.mapM_cons]
    simp [hu, hus]

theorem ConTs.length {μ : Mp} : ∀ {xs : List Tv} {vs : List Value}, ConTs μ xs vs → xs.length = vs.length
  | [], [], _ => rfl
  | x :: xs, v :: vs, h => by simp [ConTs.length h.2]
  | [], _ :: _, h => h.elim
  | _ :: _, [], h => h.elim

theorem results_run {fn : Func} {tmps : Array Value} {w : World} {vs : List Value} (h : (fn.results.toList.mapM (resG P tmps)).run P w = .ok vs w) {μ : Mp} {ts : List Tv} (hc : ConTs μ ts vs) :
    ∃ v, (results fn tmps).run P w = .ok v w ∧ ConA μ (resOf ts) v := by
  have e : fn.results.mapM (resG P tmps) = List.toArray <$> fn.results.toList.mapM (resG P tmps) := Array.mapM_eq_mapM_toList
  have hr : (results fn tmps).run P w = .ok (if h : vs.toArray.size = 1 then vs.toArray[0] else .tuple vs.toArray) w := by
    have e2 : results fn tmps = (fn.results.mapM (resG P tmps) >>= fun vs => pure (if h : vs.size = 1 then vs[0] else .tuple vs)) := by
      unfold results
      refine congrArg (fun f => (fn.results.mapM f >>= fun vs => pure (if h : vs.size = 1 then vs[0] else .tuple vs) : Sem Value)) (funext fun r => ?_)
      cases r <;> rfl
    rw [e2]
    rw [e]
    simp [h]
  refine ⟨_, hr, ?_⟩
  cases ts with
  | nil =>
    cases vs with
    | nil => exact ⟨[], rfl, trivial⟩
    | cons v vs => exact hc.elim
  | cons t ts =>
    cases vs with
    | nil => exact hc.elim
    | cons v vs =>
      cases ts with
      | nil =>
        cases vs with
        | nil => exact hc.1
        | cons u vs => exact hc.2.elim
      | cons t' ts =>
        cases vs with
        | nil => exact hc.2.elim
        | cons u vs => exact ⟨v :: u :: vs, by simp, hc⟩

theorem runF_sound (henv : EnvOk P env) (hm : P.follows .mixedOrders = true) {f : FuncId} {fn : Func} {c : Code} {rs : List RV} (locs : List Nat) (hf : P.funcs[f]? = some fn) (hb : fn.body = some c) (hname : (fn.name == "runtime.NumGoroutine") = false) (hrs : rvsOf P fn.results.toList = some rs) :
    Sound P f (runF env (strip P locs fn.ntmps c) rs) := by
  have grow : ∀ args h v h', runF env (strip P locs fn.ntmps c) rs args h = some (v, h') → Grow h h' := by
    intro args h v h' hF
    simp only [runF, Option.bind_eq_some_iff] at hF
    obtain ⟨⟨e, y⟩, hy, hF⟩ := hF
    have := code_rel (keeperGrow henv) _ _ e y hy
    cases e with
    | exit i => simp at hF
    | _ =>
      simp only [Option.map_eq_some_iff, Prod.mk.injEq] at hF
      obtain ⟨l, _, _, rfl⟩ := hF
      exact this
  refine ⟨⟨fn, hf, hname, by rw [hb]; rfl⟩, fun args h v h' hF => (grow args h v h' hF).1, ?_, ?_⟩
  · intro args h v h' b r' hF hno hr
    rcases (grow args h v h' hF).2 b r' hr with h1 | h1
    · exact h1
    · exact (hno h1).elim
  · intro args h v h' μ w vals hF hloc hfresh hs hargs hwf
    simp only [runF, Option.bind_eq_some_iff] at hF
    obtain ⟨⟨e, y⟩, hy, hF⟩ := hF
    have hF' : ∃ l, ressA y rs = some l ∧ resOf l = v ∧ y.2.h = h' ∧ (e = .normal ∨ e = .ret) := by
      cases e with
      | exit i => simp at hF
      | _ =>
        simp only [Option.map_eq_some_iff, Prod.mk.injEq] at hF
        obtain ⟨l, h1, h2, h3⟩ := hF
        exact ⟨l, h1, h2, h3, by simp⟩
    clear hF
    obtain ⟨ts, hts, rfl, rfl, he⟩ := hF'
    let B : Start := ⟨μ, h, w, y.2.h.nx, fn.ntmps, hloc, hfresh⟩
    have hnx := code_nx henv _ _ _ _ hy
    refine calls_of_wp hf hb (code_wp (B := B) henv hm (locs := locs) c _ _ e y μ _ w hy (Nat.le_refl _) ?_ ?_)
    · have hget : (⟨h, fun _ => none⟩ : St).get = h.get := by
        funext q
        cases q <;> rfl
      refine ⟨by rw [hget]; exact hs, fun t => ?_, rfl, ?_, fun b h1 h2 => hfresh b h1 h2, Nat.le_refl _, hnx, ⟨fun b pl hb => hb, Frm.refl _ _ _, fun q pl hq => .inl hq, fun b r' hr => .inl ⟨r', hr, rfl⟩⟩, hwf⟩
      · exact slots0 hargs _ t
      · show fn.ntmps ≤ _
        simp only [Array.size_append, Array.size_replicate]
        omega
    · intro μ' a' w' hR
      have post : a'.defers = [] ∧ ∃ v', (results fn a'.tmps).run P w' = .ok v' w' ∧ ∃ v'' μ', Ending.returned v' = .returned v'' ∧ ConA μ' (resOf ts) v'' ∧ Post μ h.get y.2.h.get w μ' w' (newOf h.nx y.2.h.nx) := by
        obtain ⟨vs, hvs, hcon⟩ := res_all (P := P) hR hrs hts
        obtain ⟨v', hv', hcv⟩ := results_run (P := P) hvs hcon
        refine ⟨hR.defers, v', hv', v', hpOnly μ', rfl, hcv, ?_, ?_, hR.glob.frm, ?_⟩
        · intro q pl hq
          cases q with
          | inl k => rw [hloc k] at hq; cases hq
          | inr b => exact hR.glob.le b pl hq
        · refine ⟨?_, ?_⟩
          · intro q pl r hq hr
            cases q with
            | inl k => simp [hpOnly] at hq
            | inr b =>
              obtain ⟨cs, e, fr, a1, a2, a3, a4, a5⟩ := hR.sim.row (.inr b) pl r hq hr
              exact ⟨cs, e, fr, a1, a2, ConL.agree (μ := μ') (μ' := hpOnly μ') (fun _ => rfl) a4 a3, a4, a5⟩
          · intro q q' pl pl' r r' hne hq hq' hr hr' hrw
            cases q with
            | inl k => simp [hpOnly] at hq
            | inr b =>
              cases q' with
              | inl k => simp [hpOnly] at hq'
              | inr b' => exact hR.sim.apart (.inr b) (.inr b') pl pl' r r' hne hq hq' hr hr' hrw
        · intro q pl hq
          cases q with
          | inl k => simp [hpOnly] at hq
          | inr b =>
            rcases hR.glob.new (.inr b) pl hq with h1 | ⟨h1, h2⟩
            · exact .inl h1
            · refine .inr ⟨?_, h2⟩
              rcases h1 with ⟨k, hk⟩ | h1
              · cases hk
              · exact h1
      rcases he with rfl | rfl
      · exact post
      · exact post

theorem sound_of (henv : EnvOk P env) (hm : P.follows .mixedOrders = true) {f : FuncId} {fn : Func} {code : ACode} {rs : List RV} (locs : List Nat) (hf : P.funcs[f]? = some fn) (hc : fn.body.map (strip P locs fn.ntmps) = some code) (hname : (fn.name == "runtime.NumGoroutine") = false) (hrs : rvsOf P fn.results.toList = some rs) :
    Sound P f (runF env code rs) := by
  obtain ⟨c, hb, rfl⟩ := Option.map_eq_some_iff.1 hc
  exact runF_sound henv hm locs hf hb hname hrs

end Go.Abs

/-
  Tools for telling what an abstract function computes.
-/

namespace Go.Abs

variable {P : Program} {env : Env}

/-- The callees that a function reaches, by their numbers. -/
def envL : List (Nat × Fun) → Env
  | [] => fun _ => none
  | (g, F) :: r => fun f => if f = g then some F else envL r f

theorem envL_ok : ∀ {l : List (Nat × Fun)}, (∀ p ∈ l, Sound P p.1 p.2) → EnvOk P (envL l)
  | [], _, f, F, h => by simp [envL] at h
  | (g, G) :: r, hl, f, F, h => by
    simp only [envL] at h
    split at h
    · rename_i he
      simp only [Option.some.injEq] at h
      subst h he
      exact hl (f, G) (by simp)
    · exact envL_ok (fun p hp => hl p (by simp [hp])) f F h

theorem envL_cons (g : Nat) (G : Fun) (r : List (Nat × Fun)) (f : Nat) : envL ((g, G) :: r) f = if f = g then some G else envL r f := rfl
theorem envL_nil (f : Nat) : envL [] f = none := rfl

theorem argsT_zero (x : Av) (l : List Av) : argsT (x :: l) 0 = x := rfl
theorem argsT_succ (x : Av) (l : List Av) (n : Nat) : argsT (x :: l) (n + 1) = argsT l n := by simp [argsT]
theorem upd_eq {α : Type} (f : Nat → α) (i : Nat) (v : α) : upd f i v i = v := by simp [upd]
theorem upd_ne {α : Type} (f : Nat → α) (i j : Nat) (v : α) (h : (j == i) = false) : upd f i v j = f j := by simp at h; simp [upd, h]

theorem wrap_i64 {n : Int} (h1 : -9223372036854775808 ≤ n) (h2 : n ≤ 9223372036854775807) : IntKind.i64.wrap n = n := by
  simp [IntKind.wrap, IntKind.signed, IntKind.bits]
  omega

theorem iter_mono {f : X → Option R} : ∀ {n : Nat} {x : X} {r : R}, iter f n x = some r → ∀ m, n ≤ m → iter f m x = some r
  | 0, x, r, h, m, hm => by simp [iter] at h
  | n + 1, x, r, h, 0, hm => by omega
  | n + 1, x, r, h, m + 1, hm => by
    unfold iter at h ⊢
    split at h
    · exact iter_mono h m (by omega)
    · exact h

theorem aloop_of {f : X → Option R} {n : Nat} {x : X} {r : R} (h : iter f n x = some r) : aloop f x = some r := by
  have he : ∃ n, (iter f n x).isSome = true := ⟨n, by rw [h]; rfl⟩
  unfold aloop
  rw [dif_pos he]
  have hc := Classical.choose_spec he
  obtain ⟨r', hr'⟩ := Option.isSome_iff_exists.1 hc
  rw [hr']
  have h1 := iter_mono h (max n (Classical.choose he)) (Nat.le_max_left _ _)
  have h2 := iter_mono hr' (max n (Classical.choose he)) (Nat.le_max_right _ _)
  rw [h1] at h2
  exact h2.symm

/-- A loop of n rounds at most: each goes on, or leaves as Q says. -/
theorem loop_rounds {f : X → Option R} {I : Nat → X → Prop} {Q : Ex → X → Prop} (n : Nat) (step : ∀ i x, i ≤ n → I i x → ∃ e y, f x = some (e, y) ∧ ((e = .normal ∧ i < n ∧ I (i + 1) y) ∨ (e ≠ .normal ∧ Q e y))) :
    ∀ {x}, I 0 x → ∃ e y, aloop f x = some (e, y) ∧ Q e y := by
  have key : ∀ k i x, i + k = n → I i x → ∃ e y, iter f (k + 1) x = some (e, y) ∧ Q e y := by
    intro k
    induction k with
    | zero =>
      intro i x hi h
      obtain ⟨e, y, hf, h1 | h1⟩ := step i x (by omega) h
      · omega
      · refine ⟨e, y, ?_, h1.2⟩
        unfold iter
        rw [hf]
        cases e with
        | normal => exact absurd rfl h1.1
        | _ => rfl
    | succ k ih =>
      intro i x hi h
      obtain ⟨e, y, hf, h1 | h1⟩ := step i x (by omega) h
      · obtain ⟨rfl, h2, h3⟩ := h1
        obtain ⟨e', y', h4, h5⟩ := ih (i + 1) y (by omega) h3
        refine ⟨e', y', ?_, h5⟩
        rw [iter, hf]
        exact h4
      · refine ⟨e, y, ?_, h1.2⟩
        rw [iter, hf]
        cases e with
        | normal => exact absurd rfl h1.1
        | _ => rfl
  intro x h0
  obtain ⟨e, y, h1, h2⟩ := key n 0 x (by omega) h0
  exact ⟨e, y, aloop_of h1, h2⟩

/-- How a value of a type lies in cells. -/
structure Elt (α : Type) where
  sz : Nat
  rel : Heap → List Ce → α → Prop

/-- What a slice's cell stands for. -/
def RdSl {α : Type} (E : Elt α) (h : Heap) (c : Ce) (l : List α) : Prop :=
  (c = .nils ∧ l = []) ∨ (c = .sl (.inr 0) 0 0 .any ∧ l = []) ∨ ∃ b o m r, c = .sl (.inr b) o l.length m ∧ l.length ≤ 9223372036854775807 ∧ h.hp b = some r ∧ o + l.length * E.sz ≤ r.cs.length ∧ ∀ i a, l[i]? = some a → E.rel h ((r.cs.drop (o + i * E.sz)).take E.sz) a

end Go.Abs

/-
  An argument's reading, out of the model's world, as the abstract machine has it.
-/

namespace Go.Abs

variable {P : Program} {w : World}

/-- One cell's value, in a world of blocks and offsets below M. -/
def absC (M : Nat) : Value → Option Ce
  | .int k n => some (.int k n)
  | .bool b => some (.bool b)
  | .string s => some (.str s)
  | .slice none 0 0 => some .nils
  | .slice a n c => if n ≤ c then (if n = 0 then some (.sl (.inr 0) 0 0 .any) else match a with
    | some ⟨B, O, none⟩ => if B < M ∧ O < M then some (.sl (.inr (B * M + O)) 0 n .any) else none
    | _ => none) else none
  | _ => none

def absL (M : Nat) : List Value → Option (List Ce)
  | [] => some []
  | v :: r => (absC M v).bind fun c => (absL M r).map (c :: ·)

/-- As many cells as can be told. -/
def absRun (M : Nat) : List Value → List Ce
  | [] => []
  | v :: r => match absC M v with
    | some c => c :: absRun M r
    | none => []

def rowOf (w : World) (M B O : Nat) : Option Row :=
  match w.heap[B]? with
  | some (.cells cs _ _) => if O ≤ cs.size then some ⟨absRun M (cs.toList.drop O), 1, false⟩ else none
  | _ => none

def heapOf (w : World) (M : Nat) : Heap := ⟨M * M, fun b => if b < M * M then rowOf w M (b / M) (b % M) else none⟩
def mapOf (M : Nat) : Mp
  | .inl _ => none
  | .inr b => if b < M * M then some ⟨b / M, b % M, 0⟩ else none

theorem key_lt {M B O : Nat} (hB : B < M) (hO : O < M) : B * M + O < M * M := by
  have : (B + 1) * M ≤ M * M := Nat.mul_le_mul_right M hB
  rw [Nat.add_mul] at this
  omega
theorem key_div {M B O : Nat} (hO : O < M) : (B * M + O) / M = B := by
  rw [Nat.mul_comm, Nat.mul_add_div (by omega)]
  simp [Nat.div_eq_of_lt hO]
theorem key_mod {M B O : Nat} (hO : O < M) : (B * M + O) % M = O := by
  rw [Nat.mul_comm, Nat.mul_add_mod]
  exact Nat.mod_eq_of_lt hO

theorem absC_con {M : Nat} (hM : 0 < M) {v : Value} {c : Ce} (h : absC M v = some c) : ConC (mapOf M) c v ∧ c.noLoc = true := by
  unfold absC at h
  split at h
  · simp only [Option.some.injEq] at h; subst h; exact ⟨rfl, rfl⟩
  · simp only [Option.some.injEq] at h; subst h; exact ⟨rfl, rfl⟩
  · simp only [Option.some.injEq] at h; subst h; exact ⟨rfl, rfl⟩
  · simp only [Option.some.injEq] at h; subst h; exact ⟨rfl, rfl⟩
  · rename_i a n c' _
    split at h
    · rename_i hle
      split at h
      · rename_i hn
        simp only [Option.some.injEq] at h
        subst h hn
        refine ⟨⟨a, c', rfl, hle, ⟨0, 0, 0⟩, ?_, by simp⟩, rfl⟩
        have : 0 < M * M := Nat.mul_pos hM hM
        simp [mapOf, this]
      · split at h
        · rename_i B O _
          split at h
          · rename_i hb
            simp only [Option.some.injEq] at h
            subst h
            refine ⟨⟨_, c', rfl, hle, ⟨B, O, 0⟩, ?_, fun _ => by simp⟩, rfl⟩
            simp only [mapOf]
            rw [if_pos (key_lt hb.1 hb.2), key_div hb.2, key_mod hb.2]
          · simp at h
        · simp at h
    · simp at h
  · simp at h

theorem absRun_con {M : Nat} (hM : 0 < M) : ∀ (l : List Value), ConL (mapOf M) (absRun M l) (l.take (absRun M l).length) ∧ noLocL (absRun M l) ∧ (absRun M l).length ≤ l.length
  | [] => ⟨trivial, trivial, Nat.le_refl _⟩
  | v :: r => by
    unfold absRun
    split
    · rename_i c hc
      obtain ⟨h1, h2, h3⟩ := absRun_con hM r
      obtain ⟨k1, k2⟩ := absC_con hM hc
      exact ⟨⟨k1, h1⟩, ⟨k2, h2⟩, by simpa using h3⟩
    · exact ⟨trivial, trivial, Nat.zero_le _⟩

theorem absRun_of {M : Nat} : ∀ (l : List Value) (n : Nat) (cs : List Ce), absL M (l.take n) = some cs → n ≤ l.length → ∃ r, absRun M l = cs ++ r
  | l, 0, cs, h, _ => by
    simp only [List.take_zero, absL, Option.some.injEq] at h
    subst h
    exact ⟨_, rfl⟩
  | [], n + 1, cs, h, hn => by simp at hn
  | v :: l, n + 1, cs, h, hn => by
    simp only [List.take_succ_cons, absL, Option.bind_eq_some_iff, Option.map_eq_some_iff] at h
    obtain ⟨c, hc, cs', hcs, rfl⟩ := h
    obtain ⟨r, hr⟩ := absRun_of l n cs' hcs (by simpa using hn)
    refine ⟨r, ?_⟩
    unfold absRun
    rw [hc]
    simp [hr]

theorem absL_con {M : Nat} (hM : 0 < M) : ∀ {l : List Value} {cs : List Ce}, absL M l = some cs → ConL (mapOf M) cs l ∧ noLocL cs ∧ cs.length = l.length
  | [], cs, h => by
    simp only [absL, Option.some.injEq] at h
    subst h
    exact ⟨trivial, trivial, rfl⟩
  | v :: r, cs, h => by
    simp only [absL, Option.bind_eq_some_iff, Option.map_eq_some_iff] at h
    obtain ⟨c, hc, cs', hcs, rfl⟩ := h
    obtain ⟨k1, k2⟩ := absC_con hM hc
    obtain ⟨h1, h2, h3⟩ := absL_con hM hcs
    exact ⟨⟨k1, h1⟩, ⟨k2, h2⟩, by simp [h3]⟩

theorem absL_append {M : Nat} : ∀ {a b : List Value} {x y : List Ce}, absL M a = some x → absL M b = some y → absL M (a ++ b) = some (x ++ y)
  | [], b, x, y, h, k => by
    simp only [absL, Option.some.injEq] at h
    subst h
    exact k
  | v :: a, b, x, y, h, k => by
    simp only [absL, Option.bind_eq_some_iff, Option.map_eq_some_iff] at h
    obtain ⟨c, hc, cs', hcs, rfl⟩ := h
    simp [absL, hc, absL_append hcs k]

theorem heapOf_sim {M : Nat} (hM : 0 < M) : Sim (mapOf M) (heapOf w M).get w := by
  refine ⟨?_, ?_⟩
  · intro q pl r hq hr
    cases q with
    | inl k => simp [mapOf] at hq
    | inr b =>
      simp only [mapOf] at hq
      split at hq
      · rename_i hb
        simp only [Option.some.injEq] at hq
        subst hq
        simp only [Heap.get, heapOf] at hr
        rw [if_pos hb] at hr
        unfold rowOf at hr
        split at hr
        · rename_i cs e fr hc
          split at hr
          · rename_i hO
            simp only [Option.some.injEq] at hr
            subst hr
            obtain ⟨h1, h2, h3⟩ := absRun_con hM (cs.toList.drop (b % M))
            refine ⟨cs, e, fr, hc, ?_, h1, h2, fun h => by cases h⟩
            simp only [List.length_drop, Array.length_toList] at h3
            show b % M + (absRun M (cs.toList.drop (b % M))).length ≤ cs.size
            omega
          · simp at hr
        · simp at hr
      · simp at hq
  · intro q q' pl pl' r r' hne hq hq' hr hr' hrw
    exfalso
    cases q with
    | inl k => simp [mapOf] at hq
    | inr b =>
      simp only [Heap.get, heapOf] at hr
      split at hr
      · unfold rowOf at hr
        split at hr
        · split at hr
          · simp only [Option.some.injEq] at hr
            subst hr
            cases hrw
          · simp at hr
        · simp at hr
      · simp at hr

/-- A bound on a world's blocks and offsets. -/
def Big (w : World) (M : Nat) : Prop := 0 < M ∧ w.heap.size ≤ M ∧ ∀ (B : Nat) (cs : Array Value) (e : TypeId) (fr : Nat × Nat), w.heap[B]? = some (.cells cs e fr) → cs.size ≤ M

theorem big_some (w : World) : ∃ M, Big w M := by
  have : ∀ l : List Obj, ∃ M, ∀ o ∈ l, ∀ (cs : Array Value) (e : TypeId) (fr : Nat × Nat), o = .cells cs e fr → cs.size ≤ M := by
    intro l
    induction l with
    | nil => exact ⟨0, fun o h => by simp at h⟩
    | cons o l ih =>
      obtain ⟨M, hM⟩ := ih
      refine ⟨M + (match o with | .cells cs _ _ => cs.size | _ => 0), fun o' ho' cs e fr hc => ?_⟩
      rcases List.mem_cons.1 ho' with h | h
      · subst h
        subst hc
        simp
      · have := hM o' h cs e fr hc
        omega
  obtain ⟨M, hM⟩ := this w.heap.toList
  refine ⟨M + w.heap.size + 1, by omega, by omega, fun B cs e fr h => ?_⟩
  have := hM _ (Array.mem_toList_iff.2 (Array.mem_of_getElem? h)) cs e fr rfl
  omega

/-- A type whose values can be told. -/
structure Cod (P : Program) (t : TypeId) (α : Type) extends Elt α where
  szok : P.cellsOf t = sz
  pos : 0 < sz
  opn : ∀ {H : Type} {enc : TypeId × Value → H} {w : World} {base : Nat} {spare : Nat → Bool} {held : Bool} {fuel : Nat} {cs : List Value} {x : DataW H × List MemPlace} {M : Nat}, Big w M → DataW.trod enc P w base spare held fuel t cs = some x →
    ∃ l a, absL M cs = some l ∧ l.length = sz ∧ rel (heapOf w M) l a

def Cod.int {t : TypeId} (ht : P.underlying t = some (.int .i64)) (hc : P.cellsOf t = 1) : Cod P t Int where
  sz := 1
  rel := fun _ l n => l = [.int .i64 n] ∧ -9223372036854775808 ≤ n ∧ n ≤ 9223372036854775807
  szok := hc
  pos := by decide
  opn := by
    intro H enc w base spare held fuel cs x M _ h
    obtain ⟨n, rfl, _, hw⟩ := DataW.trod_int ht h
    exact ⟨[.int .i64 n], n, rfl, rfl, rfl, bounds_i64 hw⟩

def Cod.bool {t : TypeId} (ht : P.underlying t = some .bool) (hc : P.cellsOf t = 1) : Cod P t Bool where
  sz := 1
  rel := fun _ l n => l = [.bool n]
  szok := hc
  pos := by decide
  opn := by
    intro H enc w base spare held fuel cs x M _ h
    obtain ⟨n, rfl, _⟩ := DataW.trod_bool ht h
    exact ⟨[.bool n], n, rfl, rfl, rfl⟩

def Cod.str {t : TypeId} (ht : P.underlying t = some .string) (hc : P.cellsOf t = 1) : Cod P t ByteArray where
  sz := 1
  rel := fun _ l n => l = [.str n] ∧ n.size ≤ 9223372036854775807
  szok := hc
  pos := by decide
  opn := by
    intro H enc w base spare held fuel cs x M _ h
    obtain ⟨n, rfl, _, hs⟩ := DataW.trod_string ht h
    exact ⟨[.str n], n, rfl, rfl, rfl, by simpa [maxLen] using hs⟩

theorem absC_slice {M B O n c : Nat} (hn : n ≤ c) (h0 : n ≠ 0) (hB : B < M) (hO : O < M) : absC M (.slice (some ⟨B, O, none⟩) n c) = some (.sl (.inr (B * M + O)) 0 n .any) := by
  unfold absC
  simp [hn, h0, hB, hO]
theorem absC_slice0 {M : Nat} {a : Addr} {c : Nat} : absC M (.slice (some a) 0 c) = some (.sl (.inr 0) 0 0 .any) := by
  unfold absC
  simp

theorem absL_all {M : Nat} (D : Nat → Option (List Ce)) (sz : Nat) : ∀ (n : Nat) (l : List Value), l.length = n * sz → (∀ i, i < n → ∃ cs, D i = some cs ∧ cs.length = sz ∧ absL M ((l.drop (i * sz)).take sz) = some cs) →
    ∃ all, absL M l = some all ∧ all.length = n * sz ∧ ∀ i cs, i < n → D i = some cs → (all.drop (i * sz)).take sz = cs
  | 0, l, hl, _ => by
    have : l = [] := by simpa using hl
    subst this
    exact ⟨[], rfl, by simp, fun i cs hi => by omega⟩
  | n + 1, l, hl, h => by
    have hl1 : (l.take (n * sz)).length = n * sz := by
      rw [List.length_take]
      rw [Nat.succ_mul] at hl
      omega
    obtain ⟨all, h1, h2, h3⟩ := absL_all D sz n (l.take (n * sz)) hl1 (fun i hi => by
      obtain ⟨cs, g1, g2, g3⟩ := h i (by omega)
      refine ⟨cs, g1, g2, ?_⟩
      rw [← g3]
      congr 1
      rw [List.drop_take, List.take_take]
      congr 1
      have : i * sz + sz ≤ n * sz := by
        have := Nat.mul_le_mul_right sz (show i + 1 ≤ n from hi)
        rwa [Nat.succ_mul] at this
      omega)
    obtain ⟨cs, g1, g2, g3⟩ := h n (Nat.lt_succ_self n)
    have hlast : (l.drop (n * sz)).take sz = l.drop (n * sz) := by
      apply List.take_of_length_le
      rw [List.length_drop]
      rw [Nat.succ_mul] at hl
      omega
    rw [hlast] at g3
    refine ⟨all ++ cs, ?_, ?_, ?_⟩
    · have := absL_append h1 g3
      rwa [List.take_append_drop] at this
    · simp [h2, g2, Nat.succ_mul]
    · intro i c hi hc
      by_cases hin : i < n
      · rw [← h3 i c hin hc]
        have : i * sz + sz ≤ n * sz := by
          have := Nat.mul_le_mul_right sz (show i + 1 ≤ n from hin)
          rwa [Nat.succ_mul] at this
        rw [List.drop_append_of_le_length (by omega), List.take_append_of_le_length (by rw [List.length_drop]; omega)]
      · have : i = n := by omega
        subst this
        rw [g1] at hc
        obtain rfl := Option.some.inj hc
        rw [← h2, List.drop_left, ← g2, List.take_length]

theorem cell_block {v : Value} {a : Addr} (h : w.cell? a = some v) : ∃ cs e fr, a.spot = none ∧ w.heap[a.block]? = some (.cells cs e fr) ∧ cs[a.off]? = some v := by
  have hs := World.cell?_spot h
  obtain ⟨B, O, s⟩ := a
  simp only at hs
  subst hs
  unfold World.cell? at h
  simp only at h
  split at h
  all_goals first
    | (rename_i cs e fr hb; exact ⟨cs, e, fr, rfl, hb, h⟩)
    | simp at h

def Cod.slice {t e : TypeId} {β : Type} (ht : P.underlying t = some (.slice e)) (hc : P.cellsOf t = 1) (E : Cod P e β) : Cod P t (List β) where
  sz := 1
  rel := fun h l a => ∃ c, l = [c] ∧ RdSl E.toElt h c a
  szok := hc
  pos := by decide
  opn := by
    intro H enc w base spare held fuel cs x M hM h
    rcases Deep.open_slice ht h with ⟨rfl, _⟩ | ⟨a, len, cap, m, n, D, Pl, rfl, hb, hl, hm, hmm, _, hel⟩
    · exact ⟨[.nils], [], rfl, rfl, .nils, rfl, .inl ⟨rfl, rfl⟩⟩
    · by_cases h0 : len = 0
      · subst h0
        refine ⟨[.sl (.inr 0) 0 0 .any], [], by simp [absL, absC_slice0], rfl, .sl (.inr 0) 0 0 .any, rfl, ?_⟩
        exact .inr (.inl ⟨rfl, rfl⟩)
      · have hlm : len ≤ m := by rw [hmm]; split <;> omega
        rw [E.szok] at hel
        have hall : ∀ i, i < len → ∃ cs' b l, w.cells? base (a.add (i * E.sz)) E.sz = some cs' ∧ absL M cs' = some l ∧ l.length = E.sz ∧ E.rel (heapOf w M) l b := by
          intro i hi
          obtain ⟨cs', h1, h2⟩ := hel i (by omega)
          obtain ⟨l, b, h3, h4, h5⟩ := E.opn hM h2
          exact ⟨cs', b, l, h1, h3, h4, h5⟩
        obtain ⟨cs0, _, _, h1, _⟩ := hall 0 (by omega)
        obtain ⟨_, hlen0, hat0⟩ := World.cells?_some h1
        have hpos := E.pos
        have hc0 := hat0 0 hpos
        rw [show cs0[0]? = some cs0[0] from List.getElem?_eq_getElem (by omega)] at hc0
        obtain ⟨C, ee, fr, hsp, hblk, hoff⟩ := cell_block hc0
        obtain ⟨B, O, sp⟩ := a
        have hsp' : sp = none := by simpa [Addr.add] using hsp
        subst hsp'
        simp only [Nat.zero_mul, Addr.add_lit, Nat.add_zero] at hblk hoff
        have hO : O < M := by
          have h1 := (Array.getElem?_eq_some_iff.1 hoff).1
          have h2 := hM.2.2 B C ee fr hblk
          omega
        have hBM : B < M := by
          have h1 := (Array.getElem?_eq_some_iff.1 hblk).1
          have h2 := hM.2.1
          omega
        -- the cells of the whole slice
        have hcell : ∀ i j, i < len → j < E.sz → ∃ v, C[O + (i * E.sz + j)]? = some v := by
          intro i j hi hj
          obtain ⟨cs', _, _, g1, _⟩ := hall i hi
          obtain ⟨_, gl, gat⟩ := World.cells?_some g1
          have := gat j hj
          rw [show cs'[j]? = some cs'[j] from List.getElem?_eq_getElem (by omega)] at this
          rw [Addr.add_lit, Addr.add_lit, cell_row hblk] at this
          exact ⟨_, by rw [← Nat.add_assoc]; exact this⟩
        have hfit : O + len * E.sz ≤ C.size := by
          obtain ⟨v, hv⟩ := hcell (len - 1) (E.sz - 1) (by omega) (by omega)
          have h1 := (Array.getElem?_eq_some_iff.1 hv).1
          have h2 : (len - 1) * E.sz + E.sz = len * E.sz := by
            rw [← Nat.succ_mul]
            congr 1
            omega
          omega
        have hsame : ∀ i cs', i < len → w.cells? base ((⟨B, O, none⟩ : Addr).add (i * E.sz)) E.sz = some cs' → (((C.toList.drop O).take (len * E.sz)).drop (i * E.sz)).take E.sz = cs' := by
          intro i cs' hi g1
          obtain ⟨_, gl, gat⟩ := World.cells?_some g1
          have hle : i * E.sz + E.sz ≤ len * E.sz := by
            have := Nat.mul_le_mul_right E.sz (show i + 1 ≤ len from hi)
            rwa [Nat.succ_mul] at this
          apply List.ext_getElem?
          intro j
          by_cases hj : j < E.sz
          · rw [List.getElem?_take, if_pos hj, List.getElem?_drop, List.getElem?_take, if_pos (by omega), List.getElem?_drop, ← gat j hj, Addr.add_lit, Addr.add_lit, cell_row hblk]
            simp [Nat.add_assoc]
          · rw [List.getElem?_eq_none (by rw [List.length_take]; omega), List.getElem?_eq_none (by omega)]
        obtain ⟨all, k1, k2, k3⟩ := absL_all (M := M) (fun i => (w.cells? base ((⟨B, O, none⟩ : Addr).add (i * E.sz)) E.sz).bind (absL M)) E.sz len ((C.toList.drop O).take (len * E.sz)) (by rw [List.length_take, List.length_drop, Array.length_toList]; omega) (by
          intro i hi
          obtain ⟨cs', b, l, g1, g2, g3, g4⟩ := hall i hi
          exact ⟨l, by simp [g1, g2], g3, by rw [hsame i cs' hi g1]; exact g2⟩)
        obtain ⟨rest, hrest⟩ := absRun_of (M := M) (C.toList.drop O) (len * E.sz) all k1 (by rw [List.length_drop, Array.length_toList]; omega)
        have hlist : ∀ n, n ≤ len → ∃ asx : List β, asx.length = n ∧ ∀ i b, asx[i]? = some b → i < len ∧ E.rel (heapOf w M) ((all.drop (i * E.sz)).take E.sz) b := by
          intro n
          induction n with
          | zero => exact fun _ => ⟨[], rfl, fun i b h => by simp at h⟩
          | succ n ih =>
            intro hn
            obtain ⟨asx, h1, h2⟩ := ih (by omega)
            obtain ⟨cs', b, l, g1, g2, g3, g4⟩ := hall n (by omega)
            refine ⟨asx ++ [b], by simp [h1], fun i b' hb' => ?_⟩
            by_cases hi : i < asx.length
            · rw [List.getElem?_append_left hi] at hb'
              exact h2 i b' hb'
            · rw [List.getElem?_append_right (by omega)] at hb'
              have : i = n := by
                have := (List.getElem?_eq_some_iff.1 hb').1
                simp at this
                omega
              subst this
              simp [h1] at hb'
              subst hb'
              refine ⟨by omega, ?_⟩
              rw [k3 i l (by omega) (by simp [g1, g2])]
              exact g4
        obtain ⟨asx, hlen, has⟩ := hlist len (Nat.le_refl _)
        refine ⟨[.sl (.inr (B * M + O)) 0 len .any], asx, by simp [absL, absC_slice hl h0 hBM hO], rfl, _, rfl, .inr (.inr ⟨B * M + O, 0, .any, ⟨all ++ rest, 1, false⟩, by rw [hlen], ?_, ?_, ?_, ?_⟩)⟩
        · rw [hlen]
          simp [maxLen] at hm
          omega
        · simp only [heapOf]
          rw [if_pos (key_lt hBM hO), key_div hO, key_mod hO]
          unfold rowOf
          rw [hblk]
          simp only
          rw [if_pos (by omega), hrest]
        · simp only [List.length_append, k2, hlen]
          omega
        · intro i b hb'
          obtain ⟨g1, g2⟩ := has i b hb'
          rw [Nat.zero_add]
          have hle : i * E.sz + E.sz ≤ len * E.sz := by
            have := Nat.mul_le_mul_right E.sz (show i + 1 ≤ len from g1)
            rwa [Nat.succ_mul] at this
          rw [List.drop_append_of_le_length (by omega), List.take_append_of_le_length (by rw [List.length_drop]; omega)]
          exact g2

end Go.Abs

/-
  Readings of structs; a function's arguments; a law's row.
-/

namespace Go.Abs

variable {P : Program} {w : World}

/-- Fields one behind the other. -/
structure CodS (P : Program) (off : Nat) (fs : List Field) (α : Type) where
  sz : Nat
  rel : Heap → List Ce → α → Prop
  opn : ∀ {H : Type} {enc : TypeId × Value → H} {w : World} {base : Nat} {spare : Nat → Bool} {held : Bool} {fuel : Nat} {cs : List Value} {M : Nat}, Big w M →
    (∀ f ∈ fs, ∃ y, DataW.trod enc P w base spare held fuel f.type ((cs.drop f.offset).take (P.cellsOf f.type)) = some y) →
    ∃ l a, absL M ((cs.drop off).take sz) = some l ∧ l.length = sz ∧ rel (heapOf w M) l a

def CodS.nil {off : Nat} : CodS P off [] Unit where
  sz := 0
  rel := fun _ l _ => l = []
  opn := fun _ _ => ⟨[], (), by simp [absL], rfl, rfl⟩

def CodS.cons {off : Nat} {f : Field} {fs : List Field} {α β : Type} (hf : f.offset = off) (E : Cod P f.type α) (F : CodS P (off + E.sz) fs β) : CodS P off (f :: fs) (α × β) where
  sz := E.sz + F.sz
  rel := fun h l a => ∃ x y, l = x ++ y ∧ E.rel h x a.1 ∧ F.rel h y a.2
  opn := by
    intro H enc w base spare held fuel cs M hM h
    obtain ⟨y, hy⟩ := h f (by simp)
    obtain ⟨l, a, h1, h2, h3⟩ := E.opn hM hy
    obtain ⟨l', b, k1, k2, k3⟩ := F.opn (fuel := fuel) (cs := cs) hM (fun g hg => h g (by simp [hg]))
    refine ⟨l ++ l', (a, b), ?_, by simp [h2, k2], l, l', rfl, h3, k3⟩
    rw [List.take_add, List.drop_drop]
    rw [hf, E.szok] at h1
    exact absL_append h1 k1

def Cod.struct {t : TypeId} {fs : Array Field} {α β : Type} (ht : P.underlying t = some (.struct fs)) (F : CodS P 0 fs.toList α) (hc : P.cellsOf t = F.sz) (hp : 0 < F.sz) (g : α → β) (k : β → α) (hk : ∀ a, k (g a) = a) : Cod P t β where
  sz := F.sz
  rel := fun h l b => F.rel h l (k b)
  szok := hc
  pos := hp
  opn := by
    intro H enc w base spare held fuel cs x M hM h
    obtain ⟨xs, n, _, _, hlen, hl, hat⟩ := DataW.trod_struct ht h
    obtain ⟨l, a, h1, h2, h3⟩ := F.opn (fuel := n) (cs := cs) hM (fun f hf => by
      obtain ⟨i, hi⟩ := List.getElem?_of_mem hf
      have hi' : fs[i]? = some f := by simpa using hi
      have hil : i < xs.length := by
        have := (Array.getElem?_eq_some_iff.1 hi').1
        omega
      exact ⟨xs[i], by rw [hat i f hi', List.getElem?_eq_getElem hil]⟩)
    refine ⟨l, g a, ?_, h2, by rw [hk]; exact h3⟩
    rw [List.drop_zero, ← hc, ← hlen, List.take_length] at h1
    exact h1

/-- One argument: its reading as a value of the abstract machine. -/
def RdT {α : Type} (E : Elt α) (one : Bool) (h : Heap) (x : Av) (a : α) : Prop :=
  if one then ∃ c, x = .v (.c c) ∧ E.rel h [c] a else ∃ l, x = .v (.agg l) ∧ E.rel h l a

theorem open_one {t : TypeId} {α : Type} (E : Cod P t α) (hs : E.sz = 1) {H : Type} {enc : TypeId × Value → H} {base : Nat} {spare : Nat → Bool} {held : Bool} {v : Value} {d : DataW H} {ps : List MemPlace} {M : Nat} (hM : Big w M) (hv : v.cells = #[v])
    (h : DataW.Trod enc P w base spare held t v d ps) : ∃ x a, ConA (mapOf M) x v ∧ RdT E.toElt true (heapOf w M) x a := by
  obtain ⟨fuel, hf⟩ := h
  obtain ⟨l, a, h1, h2, h3⟩ := E.opn hM hf
  rw [hv] at h1
  simp only [absL, Option.bind_eq_some_iff, Option.map_eq_some_iff, Option.some.injEq] at h1
  obtain ⟨c, hc, _, rfl, rfl⟩ := h1
  exact ⟨.v (.c c), a, (absC_con hM.1 hc).1, c, rfl, h3⟩

theorem open_many {t : TypeId} {α : Type} (E : Cod P t α) {H : Type} {enc : TypeId × Value → H} {base : Nat} {spare : Nat → Bool} {held : Bool} {v : Value} {d : DataW H} {ps : List MemPlace} {M : Nat} (hM : Big w M) (hv : ∃ cs, v = .agg cs)
    (h : DataW.Trod enc P w base spare held t v d ps) : ∃ x a, ConA (mapOf M) x v ∧ RdT E.toElt false (heapOf w M) x a := by
  obtain ⟨fuel, hf⟩ := h
  obtain ⟨l, a, h1, h2, h3⟩ := E.opn hM hf
  obtain ⟨cs, rfl⟩ := hv
  obtain ⟨k1, k2, k3⟩ := absL_con hM.1 h1
  exact ⟨.v (.agg l), a, ⟨cs.toList, by simp [Value.cells], k1, k2⟩, l, rfl, h3⟩

/-- What a law's abstract function answers, its call answers; and it leaves all that was there alone. -/
theorem law_calls {f : FuncId} {F : Fun} (hs : Sound P f F) {M : Nat} (hM : Big w M) {xs : List Av} {vals : List Value} {b : Bool} {h' : Heap} (hx : ConAs (mapOf M) xs vals) (hF : F xs (heapOf w M) = some (.v (.c (.bool b)), h')) :
    Calls P f vals.toArray w fun e w' => e = .returned (.bool b) ∧ Go.RowKit.Below w.heap.size w w' := by
  refine (hs.run xs (heapOf w M) _ h' (mapOf M) w vals hF (fun k => rfl) ?_ (heapOf_sim hM.1) hx ?_).mono ?_
  · intro k h1 _
    simp only [heapOf] at h1
    simp only [mapOf]
    rw [if_neg (by omega)]
  · intro k h1
    simp only [heapOf] at h1 ⊢
    rw [if_neg (by omega)]
  · rintro e w' ⟨v', μ', rfl, hc, _, _, hfrm, _⟩
    obtain rfl : v' = .bool b := hc
    refine ⟨rfl, hfrm.os, hfrm.tape, hfrm.output, hfrm.size, fun B hB => hfrm.block B hB ?_⟩
    intro q pl r hq hr hrw
    exfalso
    cases q with
    | inl k => simp [mapOf] at hq
    | inr b =>
      simp only [Heap.get, heapOf] at hr
      split at hr
      · unfold rowOf at hr
        split at hr
        · split at hr
          · simp only [Option.some.injEq] at hr
            subst hr
            cases hrw
          · simp at hr
        · simp at hr
      · simp at hr

end Go.Abs
