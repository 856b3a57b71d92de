/-
  Regions of open order whose checks are not empty: evaluated step by step.
-/
import Derived.Test.YtenccnpdaldkfaaB80350
import Derived.Test.YtenccnpdaldkfaaB69a55
import Derived.Test.YtenccnpdaldkfaaB79a77
set_option linter.unusedSimpArgs false
set_option linter.unusedVariables false
namespace Go.Abs

def keyEq (q : Option Key) (a b : St) : Prop :=
  match q with
  | some q => a.get q = b.get q
  | none => True
def hasP : List (Nat × Nat) → Nat → Nat → Bool
  | [], _, _ => false
  | (a, b) :: r, i, j => (a == i && b == j) || hasP r i j
def hasH : List (Nat × Nat) → Nat → Bool
  | [], _ => false
  | (a, _) :: r, i => a == i || hasH r i
def hasL : List (Nat × Nat) → Nat → Bool
  | [], _ => false
  | (_, b) :: r, j => b == j || hasL r j
def chkL (chk : List (Nat × Nat)) (n : Nat) (key : Option Key) : List (Nat × St × St) → Prop
  | [] => True
  | e :: l => (hasP chk e.1 n = true → keyEq key e.2.1 e.2.2) ∧ chkL chk n key l
def chkH (chk : List (Nat × Nat)) (n : Nat) (s s' : St) : List (Nat × Option Key) → Prop
  | [] => True
  | e :: l => (hasP chk n e.1 = true → keyEq e.2 s s') ∧ chkH chk n s s' l
def recK (chk : List (Nat × Nat)) (n : Nat) (key : Option Key) (ks : List (Nat × Option Key)) : List (Nat × Option Key) := if hasL chk n = true then (n, key) :: ks else ks
def recH (chk : List (Nat × Nat)) (n : Nat) (s s' : St) (hs : List (Nat × St × St)) : List (Nat × St × St) := if hasH chk n = true then (n, s, s') :: hs else hs

/-- Operations from the n-th on, with what is to be kept in mind of those ahead. -/
def RD (env : Env) (chk : List (Nat × Nat)) (Q : Ex → X → Prop) : List AO → Nat → List (Nat × Option Key) → List (Nat × St × St) → X → Prop
  | [], _, _, _, p => Q .normal p
  | o :: r, n, ks, hs, p => chkL chk n (lightKey p.1 p.2 o) hs ∧ RW env [o] (fun _ p' => chkH chk n p.2 p'.2 ks ∧ RD env chk Q r (n + 1) (recK chk n (lightKey p.1 p.2 o) ks) (recH chk n p.2 p'.2 hs) p') p

theorem hasP_iff {chk : List (Nat × Nat)} {i j : Nat} : hasP chk i j = true ↔ (i, j) ∈ chk := by
  induction chk with
  | nil => simp [hasP]
  | cons e r ih =>
    obtain ⟨a, b⟩ := e
    simp only [hasP, Bool.or_eq_true, Bool.and_eq_true, beq_iff_eq, List.mem_cons, Prod.mk.injEq, ih]
    constructor
    · rintro (⟨rfl, rfl⟩ | h)
      · exact .inl ⟨rfl, rfl⟩
      · exact .inr h
    · rintro (⟨rfl, rfl⟩ | h)
      · exact .inl ⟨rfl, rfl⟩
      · exact .inr h
theorem hasH_iff {chk : List (Nat × Nat)} {i : Nat} : hasH chk i = true ↔ ∃ j, (i, j) ∈ chk := by
  induction chk with
  | nil => simp [hasH]
  | cons e r ih =>
    obtain ⟨a, b⟩ := e
    simp only [hasH, Bool.or_eq_true, beq_iff_eq, List.mem_cons, Prod.mk.injEq, ih]
    constructor
    · rintro (rfl | ⟨j, h⟩)
      · exact ⟨b, .inl ⟨rfl, rfl⟩⟩
      · exact ⟨j, .inr h⟩
    · rintro ⟨j, ⟨rfl, rfl⟩ | h⟩
      · exact .inl rfl
      · exact .inr ⟨j, h⟩
theorem hasL_iff {chk : List (Nat × Nat)} {j : Nat} : hasL chk j = true ↔ ∃ i, (i, j) ∈ chk := by
  induction chk with
  | nil => simp [hasL]
  | cons e r ih =>
    obtain ⟨a, b⟩ := e
    simp only [hasL, Bool.or_eq_true, beq_iff_eq, List.mem_cons, Prod.mk.injEq, ih]
    constructor
    · rintro (rfl | ⟨j, h⟩)
      · exact ⟨a, .inl ⟨rfl, rfl⟩⟩
      · exact ⟨j, .inr h⟩
    · rintro ⟨j, ⟨rfl, rfl⟩ | h⟩
      · exact .inl rfl
      · exact .inr ⟨j, h⟩
theorem chkL_iff {chk : List (Nat × Nat)} {n : Nat} {key : Option Key} {l : List (Nat × St × St)} : chkL chk n key l ↔ ∀ e, e ∈ l → (e.1, n) ∈ chk → keyEq key e.2.1 e.2.2 := by
  induction l with
  | nil => simp [chkL]
  | cons e l ih => simp only [chkL, hasP_iff, ih, List.forall_mem_cons]
theorem chkH_iff {chk : List (Nat × Nat)} {n : Nat} {s s' : St} {l : List (Nat × Option Key)} : chkH chk n s s' l ↔ ∀ e, e ∈ l → (n, e.1) ∈ chk → keyEq e.2 s s' := by
  induction l with
  | nil => simp [chkH]
  | cons e l ih => simp only [chkH, hasP_iff, ih, List.forall_mem_cons]

theorem RW_one {env : Env} {o : AO} {K : Ex → X → Prop} {p : X} : RW env [o] K p ↔ ∃ p', stepO env o p = some p' ∧ K .normal p' := by
  simp only [RW, runOps]
  constructor
  · rintro ⟨y, h, hk⟩
    simp only [Option.bind_eq_some_iff, Option.some.injEq] at h
    obtain ⟨p', h1, rfl⟩ := h
    exact ⟨p', h1, hk⟩
  · rintro ⟨p', h, hk⟩
    exact ⟨p', by simp [h], hk⟩
theorem trace_len2 {env : Env} : ∀ {ops : List AO} {p : X} {tr : List X}, runTrace env ops p = some tr → tr.length = ops.length + 1 ∧ tr[0]? = some p
  | [], p, tr, h => by
    simp only [runTrace, Option.some.injEq] at h
    subst h; exact ⟨rfl, rfl⟩
  | o :: r, p, tr, h => by
    simp only [runTrace, Option.bind_eq_some_iff, Option.map_eq_some_iff] at h
    obtain ⟨p', h1, tr', h2, rfl⟩ := h
    have := trace_len2 h2
    exact ⟨by simp [this.1], rfl⟩
theorem chkPair_iff {ops : List AO} {tr : List X} {i j : Nat} (hl : tr.length = ops.length + 1) (hi : i < ops.length) (hj : j < ops.length) :
    chkPair ops tr i j ↔ keyEq (lightKey (tr[j]'(by omega)).1 (tr[j]'(by omega)).2 (ops[j]'hj)) (tr[i]'(by omega)).2 (tr[i + 1]'(by omega)).2 := by
  unfold chkPair keyEq
  rw [List.getElem?_eq_getElem (show j < tr.length by omega), List.getElem?_eq_getElem hj, List.getElem?_eq_getElem (show i < tr.length by omega), List.getElem?_eq_getElem (show i + 1 < tr.length by omega)]
  exact Iff.rfl
theorem chkAll_iff {ops : List AO} {tr : List X} : ∀ {chk : List (Nat × Nat)}, chkAll ops tr chk ↔ ∀ i j, (i, j) ∈ chk → chkPair ops tr i j
  | [] => by simp [chkAll]
  | (a, b) :: r => by
    simp only [chkAll, chkAll_iff (chk := r), List.mem_cons, Prod.mk.injEq]
    constructor
    · rintro ⟨h1, h2⟩ i j (⟨rfl, rfl⟩ | h)
      · exact h1
      · exact h2 i j h
    · intro h
      exact ⟨h a b (.inl ⟨rfl, rfl⟩), fun i j k => h i j (.inr k)⟩

/-- What is kept in mind is what was. -/
structure Mind (chk : List (Nat × Nat)) (ops : List AO) (tr : List X) (n : Nat) (ks : List (Nat × Option Key)) (hs : List (Nat × St × St)) : Prop where
  k1 : ∀ e, e ∈ ks → e.1 < n ∧ ∃ a o, tr[e.1]? = some a ∧ ops[e.1]? = some o ∧ e.2 = lightKey a.1 a.2 o
  k2 : ∀ i j, (i, j) ∈ chk → j < n → ∃ k, (j, k) ∈ ks
  h1 : ∀ e, e ∈ hs → e.1 < n ∧ ∃ a b, tr[e.1]? = some a ∧ tr[e.1 + 1]? = some b ∧ e.2 = (a.2, b.2)
  h2 : ∀ i j, (i, j) ∈ chk → i < n → ∃ k, (i, k) ∈ hs

theorem RD_iff {env : Env} {chk : List (Nat × Nat)} {Q : Ex → X → Prop} (ops : List AO) (hin : ∀ i j, (i, j) ∈ chk → i < ops.length ∧ j < ops.length ∧ i ≠ j) : ∀ (r pre : List AO) (tp : List X) (ks : List (Nat × Option Key)) (hs : List (Nat × St × St)) (p : X),
    ops = pre ++ r → tp.length = pre.length → Mind chk ops (tp ++ [p]) pre.length ks hs →
    (RD env chk Q r pre.length ks hs p ↔ ∃ tr, runTrace env r p = some tr ∧ (∀ i j, (i, j) ∈ chk → (pre.length ≤ i ∨ pre.length ≤ j) → chkPair ops (tp ++ tr) i j) ∧ ∃ y, tr[r.length]? = some y ∧ Q .normal y)
  | [], pre, tp, ks, hs, p, ho, hl, hm => by
    simp only [RD, runTrace, Option.some.injEq]
    constructor
    · intro h
      refine ⟨[p], rfl, fun i j hc hq => ?_, p, rfl, h⟩
      have := hin i j hc
      rw [ho] at this
      simp at this
      omega
    · rintro ⟨tr, rfl, _, y, h1, h2⟩
      simp at h1
      subst h1
      exact h2
  | o :: r, pre, tp, ks, hs, p, ho, hl, hm => by
    have ho' : ops = (pre ++ [o]) ++ r := by rw [ho]; simp
    have hn : ops[pre.length]? = some o := by rw [ho]; simp
    have hlp : (pre ++ [o]).length = pre.length + 1 := by simp
    simp only [RD]
    rw [RW_one]
    -- the step
    have key : ∀ p', stepO env o p = some p' → Mind chk ops ((tp ++ [p]) ++ [p']) (pre.length + 1) (recK chk pre.length (lightKey p.1 p.2 o) ks) (recH chk pre.length p.2 p'.2 hs) := by
      intro p' _
      have e0 : ∀ k, k < pre.length + 1 → ((tp ++ [p]) ++ [p'])[k]? = (tp ++ [p])[k]? := fun k hk => List.getElem?_append_left (by simp; omega)
      have e1 : ((tp ++ [p]) ++ [p'])[pre.length]? = some p := by rw [e0 _ (by omega), List.getElem?_append_right (by omega)]; simp [hl]
      have e2 : ((tp ++ [p]) ++ [p'])[pre.length + 1]? = some p' := by rw [List.getElem?_append_right (by simp; omega)]; simp [hl]
      refine ⟨?_, ?_, ?_, ?_⟩
      · intro e he
        have old : e ∈ ks → e.1 < pre.length + 1 ∧ ∃ a o, ((tp ++ [p]) ++ [p'])[e.1]? = some a ∧ ops[e.1]? = some o ∧ e.2 = lightKey a.1 a.2 o := fun he => by
          obtain ⟨h1, a, o', h2, h3, h4⟩ := hm.k1 e he
          exact ⟨by omega, a, o', by rw [e0 _ (by omega)]; exact h2, h3, h4⟩
        unfold recK at he
        split at he
        · rcases List.mem_cons.1 he with rfl | he
          · exact ⟨by simp, p, o, e1, hn, rfl⟩
          · exact old he
        · exact old he
      · intro i j hc hj
        unfold recK
        by_cases hjn : j = pre.length
        · subst hjn
          rw [if_pos (hasL_iff.2 ⟨i, hc⟩)]
          exact ⟨_, List.mem_cons_self⟩
        · obtain ⟨k, hk⟩ := hm.k2 i j hc (by omega)
          refine ⟨k, ?_⟩
          split
          · exact List.mem_cons_of_mem _ hk
          · exact hk
      · intro e he
        have old : e ∈ hs → e.1 < pre.length + 1 ∧ ∃ a b, ((tp ++ [p]) ++ [p'])[e.1]? = some a ∧ ((tp ++ [p]) ++ [p'])[e.1 + 1]? = some b ∧ e.2 = (a.2, b.2) := fun he => by
          obtain ⟨h1, a, b, h2, h3, h4⟩ := hm.h1 e he
          exact ⟨by omega, a, b, by rw [e0 _ (by omega)]; exact h2, by rw [e0 _ (by omega)]; exact h3, h4⟩
        unfold recH at he
        split at he
        · rcases List.mem_cons.1 he with rfl | he
          · exact ⟨by simp, p, p', e1, e2, rfl⟩
          · exact old he
        · exact old he
      · intro i j hc hj
        unfold recH
        by_cases hjn : i = pre.length
        · subst hjn
          rw [if_pos (hasH_iff.2 ⟨j, hc⟩)]
          exact ⟨_, List.mem_cons_self⟩
        · obtain ⟨k, hk⟩ := hm.h2 i j hc (by omega)
          refine ⟨k, ?_⟩
          split
          · exact List.mem_cons_of_mem _ hk
          · exact hk
    have ih := fun (p' : X) (hp : stepO env o p = some p') => RD_iff (env := env) (Q := Q) ops hin r (pre ++ [o]) (tp ++ [p]) (recK chk pre.length (lightKey p.1 p.2 o) ks) (recH chk pre.length p.2 p'.2 hs) p' ho' (by simp [hl]) (by rw [hlp]; exact key p' hp)
    simp only [hlp] at ih
    -- the pairs that meet at this step
    have pairs : ∀ p' tr', stepO env o p = some p' → runTrace env r p' = some tr' → ((chkL chk pre.length (lightKey p.1 p.2 o) hs ∧ chkH chk pre.length p.2 p'.2 ks ∧ ∀ i j, (i, j) ∈ chk → (pre.length + 1 ≤ i ∨ pre.length + 1 ≤ j) → chkPair ops ((tp ++ [p]) ++ tr') i j) ↔
        ∀ i j, (i, j) ∈ chk → (pre.length ≤ i ∨ pre.length ≤ j) → chkPair ops (tp ++ (p :: tr')) i j) := by
      intro p' tr' hp ht
      obtain ⟨hl', h0'⟩ := trace_len2 ht
      have eT : (tp ++ [p]) ++ tr' = tp ++ (p :: tr') := by simp
      rw [eT]
      have hlen : (tp ++ (p :: tr')).length = ops.length + 1 := by rw [ho]; simp [hl', hl]; omega
      have e0 : ∀ k, k < pre.length + 1 → (tp ++ (p :: tr'))[k]? = (tp ++ [p])[k]? := fun k hk => by rw [← eT, List.getElem?_append_left (by simp; omega)]
      have e1 : (tp ++ (p :: tr'))[pre.length]? = some p := by rw [e0 _ (by omega), List.getElem?_append_right (by omega)]; simp [hl]
      have e2 : (tp ++ (p :: tr'))[pre.length + 1]? = some p' := by rw [← eT, List.getElem?_append_right (by simp; omega)]; simpa [hl] using h0'
      have g1 : ∀ (h : pre.length < (tp ++ (p :: tr')).length), (tp ++ (p :: tr'))[pre.length] = p := fun h => by rw [List.getElem?_eq_getElem h] at e1; exact Option.some.inj e1
      have g2 : ∀ (h : pre.length + 1 < (tp ++ (p :: tr')).length), (tp ++ (p :: tr'))[pre.length + 1] = p' := fun h => by rw [List.getElem?_eq_getElem h] at e2; exact Option.some.inj e2
      have g3 : ∀ (h : pre.length < ops.length), ops[pre.length] = o := fun h => by rw [List.getElem?_eq_getElem h] at hn; exact Option.some.inj hn
      have hopl : pre.length < ops.length := by rw [ho]; simp
      constructor
      · rintro ⟨c1, c2, c3⟩ i j hc hq
        by_cases hq' : pre.length + 1 ≤ i ∨ pre.length + 1 ≤ j
        · exact c3 i j hc hq'
        · obtain ⟨hi, hj, hij⟩ := hin i j hc
          rw [chkPair_iff hlen hi hj]
          by_cases hjn : j = pre.length
          · subst hjn
            obtain ⟨k, hk⟩ := hm.h2 i _ hc (by omega)
            obtain ⟨_, a, b, q1, q2, q3⟩ := hm.h1 _ hk
            have := (chkL_iff.1 c1) _ hk hc
            simp only at q1 q2 q3 this
            rw [← e0 _ (by omega), List.getElem?_eq_getElem (by omega)] at q1 q2
            rw [Option.some.inj q1, Option.some.inj q2, g1, g3]
            rw [q3] at this
            exact this
          · have hin' : i = pre.length := by omega
            subst hin'
            obtain ⟨k, hk⟩ := hm.k2 _ j hc (by omega)
            obtain ⟨_, a, o', q1, q2, q3⟩ := hm.k1 _ hk
            have := (chkH_iff.1 c2) _ hk hc
            simp only at q1 q2 q3 this
            rw [← e0 _ (by omega), List.getElem?_eq_getElem (by omega)] at q1
            rw [List.getElem?_eq_getElem hj] at q2
            rw [Option.some.inj q1, Option.some.inj q2, g1, g2, ← q3]
            exact this
      · intro c
        refine ⟨chkL_iff.2 fun e he hc => ?_, chkH_iff.2 fun e he hc => ?_, fun i j hc hq => c i j hc (by omega)⟩
        · obtain ⟨e1', s⟩ := e
          obtain ⟨hi, hj, hij⟩ := hin _ _ hc
          obtain ⟨q0, a, b, q1, q2, q3⟩ := hm.h1 _ he
          simp only at q0 q1 q2 q3 hc hi ⊢
          have := c _ _ hc (.inr (Nat.le_refl _))
          rw [chkPair_iff hlen hi hj] at this
          rw [← e0 _ (by omega), List.getElem?_eq_getElem (by omega)] at q1 q2
          rw [Option.some.inj q1, Option.some.inj q2, g1, g3] at this
          rw [q3]
          exact this
        · obtain ⟨e1', s⟩ := e
          obtain ⟨hi, hj, hij⟩ := hin _ _ hc
          obtain ⟨q0, a, o', q1, q2, q3⟩ := hm.k1 _ he
          simp only at q0 q1 q2 q3 hc hj ⊢
          have := c _ _ hc (.inl (Nat.le_refl _))
          rw [chkPair_iff hlen hi hj] at this
          rw [← e0 _ (by omega), List.getElem?_eq_getElem (by omega)] at q1
          rw [List.getElem?_eq_getElem hj] at q2
          rw [Option.some.inj q1, Option.some.inj q2, g1, g2] at this
          rw [q3]
          exact this
    constructor
    · rintro ⟨c1, p', hp, c2, c3⟩
      obtain ⟨tr', ht, c4, y, hy, hq⟩ := (ih p' hp).1 c3
      refine ⟨p :: tr', by simp [runTrace, hp, ht], (pairs p' tr' hp ht).1 ⟨c1, c2, c4⟩, y, by simpa using hy, hq⟩
    · rintro ⟨tr, ht, c, y, hy, hq⟩
      simp only [runTrace, Option.bind_eq_some_iff, Option.map_eq_some_iff] at ht
      obtain ⟨p', hp, tr', ht, rfl⟩ := ht
      obtain ⟨c1, c2, c3⟩ := (pairs p' tr' hp ht).2 c
      exact ⟨c1, p', hp, c2, (ih p' hp).2 ⟨tr', ht, c3, y, by simpa using hy, hq⟩⟩

def inRange (chk : List (Nat × Nat)) (n : Nat) : Bool := chk.all fun e => decide (e.1 < n) && decide (e.2 < n) && decide (e.1 ≠ e.2)
theorem AW_regDc {env : Env} {Q : Ex → X → Prop} {x : X} {ds : List Nat} {ops : List AO} {chk : List (Nat × Nat)} (hr : inRange chk ops.length = true) : AW env (.regD ds ops chk) Q x = RD env chk Q ops 0 [] [] (kill ds x) := by
  have hin : ∀ i j, (i, j) ∈ chk → i < ops.length ∧ j < ops.length ∧ i ≠ j := by
    intro i j h
    simp only [inRange, List.all_eq_true, Bool.and_eq_true, decide_eq_true_eq] at hr
    have := hr _ h
    exact ⟨this.1.1, this.1.2, this.2⟩
  have h := RD_iff (env := env) (Q := Q) ops hin ops [] [] [] [] (kill ds x) rfl rfl ⟨by simp, fun _ _ _ h => by simp at h, by simp, fun _ _ _ h => by simp at h⟩
  simp only [List.length_nil, List.nil_append, Nat.zero_le, true_or, true_implies] at h
  refine propext ⟨?_, ?_⟩
  · rintro ⟨e, y, h1, hq⟩
    simp only [aexec, runRegD, Option.map_eq_some_iff, Option.bind_eq_some_iff, Prod.mk.injEq] at h1
    obtain ⟨z, ⟨tr, ht, h2⟩, rfl, rfl⟩ := h1
    split at h2
    · rename_i hc
      exact h.2 ⟨tr, ht, fun i j k => chkAll_iff.1 hc i j k, z, h2, hq⟩
    · cases h2
  · intro k
    obtain ⟨tr, ht, hc, y, hy, hq⟩ := h.1 k
    have hc' := chkAll_iff.2 hc
    refine ⟨.normal, y, ?_, hq⟩
    simp only [aexec, runRegD, ht, Option.bind_some]
    rw [if_pos hc', hy]
    rfl
theorem RD_nil {env : Env} {chk : List (Nat × Nat)} {Q : Ex → X → Prop} {n : Nat} {ks : List (Nat × Option Key)} {hs : List (Nat × St × St)} {p : X} : RD env chk Q [] n ks hs p = Q .normal p := rfl
theorem RD_cons {env : Env} {chk : List (Nat × Nat)} {Q : Ex → X → Prop} {o : AO} {r : List AO} {n : Nat} {ks : List (Nat × Option Key)} {hs : List (Nat × St × St)} {T : Nat → Av} {s : St} : RD env chk Q (o :: r) n ks hs (T, s) = (chkL chk n (lightKey T s o) hs ∧ RW env [o] (fun _ p' => chkH chk n s p'.2 ks ∧ RD env chk Q r (n + 1) (recK chk n (lightKey T s o) ks) (recH chk n s p'.2 hs) p') (T, s)) := rfl

theorem BookC.len (c : BookC) : c.ces.length = 3 := rfl
theorem BookC.take (c : BookC) : c.ces.take 3 = c.ces := rfl
theorem WishC.len (c : WishC) : c.ces.length = 8 := rfl
theorem WishC.take (c : WishC) : c.ces.take 8 = c.ces := rfl

end Go.Abs

/-
  Tubes later; what is asked; the first that is free: the specification's side.
-/

namespace Go.Abs
set_option linter.unusedSimpArgs false
set_option linter.unusedVariables false
attribute [local simp] AW_skip AW_exit AW_ret AW_seq AW_block AW_cond CW_ite AW_reg AW_regD AW_regDc RD_nil RD_cons keyEq hasP hasH hasL chkL chkH recK recH inRange lightKey BookC.len BookC.take WishC.len WishC.take RW_nil RW_cons RW_guard GW_t GW_f GW_gt GW_gf GW_tup GY_some GY_tt GY_ff gd_t gd_f pk_t pk_f pk_and pk_or pk_andc pk_orc pk_bool gd_gd SW_some ThenQ_normal ThenQ_exit ThenQ_ret BlockQ_normal BlockQ_exit BlockQ_ret kill_nil kill_cons killT_at killL_at upo_some upo_none ev_t ev_k FinQ_ret FinQ_normal upd_eq upd_ne argsT_zero argsT_succ aop.eq_1 aop_pick aop.eq_3 aop.eq_4 aop.eq_5 aop.eq_6 aop.eq_7 aop.eq_8 aop.eq_9 aop.eq_10 aop.eq_11 aop.eq_12 aop.eq_13 aop.eq_14 aop.eq_15 aop.eq_16 aop.eq_17 aop.eq_18 aop.eq_19 aop.eq_20 aop.eq_21 aop_slice_hi aop_slice_lo aop.eq_23 aop.eq_24 aop.eq_26 aop.eq_27 aop.eq_28 aop.eq_29 aop.eq_31 aop.eq_32 aop_maxs2 aop_mins2 aop_mins3 aop_len aop_iaddr Av.bool? Av.ptr? Av.int? Av.int64? Av.str? Av.agg? ressA resA resOf noLoc_int noLoc_bool noLoc_str noLoc_nils noLoc_nilp noLoc_ptrl noLoc_ptrr noLoc_sll noLoc_slr noLoc_fn noLoc_tc noLoc_tagg noLoc_av noLoc_atup ce_c tv_v cells_c cells_agg noLocs keyLoc evs callA St.set St.get unAv binCe killV_int killV_bool killV_str killV_nils killV_nilp killV_agg killV_no killV_tup killV_ptrl killV_ptrr killV_sll killV_slr killV_fn killV_noLoc fillA repl
attribute [local congr] GY_congr
def laterB (d : Int) (t : List Box) : List Box := t.map fun b => { b with tin := wrap64 (b.tin + d), tout := wrap64 (b.tout + d) }
def canB (b : Book) (n : ByteArray) (t : List Box) (d : Int) : Bool := tubeOkB b.fields (laterB d t) && freeB b n (laterB d t)
def askedB (b : Book) (t : List Box) (most : Int) : Bool := bookOkB b && tubeOkB b.fields t && inB most 0 300

theorem append_copy {α : Type} {F : Fl α} {S : Nat → Prop} {h : Heap} {c : Ce} {l : List α} (ho : HOk h) (hc : RdF F S h c l) (hl : l.length ≤ lim) :
    ∃ c' h' fp, NewF F h h' c' l fp ∧ ∀ lc, appendA ⟨h.push ⟨[], F.sz, true⟩, lc⟩ F.sz (.sl (.inr h.nx) 0 0 .own) c = some (c', ⟨h', lc⟩) := by
  have n0 := NewF.push (F := F) ho ([] : List α) 0 rfl
  have hc' := hc.keep ho n0.fr
  obtain ⟨c'', h'', fp'', h1, _, _, _, h5⟩ := n0.appends l (by simpa using hl)
  exact ⟨c'', h'', fp'', h1, fun lc => h5 lc c (hc'.elemsA lc) hc'.slen⟩
theorem spec_l2Tube {S : Nat → Prop} (h : Heap) (c : Ce) (l : List Box) (ho : HOk h) (hc : RdF fBox S h c l) (hl : l.length ≤ 1048576) :
    ∃ c' h' fp, Fspec_l2Tube [.v (.c c)] h = some (.v (.c c'), h') ∧ NewF fBox h h' c' l fp := by
  unfold Fspec_l2Tube
  obtain ⟨c', h', fp, nw, hap⟩ := append_copy ho hc (by simp only [lim]; omega)
  simp only [show fBox.sz = 6 from rfl] at hap
  refine ⟨c', h', fp, runF_eq ?_, nw⟩
  simp [cspec_l2Tube, hc.noLoc, nw.own.noLoc, St.push, hap]
theorem spec_l3Later {S : Nat → Prop} (h : Heap) (c : Ce) (l : List Box) (d : Int) (ho : HOk h) (hc : RdF fBox S h c l) (hl : l.length ≤ 1048576) :
    ∃ c' h' fp, Fspec_l3Later [.v (.c c), .v (.c (.int .i64 d))] h = some (.v (.c c'), h') ∧ NewF fBox h h' c' (laterB d l) fp := by
  unfold Fspec_l3Later
  obtain ⟨c1, h1, fp1, t1, nw⟩ := spec_l2Tube h c l ho hc hl
  have hle : ∀ i, (l.take i ++ l.drop i).length = l.length := by intro i; simp
  rcases nw.own with ⟨rfl, rfl, rfl⟩ | ⟨b, rfl, hb, rfl⟩
  · refine ⟨.nils, h1, [], runF_eq ?_, by simpa [laterB] using nw⟩
    simp [cspec_l3Later, hc.noLoc, espec_l3Later_spec_l2Tube, t1]
    refine AW_each 0 (fun i x => x.1 5 = .v (.c .nils) ∧ x.1 6 = .v (.c (.int .i64 0)) ∧ x.2 = ⟨h1, nol⟩) (by simp) (by intros; omega) ?_
    rintro ⟨T, s⟩ ⟨h5, h6, rfl⟩
    simp only at h5 h6
    simp [cspec_l3Later_L0, h5, h6, Ce.slen]
  · have hblt := nw.own.lt nw.fr.ok (b := b) (by simp)
    have hge := nw.ge b (by simp)
    refine ⟨.sl (.inr b) 0 l.length .own, ⟨h1.nx, upd h1.hp b (some ⟨fBox.all (laterB d l), 6, true⟩)⟩, [b], runF_eq ?_, ⟨.inr ⟨b, by simp [laterB], by simp [upd, fBox], rfl⟩, ?_, by simpa using hge⟩⟩
    · simp [cspec_l3Later, hc.noLoc, espec_l3Later_spec_l2Tube, t1]
      refine AW_each l.length (fun i x => x.1 1 = .v (.c (.int .i64 d)) ∧ x.1 5 = .v (.c (.sl (.inr b) 0 l.length .own)) ∧ x.1 6 = .v (.c (.int .i64 i)) ∧ x.2 = ⟨⟨h1.nx, upd h1.hp b (some ⟨fBox.all ((laterB d l).take i ++ l.drop i), 6, true⟩)⟩, nol⟩) ?_ ?_ ?_
      · have := upd_same hb
        simp only [show fBox.sz = 6 from rfl] at this
        simp [this]
      · rintro i ⟨T, s⟩ hin ⟨h1', h5, h6, rfl⟩
        simp only at h1' h5 h6
        have hll : (laterB d l).length = l.length := by simp [laterB]
        obtain ⟨L, hL⟩ : ∃ L, L = (laterB d l).take i ++ l.drop i := ⟨_, rfl⟩
        rw [← hL]
        have hiL : i < L.length := by rw [hL]; simp [hll]; omega
        have hLi : L[i] = l[i] := by
          simp only [hL]
          rw [List.getElem_append_right (by simp; omega)]
          simp [hll, Nat.min_eq_left (Nat.le_of_lt hin)]
        have hlen : (fBox.all L).length = l.length * 6 := by rw [fBox.all_length, hL]; simp [fBox, hll]; omega
        have hlenS : ∀ B, (fBox.all (L.set i B)).length = l.length * 6 := by intro B; rw [fBox.all_length, List.length_set, ← fBox.all_length, hlen]
        have s4 := fBox.all_set L (i := i) (k := 4) hiL (by decide) (b := { l[i] with tin := wrap64 (l[i].tin + d) }) (v := .int .i64 (wrap64 (l[i].tin + d))) (by simp [fBox, hLi])
        have s5 := fBox.all_set (L.set i { l[i] with tin := wrap64 (l[i].tin + d) }) (i := i) (k := 5) (by simpa using hiL) (by decide) (b := { l[i] with tin := wrap64 (l[i].tin + d), tout := wrap64 (l[i].tout + d) }) (v := .int .i64 (wrap64 (l[i].tout + d))) (by simp [fBox])
        rw [List.set_set] at s5
        have c4 := fBox.all_cell L (i := i) (k := 4) hiL (by decide)
        have c5 := fBox.all_cell (L.set i { l[i] with tin := wrap64 (l[i].tin + d) }) (i := i) (k := 5) (by simpa using hiL) (by decide)
        simp only [show fBox.sz = 6 from rfl, Nat.add_assoc, Nat.reduceAdd] at s4 s5 c4 c5
        have c4' : (fBox.all L)[i * 6 + 4]? = some (.int .i64 l[i].tin) := by rw [c4, hLi]; rfl
        have c5' : (fBox.all (L.set i { l[i] with tin := wrap64 (l[i].tin + d) }))[i * 6 + 5]? = some (.int .i64 l[i].tout) := by rw [c5, List.getElem_set_self]; rfl
        have g4 := hlenS { l[i] with tin := wrap64 (l[i].tin + d) }
        have q5 : i * 6 + 5 ≤ l.length * 6 := by omega
        have q6 : i * 6 + 6 ≤ l.length * 6 := by omega
        have hw := wrap1 (i := i) (by omega)
        have he2 : (Ce.sl (Sum.inr b) 0 l.length .own).eltAt 6 i = some (.inr b, i * 6) := by simp [Ce.eltAt, hin]
        have hend : L.set i { l[i] with tin := wrap64 (l[i].tin + d), tout := wrap64 (l[i].tout + d) } = (laterB d l).take (i + 1) ++ l.drop (i + 1) := by
          rw [hL, ← take_drop_set _ _ hin (by rw [hll]; omega)]
          simp [laterB]
        unfold wrap64 at s4 s5 c5' g4 hend
        simp [cspec_l3Later_L0, h1', h5, h6, Ce.slen, hin, he2, upd_upd, hlen, c4', s4, g4, c5', s5, q5, q6, hw]
        rw [hend]
      · rintro ⟨T, s⟩ ⟨h1', h5, h6, rfl⟩
        simp only at h1' h5 h6
        have e1 : (laterB d l).take l.length = laterB d l := List.take_of_length_le (by simp [laterB])
        simp [cspec_l3Later_L0, h1', h5, h6, Ce.slen, e1]
    · have c1 := Chg.one nw.fr.ok hblt (some ⟨fBox.all (laterB d l), 6, true⟩)
      refine ⟨Nat.le_trans nw.fr.nx c1.nx, fun x hx => ?_, c1.ok⟩
      rw [c1.hp x (Nat.lt_of_lt_of_le hx nw.fr.nx) (by simp; omega)]
      exact nw.fr.hp x hx

theorem laterB_length (d : Int) (t : List Box) : (laterB d t).length = t.length := by simp [laterB]
theorem spec_l3Can {S S' : Nat → Prop} (h : Heap) (c : BookC) (b : Book) (n : ByteArray) (ct : Ce) (t : List Box) (d : Int) (ho : HOk h) (hr : RdBook S h c b) (ht : RdF fBox S' h ct t) (hl : t.length ≤ 1048576) :
    ∃ h', Fspec_l3Can [.v (.agg c.ces), .v (.c (.str n)), .v (.c ct), .v (.c (.int .i64 d))] h = some (.v (.c (.bool (canB b n t d))), h') ∧ Fr h h' := by
  unfold Fspec_l3Can canB
  obtain ⟨c1, h1, fp1, t1, nw⟩ := spec_l3Later h ct t d ho ht hl
  have hx := nw.rd (by rw [laterB_length]; omega)
  have hr1 := hr.keep ho nw.fr
  have T1 := spec_GiveTubeOk h1 _ _ _ _ hr1.f hx
  have F1 := spec_l3Free h1 c b n c1 _ hr1 hx
  have hf := hr.f.noLoc
  refine ⟨h1, runF_eq ?_, nw.fr⟩
  have hcf : c.ces[1]? = some c.f := rfl
  simp +contextual [cspec_l3Can, ht.noLoc, hf, hcf, nw.own.noLoc, espec_l3Can_spec_l3Later, espec_l3Can_spec_GiveTubeOk, espec_l3Can_spec_l3Free, t1, T1, F1]
theorem spec_l3Asked {S S' : Nat → Prop} (h : Heap) (c : BookC) (b : Book) (ct : Ce) (t : List Box) (most : Int) (hr : RdBook S h c b) (hw : BookWf b) (ht : RdF fBox S' h ct t) :
    Fspec_l3Asked [.v (.agg c.ces), .v (.c ct), .v (.c (.int .i64 most))] h = some (.v (.c (.bool (askedB b t most))), h) := by
  unfold Fspec_l3Asked askedB
  have B := spec_GiveBookOk h c b hr hw
  have T1 := spec_GiveTubeOk h _ _ _ _ hr.f ht
  have hf := hr.f.noLoc
  have hcf : c.ces[1]? = some c.f := rfl
  refine runF_eq ?_
  simp +contextual [cspec_l3Asked, ht.noLoc, hf, hcf, espec_l3Asked_spec_GiveBookOk, espec_l3Asked_spec_GiveTubeOk, espec_l3Asked_spec_l1In, spec_l1In, B, T1, Bool.and_assoc]
/-- The first below n that p lets by. -/
def firstN (n : Nat) (p : Nat → Bool) : Option Nat := (List.range n).find? p
theorem firstN_some {n i : Nat} {p : Nat → Bool} (hi : i < n) (hp : p i = true) (h : ∀ j, j < i → p j = false) : firstN n p = some i := by
  unfold firstN
  rw [List.find?_eq_some_iff_getElem]
  refine ⟨hp, i, by simpa using hi, by simp, fun j hj => by simp [h j hj]⟩
theorem firstN_none {n : Nat} {p : Nat → Bool} (h : ∀ j, j < n → p j = false) : firstN n p = none := by
  unfold firstN
  rw [List.find?_eq_none]
  intro x hx
  simp at hx
  simp [h x hx]
def earlB (b : Book) (n : ByteArray) (t : List Box) (most : Int) : Option Nat := if askedB b t most = true then firstN (most.toNat + 1) (fun d => canB b n t d) else none

theorem spec_GiveEarliest {S S' : Nat → Prop} (h : Heap) (c : BookC) (b : Book) (n : ByteArray) (ct : Ce) (t : List Box) (most : Int) (ho : HOk h) (hr : RdBook S h c b) (hw : BookWf b) (ht : RdF fBox S' h ct t) (hl : t.length ≤ 1048576) :
    ∃ h', Fspec_GiveEarliest [.v (.agg c.ces), .v (.c (.str n)), .v (.c ct), .v (.c (.int .i64 most))] h = some (.tup [.c (.int .i64 (((earlB b n t most).getD 0 : Nat) : Int)), .c (.bool (earlB b n t most).isSome)], h') ∧ Fr h h' := by
  unfold Fspec_GiveEarliest
  have A := spec_l3Asked h c b ct t most hr hw ht
  cases ha : askedB b t most
  · rw [ha] at A
    have : earlB b n t most = none := by simp [earlB, ha]
    refine ⟨h, runF_eq ?_, Fr.refl ho⟩
    simp [cspec_GiveEarliest, ht.noLoc, espec_GiveEarliest_spec_l3Asked, A, this]
  rw [ha] at A
  have hm : 0 ≤ most ∧ most ≤ 300 := by
    simp only [askedB, inB, Bool.and_eq_true, decide_eq_true_eq] at ha
    exact ha.2
  have he : earlB b n t most = firstN (most.toNat + 1) (fun d => canB b n t d) := by simp [earlB, ha]
  obtain ⟨v, h', h1, rfl, h2⟩ := runF_of (env := espec_GiveEarliest) (code := cspec_GiveEarliest) (rs := [.t 8, .t 9]) (args := [.v (.agg c.ces), .v (.c (.str n)), .v (.c ct), .v (.c (.int .i64 most))]) (h := h) (K := fun v h' => v = .tup [.c (.int .i64 (((earlB b n t most).getD 0 : Nat) : Int)), .c (.bool (earlB b n t most).isSome)] ∧ Fr h h') (by
    simp [cspec_GiveEarliest, ht.noLoc, espec_GiveEarliest_spec_l3Asked, A]
    refine AW_for1 (most.toNat + 1) (fun d => canB b n t d) (fun i x => x.1 1 = .v (.c (.str n)) ∧ x.1 2 = .v (.c ct) ∧ x.1 3 = .v (.c (.int .i64 most)) ∧ x.1 4 = .v (.c (.ptr (.inl 4) 0)) ∧ x.1 10 = .v (.c (.int .i64 i)) ∧ x.2.lc 4 = some ⟨c.ces, 3, true⟩ ∧ Fr h x.2.h) (by simp [Fr.refl ho, ht.noLoc]) ?_ ?_
    · rintro i ⟨T, ⟨h', lc⟩⟩ hin hpre ⟨h1, h2, h3, h4, h10, hl4, fr⟩
      simp only at h1 h2 h3 h4 h10 hl4 fr
      obtain ⟨h'', C, fr2⟩ := spec_l3Can h' c b n ct t i fr.ok (hr.keep ho fr) (ht.keep ho fr) hl
      have hle : (i : Int) ≤ most := by omega
      have hw1 := wrap1 (i := i) (by omega)
      cases hc : canB b n t i
      · rw [hc] at C
        simp [cspec_GiveEarliest_L0, h1, h2, h3, h4, h10, hl4, ht.noLoc, hle, espec_GiveEarliest_spec_l3Can, C, hw1, fr.trans fr2]
      · rw [hc] at C
        have := firstN_some (p := fun d => canB b n t d) hin hc hpre
        rw [← he] at this
        simp [cspec_GiveEarliest_L0, h1, h2, h3, h4, h10, hl4, ht.noLoc, hle, espec_GiveEarliest_spec_l3Can, C, this, fr.trans fr2]
    · rintro ⟨T, ⟨h', lc⟩⟩ hno ⟨h1, h2, h3, h4, h10, hl4, fr⟩
      simp only at h1 h2 h3 h4 h10 hl4 fr
      have hle : ¬ (max most 0 + 1 ≤ most) := by omega
      have := firstN_none (p := fun d => canB b n t d) hno
      rw [← he] at this
      simp [cspec_GiveEarliest_L0, h3, h10, hle, this, fr])
  exact ⟨h', h1, h2⟩
end Go.Abs

/-
  What is barred: the program's walk.
-/

namespace Go.Abs
set_option linter.unusedSimpArgs false
set_option linter.unusedVariables false
attribute [local simp] AW_skip AW_exit AW_ret AW_seq AW_block AW_cond CW_ite AW_reg AW_regD AW_regDc RD_nil RD_cons keyEq hasP hasH hasL chkL chkH recK recH inRange lightKey BookC.len BookC.take WishC.len WishC.take RW_nil RW_cons RW_guard GW_t GW_f GW_gt GW_gf GW_tup GY_some GY_tt GY_ff gd_t gd_f pk_t pk_f pk_and pk_or pk_andc pk_orc pk_bool gd_gd SW_some ThenQ_normal ThenQ_exit ThenQ_ret BlockQ_normal BlockQ_exit BlockQ_ret kill_nil kill_cons killT_at killL_at upo_some upo_none ev_t ev_k FinQ_ret FinQ_normal upd_eq upd_ne argsT_zero argsT_succ aop.eq_1 aop_pick aop.eq_3 aop.eq_4 aop.eq_5 aop.eq_6 aop.eq_7 aop.eq_8 aop.eq_9 aop.eq_10 aop.eq_11 aop.eq_12 aop.eq_13 aop.eq_14 aop.eq_15 aop.eq_16 aop.eq_17 aop.eq_18 aop.eq_19 aop.eq_20 aop.eq_21 aop_slice_hi aop_slice_lo aop.eq_23 aop.eq_24 aop.eq_26 aop.eq_27 aop.eq_28 aop.eq_29 aop.eq_31 aop.eq_32 aop_maxs2 aop_mins2 aop_mins3 aop_len aop_iaddr Av.bool? Av.ptr? Av.int? Av.int64? Av.str? Av.agg? ressA resA resOf noLoc_int noLoc_bool noLoc_str noLoc_nils noLoc_nilp noLoc_ptrl noLoc_ptrr noLoc_sll noLoc_slr noLoc_fn noLoc_tc noLoc_tagg noLoc_av noLoc_atup ce_c tv_v cells_c cells_agg noLocs keyLoc evs callA St.set St.get unAv binCe killV_int killV_bool killV_str killV_nils killV_nilp killV_agg killV_no killV_tup killV_ptrl killV_ptrr killV_sll killV_slr killV_fn killV_noLoc fillA repl ptrs List.map
attribute [local congr] GY_congr
def boolL (m : Nat) (f : Nat → Bool) : List Bool := (List.range (m + 1)).map f
theorem boolL_length (m : Nat) (f : Nat → Bool) : (boolL m f).length = m + 1 := by simp [boolL]
theorem boolL_set {m d : Nat} {f : Nat → Bool} (hd : d ≤ m) : (boolL m f).set d true = boolL m (fun x => f x || x == d) := by
  apply List.ext_getElem
  · simp [boolL]
  · intro i h1 h2
    simp [boolL, List.getElem_set]
    by_cases hid : d = i
    · simp [hid]
    · simp [hid, Ne.symm hid]
theorem boolL_congr {m : Nat} {f g : Nat → Bool} (h : ∀ d, d ≤ m → f d = g d) : boolL m f = boolL m g := by
  apply List.map_congr_left
  intro d hd
  simp at hd
  exact h d (by omega)
def barF (lo hi : Int) (f : Nat → Bool) : Nat → Bool := fun d => f d || (decide (lo ≤ (d : Int)) && decide ((d : Int) ≤ hi))

/-- The memory of the bars: most, the variable that holds them, and they themselves. -/
structure BarSt (h : Heap) (m bm bo q : Nat) (H : Heap) (f : Nat → Bool) : Prop where
  fr : Fr h H
  rm : H.hp bm = some ⟨[.int .i64 m], 1, true⟩
  ro : H.hp bo = some ⟨[.sl (.inr q) 0 (m + 1) .own], 1, true⟩
  rq : H.hp q = some ⟨fBool.all (boolL m f), 1, true⟩
  gm : h.nx ≤ bm
  go : h.nx ≤ bo
  gq : h.nx ≤ q
  n1 : bm ≠ q
  n2 : bo ≠ q
  n3 : bm ≠ bo
theorem BarSt.set {h : Heap} {m bm bo q : Nat} {H : Heap} {f : Nat → Bool} (s : BarSt h m bm bo q H f) (g : Nat → Bool) : BarSt h m bm bo q ⟨H.nx, upd H.hp q (some ⟨fBool.all (boolL m g), 1, true⟩)⟩ g := by
  have c := Chg.one s.fr.ok (s.fr.ok.lt s.rq) (some ⟨fBool.all (boolL m g), 1, true⟩)
  have q1 := s.gq
  refine ⟨⟨Nat.le_trans s.fr.nx c.nx, fun x hx => ?_, c.ok⟩, ?_, ?_, by simp [upd], s.gm, s.go, s.gq, s.n1, s.n2, s.n3⟩
  · rw [c.hp x (Nat.lt_of_lt_of_le hx s.fr.nx) (by simp; omega)]
    exact s.fr.hp x hx
  · simp only [upd]; rw [if_neg s.n1]; exact s.rm
  · simp only [upd]; rw [if_neg s.n2]; exact s.ro
theorem BarSt.frame {h : Heap} {m bm bo q : Nat} {H H' : Heap} {f : Nat → Bool} (s : BarSt h m bm bo q H f) (k : Fr H H') : BarSt h m bm bo q H' f :=
  ⟨s.fr.trans k, by rw [k.hp _ (s.fr.ok.lt s.rm)]; exact s.rm, by rw [k.hp _ (s.fr.ok.lt s.ro)]; exact s.ro, by rw [k.hp _ (s.fr.ok.lt s.rq)]; exact s.rq, s.gm, s.go, s.gq, s.n1, s.n2, s.n3⟩

theorem impl_barred_1 {h : Heap} {m bm bo q : Nat} {H : Heap} {f : Nat → Bool} (s : BarSt h m bm bo q H f) (lo hi : Int) (hm : m ≤ 300) (hlo : lo ≤ 1000000) :
    ∃ H', Fimpl_GiveBook_barred_1 [.v (.c (.int .i64 lo)), .v (.c (.int .i64 hi)), .v (.c (.ptr (.inr bm) 0)), .v (.c (.ptr (.inr bo) 0))] H = some (.tup [], H') ∧ BarSt h m bm bo q H' (barF lo hi f) ∧ Chg [q] H H' := by
  unfold Fimpl_GiveBook_barred_1
  have hql := s.fr.ok.lt s.rq
  obtain ⟨d0, hd0⟩ : ∃ d0 : Nat, (d0 : Int) = max2 lo 0 := ⟨(max2 lo 0).toNat, by rw [max2_eq]; omega⟩
  have hd1 : (d0 : Int) = max lo 0 := by rw [hd0, max2_eq]
  let F : Nat → Nat → Bool := fun k x => f x || (decide (d0 ≤ x) && decide (x < d0 + k))
  have hF0 : boolL m f = boolL m (F 0) := boolL_congr fun x _ => by
    have : (decide (d0 ≤ x) && decide (x < d0 + 0)) = false := by simp
    simp only [F, this, Bool.or_false]
  have hend : ∀ k, ((¬ ((d0 + k : Nat) : Int) ≤ hi) ∨ m < d0 + k) → (∀ j, j < k → ((d0 + j : Nat) : Int) ≤ hi) → boolL m (F k) = boolL m (barF lo hi f) := by
    intro k h1 h2
    apply boolL_congr
    intro x hx
    simp only [F, barF]
    congr 1
    rw [Bool.eq_iff_iff]
    simp only [Bool.and_eq_true, decide_eq_true_eq]
    constructor
    · rintro ⟨a1, a2⟩
      have := h2 (x - d0) (by omega)
      omega
    · rintro ⟨a1, a2⟩
      refine ⟨by omega, ?_⟩
      rcases h1 with h1 | h1
      · omega
      · omega
  refine ⟨_, runF_eq (h' := ⟨H.nx, upd H.hp q (some ⟨fBool.all (boolL m (barF lo hi f)), 1, true⟩)⟩) ?_, s.set _, Chg.one s.fr.ok hql _⟩
  have hI0 : (⟨H.nx, upd H.hp q (some ⟨fBool.all (boolL m (F 0)), 1, true⟩)⟩ : Heap) = H := by
    have := upd_same (f := H.hp) (i := q) s.rq
    rw [hF0] at this
    rw [this]
  simp [cimpl_GiveBook_barred_1, ← hd0]
  refine AW_for1 (m + 1) (fun i => decide (¬ (((d0 + i : Nat) : Int) ≤ hi)) || decide (m < d0 + i)) (fun i x => x.1 1 = .v (.c (.int .i64 hi)) ∧ x.1 2 = .v (.c (.ptr (.inr bm) 0)) ∧ x.1 3 = .v (.c (.ptr (.inr bo) 0)) ∧ x.1 6 = .v (.c (.int .i64 ((d0 + i : Nat) : Int))) ∧ x.2.h = ⟨H.nx, upd H.hp q (some ⟨fBool.all (boolL m (F i)), 1, true⟩)⟩) ?_ ?_ ?_
  · rw [hI0]
    simp
  · rintro i ⟨T, ⟨h', lc⟩⟩ hin hpre ⟨h1, h2, h3, h6, hs⟩
    simp only at h1 h2 h3 h6 hs
    subst hs
    have e1 : ∀ X, upd H.hp q X bm = some ⟨[.int .i64 m], 1, true⟩ := by intro X; simp only [upd]; rw [if_neg s.n1]; exact s.rm
    have e2 : ∀ X, upd H.hp q X bo = some ⟨[.sl (.inr q) 0 (m + 1) .own], 1, true⟩ := by intro X; simp only [upd]; rw [if_neg s.n2]; exact s.ro
    have hwd : IntKind.i64.wrap (((d0 + i : Nat) : Int) + 1) = ((d0 + (i + 1) : Nat) : Int) := by
      rw [wrap1 (by omega)]; rfl
    by_cases a1 : ((d0 + i : Nat) : Int) ≤ hi
    · by_cases a2 : d0 + i ≤ m
      · have he2 : (Ce.sl (Sum.inr q) 0 (m + 1) .own).eltAt 1 ((d0 + i : Nat) : Int) = some (.inr q, d0 + i) := by
          simp only [Ce.eltAt]
          rw [if_pos ⟨by omega, by omega⟩, Int.toNat_natCast, Nat.zero_add, Nat.mul_one]
        have hlen : (fBool.all (boolL m (F i))).length = m + 1 := by rw [fBool.all_length, boolL_length]; simp [fBool]
        have hset := fBool.all_set (boolL m (F i)) (i := d0 + i) (k := 0) (by rw [boolL_length]; omega) (by decide) (b := true) (v := .bool true) (by simp [fBool])
        rw [boolL_set a2] at hset
        have hFs : boolL m (fun x => F i x || x == d0 + i) = boolL m (F (i + 1)) := boolL_congr fun x _ => by
          simp only [F]
          rw [Bool.eq_iff_iff]
          simp only [Bool.or_eq_true, Bool.and_eq_true, decide_eq_true_eq, beq_iff_eq]
          constructor
          · rintro ((k | ⟨k1, k2⟩) | k)
            · exact .inl k
            · exact .inr ⟨k1, by omega⟩
            · exact .inr ⟨by omega, by omega⟩
          · rintro (k | ⟨k1, k2⟩)
            · exact .inl (.inl k)
            · by_cases hx : x = d0 + i
              · exact .inr hx
              · exact .inl (.inr ⟨k1, by omega⟩)
        rw [hFs] at hset
        simp only [show fBool.sz = 1 from rfl, Nat.mul_one, Nat.add_zero] at hset
        have a2' : ((d0 + i : Nat) : Int) ≤ m := by omega
        have a3 : ¬ m < d0 + i := by omega
        have a4 : d0 + i + 1 ≤ m + 1 := by omega
        generalize hD : ((d0 + i : Nat) : Int) = D at *
        have a5 : d0 + i < m + 1 := by omega
        simp [cimpl_GiveBook_barred_1_L0, h1, h2, h3, h6, e1, e2, a1, a2', he2, hlen, hset, hwd, upd_upd, a3, a5, a2]
      · have a2' : ¬ ((d0 + i : Nat) : Int) ≤ m := by omega
        have a3 : m < d0 + i := by omega
        have hE := hend i (.inr a3) (fun j hj => by omega)
        generalize hD : ((d0 + i : Nat) : Int) = D at *
        simp [cimpl_GiveBook_barred_1_L0, h1, h2, h3, h6, e1, e2, a1, a2', a3, hE]
    · have hE := hend i (.inl a1) (fun j hj => by
        have := hpre j hj
        simp at this
        omega)
      generalize hD : ((d0 + i : Nat) : Int) = D at *
      simp [cimpl_GiveBook_barred_1_L0, h1, h2, h3, h6, e1, e2, a1, hE]
  · rintro ⟨T, ⟨h', lc⟩⟩ hno ⟨h1, h2, h3, h6, hs⟩
    simp only at h1 h2 h3 h6 hs
    subst hs
    have e1 : ∀ X, upd H.hp q X bm = some ⟨[.int .i64 m], 1, true⟩ := by intro X; simp only [upd]; rw [if_neg s.n1]; exact s.rm
    have a2' : ¬ ((d0 + (m + 1) : Nat) : Int) ≤ m := by omega
    have hE := hend (m + 1) (.inr (by omega)) (fun j hj => by
      have := hno j hj
      simp at this
      omega)
    generalize hD : ((d0 + (m + 1) : Nat) : Int) = D at *
    by_cases a1 : D ≤ hi
    · simp [cimpl_GiveBook_barred_1_L0, h1, h2, h3, h6, e1, a1, a2', hE]
    · simp [cimpl_GiveBook_barred_1_L0, h1, h2, h3, h6, e1, a1, hE]
def hitB (x y : Box) (d : Nat) : Bool := besideB x y && decide (y.tin - x.tout ≤ (d : Int)) && decide ((d : Int) ≤ y.tout - x.tin)
def F1 (t l : List Box) (d : Nat) : Bool := l.any fun y => t.any fun x => hitB x y d
def F0 (t : List Box) (d : Nat) : Bool := t.any fun x => decide (10001 - x.tout ≤ (d : Int))
def barredF (b : Book) (n : ByteArray) (t : List Box) (d : Nat) : Bool := F0 t d || b.held.any fun a => !decide (a.name = n) && (F1 t a.tube d || F1 t a.next d)
theorem any_take_succ {α : Type} (l : List α) (p : α → Bool) {i : Nat} (hi : i < l.length) : (l.take (i + 1)).any p = ((l.take i).any p || p l[i]) := by
  rw [List.take_add_one, List.getElem?_eq_getElem hi, List.any_append]
  simp
theorem BarSt.congr {h : Heap} {m bm bo q : Nat} {H : Heap} {f g : Nat → Bool} (s : BarSt h m bm bo q H f) (k : ∀ d, d ≤ m → f d = g d) : BarSt h m bm bo q H g :=
  ⟨s.fr, s.rm, s.ro, by rw [← boolL_congr k]; exact s.rq, s.gm, s.go, s.gq, s.n1, s.n2, s.n3⟩

section
variable {h : Heap} {m bm bo q : Nat} {n : ByteArray} {ct chd : Ce} {t : List Box} {nh : Nat}
/-- The slots that live through the loops. -/
def A1 (n : ByteArray) (ct chd : Ce) (nh bm bo : Nat) (i : Nat) (T : Nat → Av) : Prop :=
  T 1 = .v (.c (.str n)) ∧ T 2 = .v (.c ct) ∧ T 9 = .v (.c (.ptr (.inr bo) 0)) ∧ T 10 = .v (.c (.fn 166 [(.inr bm, 0), (.inr bo, 0)])) ∧ T 40 = .v (.c chd) ∧ T 41 = .v (.c (.int .i64 nh)) ∧ T 42 = .v (.c (.int .i64 i))
def A2 (n : ByteArray) (ct chd : Ce) (nh bm bo : Nat) (i b54 k : Nat) (T : Nat → Av) : Prop :=
  A1 n ct chd nh bm bo i T ∧ T 54 = .v (.c (.sl (.inr b54) 0 2 .own)) ∧ T 55 = .v (.c (.int .i64 2)) ∧ T 56 = .v (.c (.int .i64 k))
def A3 (n : ByteArray) (ct chd : Ce) (nh bm bo : Nat) (i b54 k : Nat) (cl : Ce) (nl j : Nat) (T : Nat → Av) : Prop :=
  A2 n ct chd nh bm bo i b54 k T ∧ T 60 = .v (.c cl) ∧ T 61 = .v (.c (.int .i64 nl)) ∧ T 62 = .v (.c (.int .i64 j))

theorem barred_L4 {S : Nat → Prop} {i b54 k : Nat} {cl : Ce} {nl j : Nat} (hm : m ≤ 300) (ht : RdF fBox S h ct t) (ho : HOk h) (hok : ∀ x, x ∈ t → okB x = true) (hcl : cl.noLoc = true) (hch : chd.noLoc = true) (y : Box)
    {T : Nat → Av} {lc : Nat → Option Row} {H : Heap} {f : Nat → Bool} (s : BarSt h m bm bo q H f) (a : A3 n ct chd nh bm bo i b54 k cl nl j T) (h18 : T 18 = .v (.c (.ptr (.inl 18) 0))) (l18 : lc 18 = some ⟨fBox.ces y, 6, true⟩) (h66 : T 66 = .v (.c ct)) (h67 : T 67 = .v (.c (.int .i64 t.length))) (h68 : T 68 = .v (.c (.int .i64 0))) :
    AW eimpl_GiveBook_barred (.loop cimpl_GiveBook_barred_L4) (fun e x => e = .exit 8 ∧ A3 n ct chd nh bm bo i b54 k cl nl j x.1 ∧ BarSt h m bm bo q x.2.h (fun d => f d || t.any fun x => hitB x y d) ∧ Chg [q] H x.2.h) (T, ⟨H, lc⟩) := by
  have htl := ht.le
  refine AW_each t.length (fun r x => A3 n ct chd nh bm bo i b54 k cl nl j x.1 ∧ x.1 18 = .v (.c (.ptr (.inl 18) 0)) ∧ x.2.lc 18 = some ⟨fBox.ces y, 6, true⟩ ∧ x.1 66 = .v (.c ct) ∧ x.1 67 = .v (.c (.int .i64 t.length)) ∧ x.1 68 = .v (.c (.int .i64 r)) ∧ BarSt h m bm bo q x.2.h (fun d => f d || (t.take r).any fun x => hitB x y d) ∧ Chg [q] H x.2.h) ⟨a, h18, l18, h66, h67, h68, s.congr (by simp), Chg.refl s.fr.ok⟩ ?_ ?_
  · rintro r ⟨T, ⟨H', lc⟩⟩ hr ⟨⟨⟨⟨h1, h2, h9, h10, h40, h41, h42⟩, h54, h55, h56⟩, h60, h61, h62⟩, h18, l18, h66, h67, h68, st, cg⟩
    simp only at h1 h2 h9 h10 h40 h41 h42 h54 h55 h56 h60 h61 h62 h18 l18 h66 h67 h68 st cg
    have ht' := ht.keep ho st.fr
    obtain ⟨eb, ep, er, e1, _, e2, e3, e4, _⟩ := ht'.box hr
    have hw := wrap1 (i := r) (by omega)
    have B := impl_beside H' t[r] y
    simp only [fBox] at B l18
    cases hb : besideB t[r] y
    · rw [hb] at B
      have st' : BarSt h m bm bo q H' (fun d => f d || (t.take (r + 1)).any fun x => hitB x y d) := st.congr fun d _ => by
        rw [any_take_succ _ _ hr]
        simp [hitB, hb]
      simp [cimpl_GiveBook_barred_L4, A3, A2, A1, h1, h2, h9, h10, h40, h41, h42, h54, h55, h56, h60, h61, h62, h18, l18, h66, h67, h68, ht.noLoc, hcl, hch, hr, e1, e2, e3, e4, eimpl_GiveBook_barred_impl_beside, B, hw]
      exact ⟨rfl, st', cg⟩
    · rw [hb] at B
      have hx := hok _ (List.getElem_mem hr)
      have hy : okB y = true := by
        simp only [besideB, Bool.and_eq_true] at hb
        exact hb.1.1.1.2
      simp only [okB, inB, Bool.and_eq_true, decide_eq_true_eq] at hx hy
      have w1 : IntKind.i64.wrap (y.tin - t[r].tout) = y.tin - t[r].tout := wrap_i64 (by omega) (by omega)
      have w2 : IntKind.i64.wrap (y.tout - t[r].tin) = y.tout - t[r].tin := wrap_i64 (by omega) (by omega)
      obtain ⟨H'', t1, st2, cg2⟩ := impl_barred_1 st (y.tin - t[r].tout) (y.tout - t[r].tin) hm (by omega)
      have st' : BarSt h m bm bo q H'' (fun d => f d || (t.take (r + 1)).any fun x => hitB x y d) := st2.congr fun d _ => by
        rw [any_take_succ _ _ hr]
        simp [barF, hitB, hb, Bool.or_assoc]
      simp [cimpl_GiveBook_barred_L4, A3, A2, A1, h1, h2, h9, h10, h40, h41, h42, h54, h55, h56, h60, h61, h62, h18, l18, h66, h67, h68, ht.noLoc, hcl, hch, hr, e1, e2, e3, e4, eimpl_GiveBook_barred_impl_beside, eimpl_GiveBook_barred_impl_GiveBook_barred_1, B, w1, w2, t1, hw]
      exact ⟨rfl, st', cg.trans cg2 (fun _ h => h) (fun _ h => h)⟩
  · rintro ⟨T, ⟨H', lc⟩⟩ ⟨⟨⟨⟨h1, h2, h9, h10, h40, h41, h42⟩, h54, h55, h56⟩, h60, h61, h62⟩, h18, l18, h66, h67, h68, st, cg⟩
    simp only at h1 h2 h9 h10 h40 h41 h42 h54 h55 h56 h60 h61 h62 h18 l18 h66 h67 h68 st cg
    rw [List.take_length] at st
    simp [cimpl_GiveBook_barred_L4, A3, A2, A1, h1, h2, h9, h10, h40, h41, h42, h54, h55, h56, h60, h61, h62, h67, h68]
    exact ⟨st, cg⟩
theorem barred_L3 {S S' : Nat → Prop} {i b54 k : Nat} {cl : Ce} {l : List Box} (hm : m ≤ 300) (ht : RdF fBox S h ct t) (hl : RdF fBox S' h cl l) (ho : HOk h) (hok : ∀ x, x ∈ t → okB x = true) (hch : chd.noLoc = true)
    {T : Nat → Av} {lc : Nat → Option Row} {H : Heap} {f : Nat → Bool} (s : BarSt h m bm bo q H f) (a : A3 n ct chd nh bm bo i b54 k cl l.length 0 T) :
    AW eimpl_GiveBook_barred (.loop cimpl_GiveBook_barred_L3) (fun e x => e = .exit 6 ∧ A2 n ct chd nh bm bo i b54 k x.1 ∧ BarSt h m bm bo q x.2.h (fun d => f d || F1 t l d) ∧ Chg [q] H x.2.h) (T, ⟨H, lc⟩) := by
  have hll := hl.le
  refine AW_each l.length (fun r x => A3 n ct chd nh bm bo i b54 k cl l.length r x.1 ∧ BarSt h m bm bo q x.2.h (fun d => f d || F1 t (l.take r) d) ∧ Chg [q] H x.2.h) ⟨a, s.congr (by simp [F1]), Chg.refl s.fr.ok⟩ ?_ ?_
  · rintro r ⟨T, ⟨H', lc⟩⟩ hr ⟨⟨⟨⟨h1, h2, h9, h10, h40, h41, h42⟩, h54, h55, h56⟩, h60, h61, h62⟩, st, cg⟩
    simp only at h1 h2 h9 h10 h40 h41 h42 h54 h55 h56 h60 h61 h62 st cg
    have hl' := hl.keep ho st.fr
    obtain ⟨eb, ep, er, e1, _, e2, e3, e4, _⟩ := hl'.box hr
    have hw := wrap1 (i := r) (by omega)
    simp [cimpl_GiveBook_barred_L3, h1, h2, h9, h10, h40, h41, h42, h54, h55, h56, h60, h61, h62, ht.noLoc, hl.noLoc, hch, hr, e1, e2, e3, e4, ht.slen]
    refine AW_mono (barred_L4 (k := k) (b54 := b54) (cl := cl) (nl := l.length) (j := r) (n := n) (chd := chd) (nh := nh) (i := i) hm ht ho hok hl.noLoc hch l[r] st ?_ ?_ ?_ ?_ ?_ ?_) ?_
    · simp [A3, A2, A1, h1, h2, h9, h10, h40, h41, h42, h54, h55, h56, h60, h61, h62, ht.noLoc, hl.noLoc, hch]
    · simp
    · simp [fBox]
    · simp [h2, ht.noLoc]
    · simp
    · simp
    · rintro e ⟨T, ⟨H2, lc2⟩⟩ ⟨rfl, ⟨⟨⟨h1, h2, h9, h10, h40, h41, h42⟩, h54, h55, h56⟩, h60, h61, h62⟩, st2, cg2⟩
      simp only at h1 h2 h9 h10 h40 h41 h42 h54 h55 h56 h60 h61 h62 st2 cg2
      have st' : BarSt h m bm bo q H2 (fun d => f d || F1 t (l.take (r + 1)) d) := st2.congr fun d _ => by
        unfold F1
        rw [any_take_succ _ _ hr, Bool.or_assoc]
      simp [A3, A2, A1, h1, h2, h9, h10, h40, h41, h42, h54, h55, h56, h60, h61, h62, hw]
      exact ⟨st', cg.trans cg2 (fun _ h => h) (fun _ h => h)⟩
  · rintro ⟨T, ⟨H', lc⟩⟩ ⟨⟨⟨⟨h1, h2, h9, h10, h40, h41, h42⟩, h54, h55, h56⟩, h60, h61, h62⟩, st, cg⟩
    simp only at h1 h2 h9 h10 h40 h41 h42 h54 h55 h56 h60 h61 h62 st cg
    rw [List.take_length] at st
    simp [cimpl_GiveBook_barred_L3, A3, A2, A1, h1, h2, h9, h10, h40, h41, h42, h54, h55, h56, h60, h61, h62]
    exact ⟨st, cg⟩

theorem barred_L2 {S S' : Nat → Prop} {i b54 : Nat} {c1 c2 : Ce} {l1 l2 : List Box} (hm : m ≤ 300) (ht : RdF fBox S h ct t) (hl1 : RdF fBox S' h c1 l1) (hl2 : RdF fBox S' h c2 l2) (ho : HOk h) (hok : ∀ x, x ∈ t → okB x = true) (hch : chd.noLoc = true) (hbq : b54 ≠ q)
    {T : Nat → Av} {lc : Nat → Option Row} {H : Heap} {f : Nat → Bool} (s : BarSt h m bm bo q H f) (a : A2 n ct chd nh bm bo i b54 0 T) (hb : H.hp b54 = some ⟨[c1, c2], 1, true⟩) :
    AW eimpl_GiveBook_barred (.loop cimpl_GiveBook_barred_L2) (fun e x => e = .exit 4 ∧ A1 n ct chd nh bm bo i x.1 ∧ BarSt h m bm bo q x.2.h (fun d => f d || (F1 t l1 d || F1 t l2 d))) (T, ⟨H, lc⟩) := by
  refine AW_each 2 (fun r x => A2 n ct chd nh bm bo i b54 r x.1 ∧ BarSt h m bm bo q x.2.h (fun d => f d || ([l1, l2].take r).any fun l => F1 t l d) ∧ x.2.h.hp b54 = some ⟨[c1, c2], 1, true⟩) ⟨a, s.congr (by simp), hb⟩ ?_ ?_
  · rintro r ⟨T, ⟨H', lc⟩⟩ hr ⟨⟨⟨h1, h2, h9, h10, h40, h41, h42⟩, h54, h55, h56⟩, st, hb⟩
    simp only at h1 h2 h9 h10 h40 h41 h42 h54 h55 h56 st hb
    have go : ∀ (cl : Ce) (l : List Box), RdF fBox S' h cl l → ((r = 0 ∧ cl = c1 ∧ l = l1) ∨ (r = 1 ∧ cl = c2 ∧ l = l2)) → AW eimpl_GiveBook_barred cimpl_GiveBook_barred_L2 (fun e y => e = .normal ∧ A2 n ct chd nh bm bo i b54 (r + 1) y.1 ∧ BarSt h m bm bo q y.2.h (fun d => f d || ([l1, l2].take (r + 1)).any fun l => F1 t l d) ∧ y.2.h.hp b54 = some ⟨[c1, c2], 1, true⟩) (T, ⟨H', lc⟩) := by
      intro cl l hl hcase
      have e2 : (Ce.sl (Sum.inr b54) 0 2 .own).eltAt 1 (r : Int) = some (.inr b54, r) := by
        rcases hcase with ⟨rfl, _⟩ | ⟨rfl, _⟩ <;> rfl
      have e3 : [c1, c2][r]? = some cl := by
        rcases hcase with ⟨rfl, rfl, _⟩ | ⟨rfl, rfl, _⟩ <;> rfl
      have hrl : (r : Int) < 2 := by omega
      have hw := wrap1 (i := r) (by omega)
      simp [cimpl_GiveBook_barred_L2, h1, h2, h9, h10, h40, h41, h42, h54, h55, h56, hrl, e2, hb, e3, hl.slen]
      refine AW_mono (barred_L3 (k := r) (b54 := b54) (cl := cl) (l := l) (n := n) (chd := chd) (nh := nh) (i := i) hm ht hl ho hok hch st ?_) ?_
      · simp [A3, A2, A1, h1, h2, h9, h10, h40, h41, h42, h54, h55, h56]
      · rintro e ⟨T, ⟨H2, lc2⟩⟩ ⟨rfl, ⟨⟨h1, h2, h9, h10, h40, h41, h42⟩, h54, h55, h56⟩, st2, cg2⟩
        simp only at h1 h2 h9 h10 h40 h41 h42 h54 h55 h56 st2 cg2
        have hb2 : H2.hp b54 = some ⟨[c1, c2], 1, true⟩ := by rw [cg2.hp _ (st.fr.ok.lt hb) (by simpa using hbq)]; exact hb
        have st' : BarSt h m bm bo q H2 (fun d => f d || ([l1, l2].take (r + 1)).any fun l => F1 t l d) := st2.congr fun d _ => by
          rcases hcase with ⟨rfl, _, rfl⟩ | ⟨rfl, _, rfl⟩ <;> simp [Bool.or_assoc]
        simp [A2, A1, h1, h2, h9, h10, h40, h41, h42, h54, h55, h56, hw]
        exact ⟨by simpa using st', hb2⟩
    rcases (show r = 0 ∨ r = 1 by omega) with rfl | rfl
    · exact go c1 l1 hl1 (.inl ⟨rfl, rfl, rfl⟩)
    · exact go c2 l2 hl2 (.inr ⟨rfl, rfl, rfl⟩)
  · rintro ⟨T, ⟨H', lc⟩⟩ ⟨⟨⟨h1, h2, h9, h10, h40, h41, h42⟩, h54, h55, h56⟩, st, hb⟩
    simp only at h1 h2 h9 h10 h40 h41 h42 h54 h55 h56 st hb
    simp [cimpl_GiveBook_barred_L2, A1, h1, h2, h9, h10, h40, h41, h42, h54, h55, h56]
    simpa using st
end
theorem barred_L1 {S S' : Nat → Prop} {h : Heap} {m bm bo q : Nat} {n : ByteArray} {ct chd : Ce} {t : List Box} {l : List Held} {hs : List HeldC} (hm : m ≤ 300) (ht : RdF fBox S h ct t) (hh : RdF fHeld S' h chd hs) (hlen : hs.length = l.length) (hel : ∀ i (hi : i < hs.length) (hi' : i < l.length), RdHeld S' h hs[i] l[i]) (ho : HOk h) (hok : ∀ x, x ∈ t → okB x = true)
    {T : Nat → Av} {lc : Nat → Option Row} {H : Heap} {f : Nat → Bool} (s : BarSt h m bm bo q H f) (a : A1 n ct chd hs.length bm bo 0 T) :
    AW eimpl_GiveBook_barred (.loop cimpl_GiveBook_barred_L1) (fun e x => e = .exit 2 ∧ x.1 9 = .v (.c (.ptr (.inr bo) 0)) ∧ BarSt h m bm bo q x.2.h (fun d => f d || l.any fun a => !decide (a.name = n) && (F1 t a.tube d || F1 t a.next d))) (T, ⟨H, lc⟩) := by
  have hll := hh.le
  refine AW_each hs.length (fun r x => A1 n ct chd hs.length bm bo r x.1 ∧ BarSt h m bm bo q x.2.h (fun d => f d || (l.take r).any fun a => !decide (a.name = n) && (F1 t a.tube d || F1 t a.next d))) ⟨a, s.congr (by simp)⟩ ?_ ?_
  · rintro r ⟨T, ⟨H', lc⟩⟩ hr ⟨⟨h1, h2, h9, h10, h40, h41, h42⟩, st⟩
    simp only at h1 h2 h9 h10 h40 h41 h42 st
    have hh' := hh.keep ho st.fr
    obtain ⟨eb, ep, er, e1, _, e2, e3, e4, _⟩ := hh'.heldc hr
    have hr' : r < l.length := by omega
    have hri := hel r hr hr'
    have hn := hri.name
    rw [hn] at e4
    have hw := wrap1 (i := r) (by omega)
    by_cases hnm : l[r].name = n
    · have st' : BarSt h m bm bo q H' (fun d => f d || (l.take (r + 1)).any fun a => !decide (a.name = n) && (F1 t a.tube d || F1 t a.next d)) := st.congr fun d _ => by
        rw [any_take_succ _ _ hr']
        simp [hnm]
      simp [cimpl_GiveBook_barred_L1, A1, h1, h2, h9, h10, h40, h41, h42, ht.noLoc, hh.noLoc, hr, e1, e2, e3, e4, bytes_beq, hnm, hw]
      exact st'
    · have fp := Fr.push st.fr.ok ⟨[hs[r].t, hs[r].x], 1, true⟩
      have st1 := st.frame fp
      have hbq : H'.nx ≠ q := by have := st.fr.ok.lt st.rq; omega
      simp [cimpl_GiveBook_barred_L1, h1, h2, h9, h10, h40, h41, h42, ht.noLoc, hh.noLoc, hri.t.noLoc, hri.x.noLoc, hr, e1, e2, e3, e4, bytes_beq, hnm, Ce.slen]
      refine AW_mono (barred_L2 (b54 := H'.nx) (c1 := hs[r].t) (c2 := hs[r].x) (n := n) (chd := chd) (nh := hs.length) (i := r) hm ht hri.t hri.x ho hok hh.noLoc hbq st1 ?_ ?_) ?_
      · simp [A2, A1, h1, h2, h9, h10, h40, h41, h42, ht.noLoc, hh.noLoc]
      · exact push_at _ _
      · rintro e ⟨T, ⟨H2, lc2⟩⟩ ⟨rfl, ⟨h1, h2, h9, h10, h40, h41, h42⟩, st2⟩
        simp only at h1 h2 h9 h10 h40 h41 h42 st2
        have st' : BarSt h m bm bo q H2 (fun d => f d || (l.take (r + 1)).any fun a => !decide (a.name = n) && (F1 t a.tube d || F1 t a.next d)) := st2.congr fun d _ => by
          rw [any_take_succ _ _ hr']
          simp [hnm, Bool.or_assoc]
        simp [A1, h1, h2, h9, h10, h40, h41, h42, hw]
        exact st'
  · rintro ⟨T, ⟨H', lc⟩⟩ ⟨⟨h1, h2, h9, h10, h40, h41, h42⟩, st⟩
    simp only at h1 h2 h9 h10 h40 h41 h42 st
    rw [hlen, List.take_length] at st
    simp [cimpl_GiveBook_barred_L1, h9, h41, h42]
    exact st

theorem barred_L0 {S : Nat → Prop} {h : Heap} {m bm bo q : Nat} {n : ByteArray} {ct : Ce} {t : List Box} {ces : List Ce} (hm : m ≤ 300) (ht : RdF fBox S h ct t) (ho : HOk h) (hok : ∀ x, x ∈ t → okB x = true)
    {T : Nat → Av} {lc : Nat → Option Row} {H : Heap} {f : Nat → Bool} (s : BarSt h m bm bo q H f) (h1 : T 1 = .v (.c (.str n))) (h2 : T 2 = .v (.c ct)) (h4 : T 4 = .v (.c (.ptr (.inl 4) 0))) (h7 : T 7 = .v (.c (.ptr (.inr bm) 0))) (h9 : T 9 = .v (.c (.ptr (.inr bo) 0))) (h10 : T 10 = .v (.c (.fn 166 [(.inr bm, 0), (.inr bo, 0)])))
    (h25 : T 25 = .v (.c ct)) (h26 : T 26 = .v (.c (.int .i64 t.length))) (h27 : T 27 = .v (.c (.int .i64 0))) (l4 : lc 4 = some ⟨ces, 3, true⟩) :
    AW eimpl_GiveBook_barred (.loop cimpl_GiveBook_barred_L0) (fun e x => e = .exit 0 ∧ x.1 1 = .v (.c (.str n)) ∧ x.1 2 = .v (.c ct) ∧ x.1 4 = .v (.c (.ptr (.inl 4) 0)) ∧ x.1 9 = .v (.c (.ptr (.inr bo) 0)) ∧ x.1 10 = .v (.c (.fn 166 [(.inr bm, 0), (.inr bo, 0)])) ∧ x.2.lc 4 = some ⟨ces, 3, true⟩ ∧ BarSt h m bm bo q x.2.h (fun d => f d || F0 t d)) (T, ⟨H, lc⟩) := by
  have htl := ht.le
  refine AW_each t.length (fun r x => x.1 1 = .v (.c (.str n)) ∧ x.1 2 = .v (.c ct) ∧ x.1 4 = .v (.c (.ptr (.inl 4) 0)) ∧ x.1 7 = .v (.c (.ptr (.inr bm) 0)) ∧ x.1 9 = .v (.c (.ptr (.inr bo) 0)) ∧ x.1 10 = .v (.c (.fn 166 [(.inr bm, 0), (.inr bo, 0)])) ∧ x.1 25 = .v (.c ct) ∧ x.1 26 = .v (.c (.int .i64 t.length)) ∧ x.1 27 = .v (.c (.int .i64 r)) ∧ x.2.lc 4 = some ⟨ces, 3, true⟩ ∧ BarSt h m bm bo q x.2.h (fun d => f d || F0 (t.take r) d)) ⟨h1, h2, h4, h7, h9, h10, h25, h26, h27, l4, s.congr (by simp [F0])⟩ ?_ ?_
  · rintro r ⟨T, ⟨H', lc⟩⟩ hr ⟨h1, h2, h4, h7, h9, h10, h25, h26, h27, l4, st⟩
    simp only at h1 h2 h4 h7 h9 h10 h25 h26 h27 l4 st
    have ht' := ht.keep ho st.fr
    obtain ⟨eb, ep, er, e1, _, e2, e3, e4, _⟩ := ht'.box hr
    have hx := hok _ (List.getElem_mem hr)
    simp only [okB, inB, Bool.and_eq_true, decide_eq_true_eq] at hx
    have hw := wrap1 (i := r) (by omega)
    have w1 : IntKind.i64.wrap (10000 - t[r].tout) = 10000 - t[r].tout := wrap_i64 (by omega) (by omega)
    have w2 : IntKind.i64.wrap (10000 - t[r].tout + 1) = 10000 - t[r].tout + 1 := wrap_i64 (by omega) (by omega)
    obtain ⟨H2, t1, st2, cg2⟩ := impl_barred_1 st (10000 - t[r].tout + 1) m hm (by omega)
    have st' : BarSt h m bm bo q H2 (fun d => f d || F0 (t.take (r + 1)) d) := st2.congr fun d hd => by
      unfold F0
      rw [any_take_succ _ _ hr]
      have k1 : decide ((d : Int) ≤ m) = true := by simp; omega
      have k2 : decide (10000 - t[r].tout + 1 ≤ (d : Int)) = decide (10001 - t[r].tout ≤ (d : Int)) := by
        rw [Bool.eq_iff_iff]; simp; omega
      simp only [barF, k1, k2, Bool.and_true, Bool.or_assoc]
    have rm := st.rm
    simp [cimpl_GiveBook_barred_L0, h1, h2, h4, h7, h9, h10, h25, h26, h27, l4, ht.noLoc, hr, e1, e2, e3, e4, w1, w2, rm, eimpl_GiveBook_barred_impl_GiveBook_barred_1, t1, hw]
    exact st'
  · rintro ⟨T, ⟨H', lc⟩⟩ ⟨h1, h2, h4, h7, h9, h10, h25, h26, h27, l4, st⟩
    simp only at h1 h2 h4 h7 h9 h10 h25 h26 h27 l4 st
    rw [List.take_length] at st
    simp [cimpl_GiveBook_barred_L0, h1, h2, h4, h9, h10, h26, h27, l4]
    exact st

theorem impl_barred {S S' : Nat → Prop} (h : Heap) (c : BookC) (b : Book) (n : ByteArray) (ct : Ce) (t : List Box) (m : Nat) (ho : HOk h) (hm : m ≤ 300) (hr : RdBook S h c b) (ht : RdF fBox S' h ct t) (hok : ∀ x, x ∈ t → okB x = true) :
    ∃ c' h' fp, Fimpl_GiveBook_barred [.v (.agg c.ces), .v (.c (.str n)), .v (.c ct), .v (.c (.int .i64 m))] h = some (.v (.c c'), h') ∧ NewF fBool h h' c' (boolL m (barredF b n t)) fp := by
  unfold Fimpl_GiveBook_barred
  obtain ⟨hnow, hf, hs, hh, hlen, hel⟩ := hr
  have f1 := Fr.push ho ⟨[.int .i64 (m : Int)], 1, true⟩
  have hrep : List.replicate (m + 1) (Ce.bool false) = fBool.all (boolL m fun _ => false) := by
    have : boolL m (fun _ => false) = List.replicate (m + 1) false := by
      apply List.ext_getElem
      · simp [boolL]
      · intro i h1 h2; simp [boolL]
    rw [this, ← fBool.all_repl]
    simp [repl, fBool]
  obtain ⟨v, h', h1, c', fp, rfl, h2⟩ := runF_of (env := eimpl_GiveBook_barred) (code := cimpl_GiveBook_barred) (rs := [.t 8]) (args := [.v (.agg c.ces), .v (.c (.str n)), .v (.c ct), .v (.c (.int .i64 m))]) (h := h) (K := fun v h' => ∃ c' fp, v = .v (.c c') ∧ NewF fBool h h' c' (boolL m (barredF b n t)) fp) (by
    have w1 := wrap1 (i := m) (by omega)
    have hmp : (0 : Int) ≤ (m : Int) + 1 ∧ (m : Int) + 1 ≤ 4294967296 := by omega
    have hnat : ((m : Int) + 1).toNat = m + 1 := by omega
    have w1' : IntKind.i64.wrap ((m : Int) + 1) = (m : Int) + 1 := by rw [w1]; rfl
    let H : Heap := ((h.push ⟨[.int .i64 (m : Int)], 1, true⟩).push ⟨fBool.all (boolL m fun _ => false), 1, true⟩).push ⟨[.sl (.inr (h.nx + 1)) 0 (m + 1) .own], 1, true⟩
    have f2 := Fr.push f1.ok ⟨fBool.all (boolL m fun _ => false), 1, true⟩
    have f3 := Fr.push f2.ok ⟨[.sl (.inr (h.nx + 1)) 0 (m + 1) .own], 1, true⟩
    have sH : BarSt h m h.nx (h.nx + 1 + 1) (h.nx + 1) H (fun _ => false) := by
      refine ⟨(f1.trans f2).trans f3, ?_, ?_, ?_, Nat.le_refl _, by omega, by omega, by omega, by omega, by omega⟩
      · simp [H, Heap.push, upd]
        omega
      · simp [H, Heap.push, upd]
      · simp [H, Heap.push, upd]
    have hHeq : ∀ lc : Nat → Option Row, (⟨⟨h.nx + 1 + 1 + 1, upd (upd (upd (upd h.hp h.nx (some ⟨[.int .i64 (m : Int)], 1, true⟩)) (h.nx + 1) (some ⟨fBool.all (boolL m fun _ => false), 1, true⟩)) (h.nx + 1 + 1) (some ⟨[.nils], 1, true⟩)) (h.nx + 1 + 1) (some ⟨[.sl (.inr (h.nx + 1)) 0 (m + 1) .own], 1, true⟩)⟩, lc⟩ : St) = ⟨H, lc⟩ := by
      intro lc
      simp only [H, Heap.push, upd_upd]
    have hn2 : ∀ (r : Option Row), upd h.hp h.nx r h.nx = r := fun r => by simp [upd]
    have x1 : ¬ h.nx = h.nx + 1 + 1 := by omega
    have x2 : ¬ h.nx = h.nx + 1 := by omega
    have hcH : c.ces[2]? = some c.hd := rfl
    simp [cimpl_GiveBook_barred, St.push, Heap.push, lim, w1', hmp, hnat, hrep, ht.noLoc, ht.slen, hn2]
    rw [hHeq]
    refine AW_mono (barred_L0 (n := n) (ces := c.ces) hm ht ho hok sH ?_ ?_ ?_ ?_ ?_ ?_ ?_ ?_ ?_ ?_) ?_
    · simp
    · simp [ht.noLoc]
    · simp
    · simp
    · simp
    · simp
    · simp [ht.noLoc]
    · simp
    · simp
    · simp
    · rintro e ⟨T, ⟨H2, lc2⟩⟩ ⟨rfl, h1, h2, h4, h9, h10, l4, st⟩
      simp only at h1 h2 h4 h9 h10 l4 st
      simp [h1, h2, h4, h9, h10, l4, hcH, hh.slen, hh.noLoc, ht.noLoc]
      refine AW_mono (barred_L1 (n := n) (ct := ct) (chd := c.hd) hm ht hh hlen hel ho hok st ?_) ?_
      · simp [A1, h1, h2, h9, h10, hh.noLoc, ht.noLoc]
      · rintro e ⟨T, ⟨H3, lc3⟩⟩ ⟨rfl, h9, st3⟩
        simp only at h9 st3
        simp [h9, st3.ro]
        have st4 : BarSt h m h.nx (h.nx + 1 + 1) (h.nx + 1) H3 (barredF b n t) := st3.congr fun d _ => by simp [barredF]
        exact ⟨[h.nx + 1], .inr ⟨h.nx + 1, by rw [boolL_length], st4.rq, rfl⟩, st4.fr, by simp⟩)
  exact ⟨c', h', fp, h1, h2⟩
end Go.Abs

/-
  Bars and the earliest: what the functions compute.
-/

namespace Go.Abs
set_option linter.unusedSimpArgs false
set_option linter.unusedVariables false
attribute [local simp] AW_skip AW_exit AW_ret AW_seq AW_block AW_cond CW_ite AW_reg AW_regD AW_regDc RD_nil RD_cons keyEq hasP hasH hasL chkL chkH recK recH inRange lightKey BookC.len BookC.take WishC.len WishC.take RW_nil RW_cons RW_guard GW_t GW_f GW_gt GW_gf GW_tup GY_some GY_tt GY_ff gd_t gd_f pk_t pk_f pk_and pk_or pk_andc pk_orc pk_bool gd_gd SW_some ThenQ_normal ThenQ_exit ThenQ_ret BlockQ_normal BlockQ_exit BlockQ_ret kill_nil kill_cons killT_at killL_at upo_some upo_none ev_t ev_k FinQ_ret FinQ_normal upd_eq upd_ne argsT_zero argsT_succ aop.eq_1 aop_pick aop.eq_3 aop.eq_4 aop.eq_5 aop.eq_6 aop.eq_7 aop.eq_8 aop.eq_9 aop.eq_10 aop.eq_11 aop.eq_12 aop.eq_13 aop.eq_14 aop.eq_15 aop.eq_16 aop.eq_17 aop.eq_18 aop.eq_19 aop.eq_20 aop.eq_21 aop_slice_hi aop_slice_lo aop.eq_23 aop.eq_24 aop.eq_26 aop.eq_27 aop.eq_28 aop.eq_29 aop.eq_31 aop.eq_32 aop_maxs2 aop_mins2 aop_mins3 aop_len aop_iaddr Av.bool? Av.ptr? Av.int? Av.int64? Av.str? Av.agg? ressA resA resOf noLoc_int noLoc_bool noLoc_str noLoc_nils noLoc_nilp noLoc_ptrl noLoc_ptrr noLoc_sll noLoc_slr noLoc_fn noLoc_tc noLoc_tagg noLoc_av noLoc_atup ce_c tv_v cells_c cells_agg noLocs keyLoc evs callA St.set St.get unAv binCe killV_int killV_bool killV_str killV_nils killV_nilp killV_agg killV_no killV_tup killV_ptrl killV_ptrr killV_sll killV_slr killV_fn killV_noLoc fillA repl ptrs List.map
attribute [local congr] GY_congr

/-- A tube that is ok is ok box by box. -/
theorem tubeOk_all {fs : List Fld} {t : List Box} (h : tubeOkB fs t = true) : ∀ x, x ∈ t → okB x = true := by
  intro x hx
  obtain ⟨i, hi, rfl⟩ := List.getElem_of_mem hx
  simp only [tubeOkB, Bool.and_eq_true] at h
  have := allN_iff.1 h.1.2 i hi
  simp only [stepB, Bool.and_eq_true] at this
  simpa [hi] using this.1
theorem tubeOk_len {fs : List Fld} {t : List Box} (h : tubeOkB fs t = true) : 1 ≤ t.length ∧ t.length ≤ 40 := by
  simp only [tubeOkB, Bool.and_eq_true, decide_eq_true_eq] at h
  exact h.1.1

/-- A box later. -/
def lat (d : Int) (b : Box) : Box := { b with tin := wrap64 (b.tin + d), tout := wrap64 (b.tout + d) }
theorem laterB_eq (d : Int) (t : List Box) : laterB d t = t.map (lat d) := rfl
theorem lat_of {b : Box} {d : Nat} (h : okB b = true) (hd : d ≤ 300) : lat d b = { b with tin := b.tin + d, tout := b.tout + d } := by
  simp only [okB, inB, Bool.and_eq_true, decide_eq_true_eq] at h
  unfold lat
  rw [wrap64_id (by omega) (by omega), wrap64_id (by omega) (by omega)]
theorem lat_ok {b : Box} {d : Nat} (h : okB b = true) (hd : d ≤ 300) : okB (lat d b) = decide (b.tout + d ≤ 10000) := by
  rw [lat_of h hd]
  simp only [okB, inB, Bool.and_eq_true, decide_eq_true_eq] at h
  rw [Bool.eq_iff_iff]
  simp only [okB, inB, Bool.and_eq_true, decide_eq_true_eq]
  constructor
  · intro k; exact k.2
  · intro k; refine ⟨⟨⟨⟨⟨?_, ?_⟩, ?_⟩, ?_⟩, ?_⟩, k⟩ <;> omega
theorem lat_next {a b : Box} {d : Nat} (ha : okB a = true) (hb : okB b = true) (hd : d ≤ 300) : nextB (lat d a) (lat d b) = nextB a b := by
  rw [lat_of ha hd, lat_of hb hd]
  simp only [okB, inB, Bool.and_eq_true, decide_eq_true_eq] at ha hb
  unfold nextB
  simp only
  have e1 : wrap64 (a.tout + d + 1) = a.tout + d + 1 := wrap64_id (by omega) (by omega)
  have e2 : wrap64 (a.tout + 1) = a.tout + 1 := wrap64_id (by omega) (by omega)
  rw [e1, e2]
  have q1 : decide (a.tin + (d : Int) ≤ b.tin + d) = decide (a.tin ≤ b.tin) := by rw [Bool.eq_iff_iff]; simp
  have q2 : decide (a.tout + (d : Int) ≤ b.tout + d) = decide (a.tout ≤ b.tout) := by rw [Bool.eq_iff_iff]; simp
  have q3 : decide (b.tin + (d : Int) ≤ a.tout + d + 1) = decide (b.tin ≤ a.tout + 1) := by rw [Bool.eq_iff_iff]; simp; omega
  rw [q1, q2, q3]
/-- A tube that is ok is ok later just if it is not too late. -/
theorem later_ok {fs : List Fld} {t : List Box} {d : Nat} (h : tubeOkB fs t = true) (hd : d ≤ 300) : tubeOkB fs (laterB d t) = !F0 t d := by
  have hall := tubeOk_all h
  have hlen := tubeOk_len h
  have hs : ∀ i, i < t.length → stepB (laterB d t) i = decide (((t.getD i default).tout + d) ≤ 10000) := by
    intro i hi
    simp only [tubeOkB, Bool.and_eq_true] at h
    have hst := allN_iff.1 h.1.2 i hi
    have e1 : (laterB d t).getD i default = lat d t[i] := by simp [laterB_eq, hi]
    have e2 : t.getD i default = t[i] := by simp [hi]
    have hok := hall _ (List.getElem_mem hi)
    unfold stepB at hst ⊢
    rw [e1, e2, lat_ok hok hd]
    rcases i with _ | k
    · simp
    · have hk : k < t.length := by omega
      have e3 : (laterB d t).getD (k + 1 - 1) default = lat d t[k] := by simp [laterB_eq, hk]
      have e4 : t.getD (k + 1 - 1) default = t[k] := by simp [hk]
      rw [e3, lat_next (hall _ (List.getElem_mem hk)) hok hd]
      rw [e2, e4] at hst
      simp only [Bool.and_eq_true, Bool.or_eq_true] at hst
      rcases hst.2 with k' | k'
      · simp at k'
      · rw [k']; simp
  have hg : groundB fs ((laterB d t).getD ((laterB d t).length - 1) default) = true := by
    simp only [tubeOkB, Bool.and_eq_true] at h
    have e1 : (laterB d t).getD ((laterB d t).length - 1) default = lat d (t.getD (t.length - 1) default) := by
      have : t.length - 1 < t.length := by omega
      simp [laterB_eq, this]
    rw [e1]
    exact h.2
  unfold tubeOkB
  rw [hg, laterB_length]
  rw [Bool.eq_iff_iff]
  simp only [Bool.and_eq_true, decide_eq_true_eq, Bool.not_eq_true', and_true]
  constructor
  · rintro ⟨_, k⟩
    apply any_no
    intro i hi
    have := allN_iff.1 k i hi
    rw [hs i hi] at this
    simp [hi] at this ⊢
    omega
  · intro k
    refine ⟨hlen, allN_of fun i hi => ?_⟩
    rw [hs i hi]
    unfold F0 at k
    rw [List.any_eq_false] at k
    have := k t[i] (List.getElem_mem hi)
    simp [hi] at this ⊢
    omega
/-- Two boxes, one of them later. -/
theorem close_later {x y : Box} {d : Nat} (hx : okB x = true) (hd : d ≤ 300) (hl : okB (lat d x) = true) : closeB y (lat d x) = hitB x y d := by
  rw [lat_ok hx hd] at hl
  have hxo := hx
  have e := lat_of hx hd
  have hok := lat_ok hx hd
  simp only [okB, inB, Bool.and_eq_true, decide_eq_true_eq] at hx
  rw [decide_eq_true_eq] at hl
  unfold closeB hitB besideB
  rw [hok, e]
  simp only [hxo, hl, decide_true, Bool.and_true, Bool.true_and]
  cases hy : okB y
  · simp
  simp only [okB, inB, Bool.and_eq_true, decide_eq_true_eq] at hy
  have w1 : wrap64 (y.x - x.x) = y.x - x.x := wrap64_id (by omega) (by omega)
  have w2 : wrap64 (x.x - y.x) = x.x - y.x := wrap64_id (by omega) (by omega)
  have w3 : wrap64 (y.y - x.y) = y.y - x.y := wrap64_id (by omega) (by omega)
  have w4 : wrap64 (x.y - y.y) = x.y - y.y := wrap64_id (by omega) (by omega)
  rw [w1, w2, w3, w4, max2_eq, min2_eq, Bool.eq_iff_iff]
  simp only [inB, Bool.and_eq_true, decide_eq_true_eq, Bool.true_and]
  constructor
  · rintro ⟨⟨⟨⟨⟨⟨a1, a2⟩, a3, a4⟩, a5⟩, a6⟩, a7⟩, a8⟩
    refine ⟨⟨⟨⟨⟨?_, ?_⟩, ?_, ?_⟩, ?_⟩, ?_⟩, ?_⟩ <;> omega
  · rintro ⟨⟨⟨⟨⟨a1, a2⟩, a3, a4⟩, a5⟩, a6⟩, a7⟩
    refine ⟨⟨⟨⟨⟨⟨?_, ?_⟩, ?_, ?_⟩, ?_⟩, ?_⟩, ?_⟩, ?_⟩ <;> omega
/-- What is barred is what cannot be. -/
theorem can_barred {b : Book} {n : ByteArray} {t : List Box} {d : Nat} (h : tubeOkB b.fields t = true) (hd : d ≤ 300) : canB b n t d = !barredF b n t d := by
  unfold canB barredF
  rw [later_ok h hd]
  cases h0 : F0 t d
  · have hall := tubeOk_all h
    have hok : ∀ x, x ∈ t → okB (lat d x) = true := by
      intro x hx
      rw [lat_ok (hall x hx) hd]
      unfold F0 at h0
      rw [List.any_eq_false] at h0
      have := h0 x hx
      simp at this ⊢
      omega
    have near : ∀ l, nearL l (laterB d t) = F1 t l d := by
      intro l
      unfold nearL F1
      congr 1
      funext y
      rw [laterB_eq, List.any_map]
      have : ∀ (t' : List Box), (∀ x, x ∈ t' → x ∈ t) → (t'.any ((fun b => closeB y b) ∘ lat d)) = t'.any fun x => hitB x y d := by
        intro t' ht'
        induction t' with
        | nil => rfl
        | cons x r ih =>
          simp only [List.any_cons, Function.comp]
          rw [close_later (hall x (ht' x (by simp))) hd (hok x (ht' x (by simp)))]
          congr 1
          exact ih fun z hz => ht' z (by simp [hz])
      exact this t fun _ hx => hx
    simp only [Bool.not_false, Bool.true_and, Bool.false_or]
    unfold freeB
    simp only [near]
    rw [List.not_any_eq_all_not]
    congr 1
    funext a
    cases decide (a.name = n) <;> cases F1 t a.tube d <;> cases F1 t a.next d <;> rfl
  · simp

theorem impl_GiveEarliest {S S' : Nat → Prop} (h : Heap) (c : BookC) (b : Book) (n : ByteArray) (ct : Ce) (t : List Box) (most : Int) (ho : HOk h) (hr : RdBook S h c b) (hw : BookWf b) (ht : RdF fBox S' h ct t) (_ : t.length ≤ 1048576) :
    ∃ h', Fimpl_GiveEarliest [.v (.agg c.ces), .v (.c (.str n)), .v (.c ct), .v (.c (.int .i64 most))] h = some (.tup [.c (.int .i64 (((earlB b n t most).getD 0 : Nat) : Int)), .c (.bool (earlB b n t most).isSome)], h') ∧ Fr h h' := by
  unfold Fimpl_GiveEarliest
  have B := impl_GiveBookOk h c b hr hw
  have T1 := impl_GiveTubeOk h _ _ _ _ hr.f ht
  have hf := hr.f.noLoc
  have hcf : c.ces[1]? = some c.f := rfl
  cases ha : askedB b t most
  · have : earlB b n t most = none := by simp [earlB, ha]
    refine ⟨h, runF_eq ?_, Fr.refl ho⟩
    cases a1 : bookOkB b
    · simp [cimpl_GiveEarliest, ht.noLoc, eimpl_GiveEarliest_impl_GiveBookOk, B, a1, this]
    cases a2 : tubeOkB b.fields t
    · simp [cimpl_GiveEarliest, ht.noLoc, hf, hcf, eimpl_GiveEarliest_impl_GiveBookOk, eimpl_GiveEarliest_impl_GiveTubeOk, B, T1, a1, a2, this]
    have a3 : inB most 0 300 = false := by simpa [askedB, a1, a2] using ha
    simp [cimpl_GiveEarliest, ht.noLoc, hf, hcf, eimpl_GiveEarliest_impl_GiveBookOk, eimpl_GiveEarliest_impl_GiveTubeOk, eimpl_GiveEarliest_impl_in, impl_in, B, T1, a1, a2, a3, this]
  have ha' := ha
  simp only [askedB, Bool.and_eq_true] at ha'
  obtain ⟨⟨a1, a2⟩, a3⟩ := ha'
  have hm : 0 ≤ most ∧ most ≤ 300 := by simpa [inB] using a3
  obtain ⟨m, rfl⟩ : ∃ m : Nat, most = m := ⟨most.toNat, by omega⟩
  have hm' : m ≤ 300 := by omega
  have he : earlB b n t m = firstN (m + 1) (fun d => !barredF b n t d) := by
    simp only [earlB, ha, if_true, Int.toNat_natCast]
    unfold firstN
    have : ∀ l : List Nat, (∀ d, d ∈ l → d ≤ m) → l.find? (fun d : Nat => canB b n t d) = l.find? (fun d => !barredF b n t d) := by
      intro l
      induction l with
      | nil => intro _; rfl
      | cons d r ih =>
        intro hl
        simp only [List.find?_cons]
        rw [can_barred a2 (by have := hl d (by simp); omega), ih fun x hx => hl x (by simp [hx])]
    exact this _ fun d hd => by simp at hd; omega
  obtain ⟨c', h1, fp, t1, nw⟩ := impl_barred h c b n ct t m ho hm' hr ht (tubeOk_all a2)
  have rb := nw.rd (by rw [boolL_length]; omega)
  rw [a1] at B
  rw [a2] at T1
  refine ⟨h1, runF_eq ?_, nw.fr⟩
  have hsl := rb.slen
  rw [boolL_length] at hsl
  simp [cimpl_GiveEarliest, ht.noLoc, hf, hcf, eimpl_GiveEarliest_impl_GiveBookOk, eimpl_GiveEarliest_impl_GiveTubeOk, eimpl_GiveEarliest_impl_in, eimpl_GiveEarliest_impl_GiveBook_barred, impl_in, B, T1, a3, t1, hsl]
  refine AW_for1 (m + 1) (fun d => !barredF b n t d) (fun i x => x.1 31 = .v (.c c') ∧ x.1 32 = .v (.c (.int .i64 ((m + 1 : Nat) : Int))) ∧ x.1 33 = .v (.c (.int .i64 i)) ∧ x.2.h = h1) (by simp) ?_ ?_
  · rintro i ⟨T, ⟨h', lc⟩⟩ hin hpre ⟨h31, h32, h33, hs⟩
    simp only at h31 h32 h33 hs
    subst hs
    obtain ⟨eb, ep, er, e1, _, e2, e3, e5⟩ := rb.bool1 (i := i) (by rw [boolL_length]; exact hin)
    have hbi : (boolL m (barredF b n t))[i]'(by rw [boolL_length]; exact hin) = barredF b n t i := by simp [boolL]
    rw [hbi] at e5
    have hw1 := wrap1 (i := i) (by omega)
    have hle : (i : Int) < (m : Int) + 1 := by omega
    cases hb : barredF b n t i
    · have := firstN_some (p := fun d => !barredF b n t d) hin (by simp [hb]) hpre
      rw [← he] at this
      rw [hb] at e5
      simp [cimpl_GiveEarliest_L0, h31, h32, h33, hle, nw.own.noLoc, e1, e2, e5, this]
    · rw [hb] at e5
      simp [cimpl_GiveEarliest_L0, h31, h32, h33, hle, nw.own.noLoc, e1, e2, e5, hw1]
  · rintro ⟨T, ⟨h', lc⟩⟩ hno ⟨h31, h32, h33, hs⟩
    simp only at h31 h32 h33 hs
    subst hs
    have := firstN_none (p := fun d => !barredF b n t d) hno
    rw [← he] at this
    simp [cimpl_GiveEarliest_L0, h32, h33, this]
end Go.Abs

/-
  Marks: texts, and lists of runways and of those who hold something.
-/

namespace Go.Abs
set_option linter.unusedSimpArgs false
set_option linter.unusedVariables false
attribute [local simp] AW_skip AW_exit AW_ret AW_seq AW_block AW_cond CW_ite AW_reg AW_regD AW_regDc RD_nil RD_cons keyEq hasP hasH hasL chkL chkH recK recH inRange lightKey BookC.len BookC.take WishC.len WishC.take RW_nil RW_cons RW_guard GW_t GW_f GW_gt GW_gf GW_tup GY_some GY_tt GY_ff gd_t gd_f pk_t pk_f pk_and pk_or pk_andc pk_orc pk_bool gd_gd SW_some ThenQ_normal ThenQ_exit ThenQ_ret BlockQ_normal BlockQ_exit BlockQ_ret kill_nil kill_cons killT_at killL_at upo_some upo_none ev_t ev_k FinQ_ret FinQ_normal upd_eq upd_ne argsT_zero argsT_succ aop.eq_1 aop_pick aop.eq_3 aop.eq_4 aop.eq_5 aop.eq_6 aop.eq_7 aop.eq_8 aop.eq_9 aop.eq_10 aop.eq_11 aop.eq_12 aop.eq_13 aop.eq_14 aop.eq_15 aop.eq_16 aop.eq_17 aop.eq_18 aop.eq_19 aop.eq_20 aop.eq_21 aop_slice_hi aop_slice_lo aop.eq_23 aop.eq_24 aop.eq_26 aop.eq_27 aop.eq_28 aop.eq_29 aop.eq_31 aop.eq_32 aop_maxs2 aop_mins2 aop_mins3 aop_len aop_iaddr Av.bool? Av.ptr? Av.int? Av.int64? Av.str? Av.agg? ressA resA resOf noLoc_int noLoc_bool noLoc_str noLoc_nils noLoc_nilp noLoc_ptrl noLoc_ptrr noLoc_sll noLoc_slr noLoc_fn noLoc_tc noLoc_tagg noLoc_av noLoc_atup ce_c tv_v cells_c cells_agg noLocs keyLoc evs callA St.set St.get unAv binCe killV_int killV_bool killV_str killV_nils killV_nilp killV_agg killV_no killV_tup killV_ptrl killV_ptrr killV_sll killV_slr killV_fn killV_noLoc fillA repl ptrs List.map
attribute [local congr] GY_congr
def digitB (n : Nat) : ByteArray := ⟨#[UInt8.ofNat (48 + n % 10)]⟩
def mtG : Nat → Nat → ByteArray → ByteArray
  | 0, _, out => out
  | g + 1, n, out => if n = 0 then out else mtG g (n / 10) (digitB n ++ out)
def mtext (k : Int) : ByteArray := if k ≤ 0 then ⟨#[109, 48]⟩ else ⟨#[109]⟩ ++ mtG 64 k.toNat ⟨#[]⟩
theorem size_append (a b : ByteArray) : (a ++ b).size = a.size + b.size := ByteArray.size_append
theorem laws_markText (h : Heap) (k : Int) (ho : HOk h) (hk : k ≤ 9223372036854775807) :
    ∃ h', Flaws_markText [.v (.c (.int .i64 k))] h = some (.v (.c (.str (mtext k))), h') ∧ Fr h h' := by
  unfold Flaws_markText
  by_cases h0 : k ≤ 0
  · refine ⟨h, runF_eq ?_, Fr.refl ho⟩
    simp [claws_markText, mtext, h0]
  have hp : 0 < k := by omega
  obtain ⟨v, h', h1, rfl, h2⟩ := runF_of (env := elaws_markText) (code := claws_markText) (rs := [.t 2]) (args := [.v (.c (.int .i64 k))]) (h := h) (K := fun v h' => v = .v (.c (.str (mtext k))) ∧ Fr h h') (by
    simp [claws_markText, h0]
    refine AW_loop (fun i x => i ≤ 63 ∧ Fr h x.2.h ∧ ∃ (n : Nat) (out : ByteArray), x.1 0 = .v (.c (.int .i64 n)) ∧ x.1 3 = .v (.c (.str out)) ∧ n * 10 ^ i ≤ k.toNat ∧ out.size = i ∧ mtext k = ⟨#[109]⟩ ++ mtG (64 - i) n out) 63 ?_ ?_
    · refine ⟨by omega, by simpa using Fr.refl ho, k.toNat, ⟨#[]⟩, ?_, by simp, by simp, rfl, by simp [mtext, h0]⟩
      have : ((k.toNat : Nat) : Int) = k := by omega
      simp [this]
    · rintro i ⟨T, ⟨h', lc⟩⟩ hi ⟨_, fr, n, out, t0, t3, hn, hs, hm⟩
      simp only at fr t0 t3
      by_cases hz : n = 0
      · subst hz
        have he : mtG (64 - i) 0 out = out := by
          cases 64 - i with
          | zero => rfl
          | succ g => simp [mtG]
        rw [he] at hm
        have hsz : 1 + out.size ≤ 9223372036854775807 := by omega
        have hone : (⟨#[109]⟩ : ByteArray).size = 1 := rfl
        simp [claws_markText_L0, t0, t3, hone, hsz, hm, fr]
      · have hnp : 0 < n := by omega
        have hnz : ¬ n = 0 := hz
        have hi63 : i < 63 := by
          refine Classical.byContradiction fun hc => ?_
          have : i = 63 := by omega
          subst this
          have h10 : (10 : Nat) ^ 63 ≤ n * 10 ^ 63 := Nat.le_mul_of_pos_left _ (by omega)
          have : k.toNat ≤ 9223372036854775807 := by omega
          have : (10 : Nat) ^ 63 > 9223372036854775807 := by decide
          omega
        have htd : IntKind.i64.wrap ((n : Int) / 10) = (n : Int) / 10 := wrap_i64 (by omega) (by
          have : k.toNat ≤ 9223372036854775807 := by omega
          have h1 : n ≤ n * 10 ^ i := Nat.le_mul_of_pos_right _ (Nat.pow_pos (by omega))
          omega)
        have htm : (n : Int).tmod 10 = (n : Int) % 10 := Int.tmod_eq_emod_of_nonneg (by omega)
        have htd0 : (n : Int).tdiv 10 = (n : Int) / 10 := Int.tdiv_eq_ediv_of_nonneg (by omega)
        obtain ⟨M, hM⟩ : ∃ M : Int, M = 48 + (n : Int) % 10 := ⟨_, rfl⟩
        have hadd : IntKind.i64.wrap (48 + (n : Int) % 10) = M := by rw [hM]; exact wrap_i64 (by omega) (by omega)
        have hMb : 48 ≤ M ∧ M ≤ 57 := by omega
        obtain ⟨N, hN⟩ : ∃ N : Nat, N = 48 + n % 10 := ⟨_, rfl⟩
        have hMn : M.toNat = N := by omega
        have hconv : IntKind.u8.wrap M = M := by
          simp [IntKind.wrap, IntKind.signed, IntKind.bits]
          omega
        have hd : (⟨#[UInt8.ofNat N]⟩ : ByteArray) = digitB n := by rw [hN]; rfl
        have hsz : 1 + out.size ≤ 9223372036854775807 := by omega
        have hdz : (digitB n).size = 1 := rfl
        have fr2 := fr.trans (Fr.push fr.ok ⟨[.int .u8 M], 1, true⟩)
        have hstep : mtG (64 - i) n out = mtG (64 - (i + 1)) (n / 10) (digitB n ++ out) := by
          have : 64 - i = (64 - (i + 1)) + 1 := by omega
          rw [this, mtG, if_neg hz]
        have hpow : n / 10 * 10 ^ (i + 1) ≤ k.toNat := by
          have h1 : n / 10 * 10 ≤ n := Nat.div_mul_le_self n 10
          have h2 : n / 10 * 10 ^ (i + 1) = (n / 10 * 10) * 10 ^ i := by rw [Nat.pow_succ, Nat.mul_assoc, Nat.mul_comm 10]
          rw [h2]
          exact Nat.le_trans (Nat.mul_le_mul_right _ h1) hn
        simp [claws_markText_L0, t0, t3, hnp, hnz, htm, htd0, hadd, hconv, St.push, Heap.push, St.elems, upd, bytesOfCes, hMn, hd, hdz, hsz, htd]
        refine ⟨hi63, by omega, fr2, n / 10, by simp, hpow, ?_, ?_⟩
        · omega
        · rw [hm, hstep, show 64 - (i + 1) = 63 - i by omega])
  exact ⟨h', h1, h2⟩
def mkField (k : Int) (i : Nat) : Fld := ⟨mtext (k + 3 * i), k + 3 * i + 1, k + 3 * i + 2⟩
def marksField (k : Int) (n : Nat) : List Fld := (List.range n).map (mkField k)
theorem marksField_length (k : Int) (n : Nat) : (marksField k n).length = n := by simp [marksField]
theorem marksField_at (k : Int) (n i : Nat) (h : i < (marksField k n).length) : (marksField k n)[i] = mkField k i := by simp [marksField]
theorem laws_markGiveFieldS (h : Heap) (c : Ce) (l : List Fld) (fp : List Nat) (k : Int) (ho : HOk h) (hc : OwnF fField h c l fp) (hl : l.length ≤ 1048576) (hk : 0 ≤ k ∧ k ≤ 1152921504606846976) :
    ∃ h', Flaws_markGiveFieldS [.v (.c c), .v (.c (.int .i64 k))] h = some (.v (.c (.int .i64 (k + 3 * l.length))), h') ∧ OwnF fField h' c (marksField k l.length) fp ∧ Chg fp h h' := by
  unfold Flaws_markGiveFieldS
  rcases hc with ⟨rfl, rfl, rfl⟩ | ⟨b, rfl, hb, rfl⟩
  · refine ⟨h, runF_eq ?_, .inl ⟨rfl, rfl, rfl⟩, Chg.refl ho⟩
    simp [claws_markGiveFieldS]
    refine AW_each 0 (fun i x => x.1 0 = .v (.c .nils) ∧ x.1 1 = .v (.c (.int .i64 k)) ∧ x.1 5 = .v (.c (.int .i64 0)) ∧ x.2 = ⟨h, nol⟩) (by simp) (by intros; omega) ?_
    rintro ⟨T, s⟩ ⟨h0, h1, h5, rfl⟩
    simp only at h0 h1 h5
    simp [claws_markGiveFieldS_L0, h0, h1, h5, Ce.slen]
  · obtain ⟨v, h', h1, rfl, h2, h3⟩ := runF_of (env := elaws_markGiveFieldS) (code := claws_markGiveFieldS) (rs := [.t 4]) (args := [.v (.c (.sl (.inr b) 0 l.length .own)), .v (.c (.int .i64 k))]) (h := h) (K := fun v h' => v = .v (.c (.int .i64 (k + 3 * l.length))) ∧ OwnF fField h' (.sl (.inr b) 0 l.length .own) (marksField k l.length) [b] ∧ Chg [b] h h') (by
      simp [claws_markGiveFieldS]
      refine AW_each l.length (fun i x => x.1 0 = .v (.c (.sl (.inr b) 0 l.length .own)) ∧ x.1 1 = .v (.c (.int .i64 (k + 3 * i))) ∧ x.1 5 = .v (.c (.int .i64 i)) ∧ Chg [b] h x.2.h ∧ x.2.h.hp b = some ⟨fField.all ((marksField k l.length).take i ++ l.drop i), 3, true⟩) ?_ ?_ ?_
      · simp [Chg.refl ho]
        exact hb
      · rintro i ⟨T, ⟨h', lc⟩⟩ hin ⟨h0, h1, h5, cg, hrow⟩
        simp only at h0 h1 h5 cg hrow
        obtain ⟨K0, k0⟩ : ∃ K, K = k + 3 * (i : Int) := ⟨_, rfl⟩
        rw [← k0] at h1
        obtain ⟨h2, t2, f2⟩ := laws_markText h' K0 cg.ok (by omega)
        obtain ⟨K1, k1⟩ : ∃ K, K = K0 + 1 := ⟨_, rfl⟩
        have w0 : IntKind.i64.wrap (K0 + 1) = K1 := by rw [k1]; exact wrap_i64 (by omega) (by omega)
        obtain ⟨K2, k2⟩ : ∃ K, K = K1 + 1 := ⟨_, rfl⟩
        have w1 : IntKind.i64.wrap (K1 + 1) = K2 := by rw [k2]; exact wrap_i64 (by omega) (by omega)
        obtain ⟨K3, k3⟩ : ∃ K, K = K2 + 1 := ⟨_, rfl⟩
        have w2 : IntKind.i64.wrap (K2 + 1) = K3 := by rw [k3]; exact wrap_i64 (by omega) (by omega)
        obtain ⟨L, hL⟩ : ∃ L, L = (marksField k l.length).take i ++ l.drop i := ⟨_, rfl⟩
        rw [← hL] at hrow
        have hblt := cg.ok.lt hrow
        have hrow2 : h2.hp b = some ⟨fField.all L, 3, true⟩ := by rw [f2.hp _ hblt]; exact hrow
        have hiL : i < L.length := by rw [hL]; simp [marksField]; omega
        have hLi : L[i] = l[i] := by
          simp only [hL]
          rw [List.getElem_append_right (by simp; omega)]
          simp [marksField, Nat.min_eq_left (Nat.le_of_lt hin)]
        have hlen : (fField.all L).length = l.length * 3 := by rw [fField.all_length, hL]; simp [fField, marksField]; omega
        have hlenS : ∀ B, (fField.all (L.set i B)).length = l.length * 3 := by intro B; rw [fField.all_length, List.length_set, ← fField.all_length, hlen]
        have s0 := fField.all_set L (i := i) (k := 0) hiL (by decide) (b := ⟨mtext K0, l[i].x, l[i].y⟩) (v := .str (mtext K0)) (by simp [fField, hLi])
        have s1 := fField.all_set (L.set i ⟨mtext K0, l[i].x, l[i].y⟩) (i := i) (k := 1) (by simpa using hiL) (by decide) (b := ⟨mtext K0, K1, l[i].y⟩) (v := .int .i64 K1) (by simp [fField])
        have s2 := fField.all_set (L.set i ⟨mtext K0, K1, l[i].y⟩) (i := i) (k := 2) (by simpa using hiL) (by decide) (b := ⟨mtext K0, K1, K2⟩) (v := .int .i64 K2) (by simp [fField])
        rw [List.set_set] at s1 s2
        simp only [show fField.sz = 3 from rfl, Nat.add_zero, Nat.add_assoc, Nat.reduceAdd] at s0 s1 s2
        have g1 := hlenS ⟨mtext K0, l[i].x, l[i].y⟩
        have g2 := hlenS ⟨mtext K0, K1, l[i].y⟩
        have q1 : i * 3 + 1 ≤ l.length * 3 := by omega
        have q2 : i * 3 + 2 ≤ l.length * 3 := by omega
        have q3 : i * 3 + 3 ≤ l.length * 3 := by omega
        have hw := wrap1 (i := i) (by omega)
        have he2 : (Ce.sl (Sum.inr b) 0 l.length .own).eltAt 3 i = some (.inr b, i * 3) := by simp [Ce.eltAt, hin]
        have hend : L.set i ⟨mtext K0, K1, K2⟩ = (marksField k l.length).take (i + 1) ++ l.drop (i + 1) := by
          rw [hL, ← take_drop_set _ _ hin (by rw [marksField_length]; omega), marksField_at]
          simp only [mkField, ← k0]
          congr 2 <;> omega
        have hK : K3 = k + 3 * ((i : Int) + 1) := by omega
        have c2 := (f2.chg (fp := [b])).trans (Chg.one f2.ok (Nat.lt_of_lt_of_le hblt f2.nx) (some ⟨fField.all (L.set i ⟨mtext K0, K1, K2⟩), 3, true⟩)) (fq := [b]) (fun _ h => h) (fun _ h => h)
        have c3 := cg.trans c2 (fq := [b]) (fun _ h => h) (fun _ h => h)
        simp [claws_markGiveFieldS_L0, h0, h1, h5, Ce.slen, hin, he2, upd_upd, hlen, elaws_markGiveFieldS_laws_markText, t2, hrow2, s0, w0, q1, g1, s1, w1, q2, g2, s2, w2, q3, hw]
        refine ⟨hK, c3, ?_⟩
        rw [hend]
      · rintro ⟨T, ⟨h', lc⟩⟩ ⟨h0, h1, h5, cg, hrow⟩
        simp only at h0 h1 h5 cg hrow
        have e1 : (marksField k l.length).take l.length = marksField k l.length := by
          apply List.take_of_length_le
          rw [marksField_length]; omega
        simp [e1] at hrow
        simp [claws_markGiveFieldS_L0, h0, h1, h5, Ce.slen]
        exact ⟨.inr ⟨b, by rw [marksField_length], hrow, rfl⟩, cg⟩)
    exact ⟨h', h1, h2, h3⟩
theorem laws_heldGiveFieldS {S : Nat → Prop} (h : Heap) (c : Ce) (n : Nat) (k : Int) (ho : HOk h) (hc : RdF fField S h c (marksField k n)) (hl : n ≤ 1048576) (hk : 0 ≤ k ∧ k ≤ 1152921504606846976) :
    ∃ h', Flaws_heldGiveFieldS [.v (.c c), .v (.c (.int .i64 k))] h = some (.v (.c (.int .i64 (k + 3 * n))), h') ∧ Fr h h' := by
  unfold Flaws_heldGiveFieldS
  have hsl := hc.slen
  rw [marksField_length] at hsl
  obtain ⟨v, h', h1, rfl, h2⟩ := runF_of (env := elaws_heldGiveFieldS) (code := claws_heldGiveFieldS) (rs := [.t 4]) (args := [.v (.c c), .v (.c (.int .i64 k))]) (h := h) (K := fun v h' => v = .v (.c (.int .i64 (k + 3 * n))) ∧ Fr h h') (by
    simp [claws_heldGiveFieldS]
    refine AW_each n (fun i x => x.1 0 = .v (.c c) ∧ x.1 1 = .v (.c (.int .i64 (k + 3 * i))) ∧ x.1 5 = .v (.c (.int .i64 i)) ∧ Fr h x.2.h) (by simp [Fr.refl ho, hc.noLoc]) ?_ ?_
    · rintro i ⟨T, ⟨h', lc⟩⟩ hin ⟨h0, h1, h5, fr⟩
      simp only at h0 h1 h5 fr
      obtain ⟨eb, ep, er, e1, _, e2, e3, e4, e5, e6, e7⟩ := (hc.keep ho fr).field (show i < (marksField k n).length by rw [marksField_length]; exact hin)
      rw [marksField_at] at e5 e6 e7
      simp only [mkField] at e5 e6 e7
      obtain ⟨K0, k0⟩ : ∃ K, K = k + 3 * (i : Int) := ⟨_, rfl⟩
      obtain ⟨h2, t2, f2⟩ := laws_markText h' K0 fr.ok (by omega)
      have e2' : h2.hp eb = some er := by rw [f2.hp _ (fr.ok.lt e2)]; exact e2
      obtain ⟨K1, k1⟩ : ∃ K, K = K0 + 1 := ⟨_, rfl⟩
      have w0 : IntKind.i64.wrap (K0 + 1) = K1 := by rw [k1]; exact wrap_i64 (by omega) (by omega)
      obtain ⟨K2, k2⟩ : ∃ K, K = K1 + 1 := ⟨_, rfl⟩
      have w1 : IntKind.i64.wrap (K1 + 1) = K2 := by rw [k2]; exact wrap_i64 (by omega) (by omega)
      obtain ⟨K3, k3⟩ : ∃ K, K = K2 + 1 := ⟨_, rfl⟩
      have w2 : IntKind.i64.wrap (K2 + 1) = K3 := by rw [k3]; exact wrap_i64 (by omega) (by omega)
      simp only [← k0] at h1 e5 e6 e7
      rw [show K0 + 1 = K1 by omega] at e6
      rw [show K0 + 2 = K2 by omega] at e7
      have hw := wrap1 (i := i) (by omega)
      have hK : K3 = k + 3 * ((i : Int) + 1) := by omega
      simp [claws_heldGiveFieldS_L0, h0, h1, h5, hsl, hin, e1, e2, e2', e5, e6, e7, elaws_heldGiveFieldS_laws_markText, t2, w0, w1, w2, hw]
      exact ⟨hK, fr.trans f2⟩
    · rintro ⟨T, ⟨h', lc⟩⟩ ⟨h0, h1, h5, fr⟩
      simp only at h0 h1 h5 fr
      simp [claws_heldGiveFieldS_L0, h0, h1, h5, hsl, fr])
  exact ⟨h', h1, h2⟩
theorem OwnS.update {α β : Type} {F : Fl β} {R : Heap → β → α → List Nat → Prop} {h : Heap} {c : Ce} {l : List α} {fp : List Nat} (k : OkR R) (o : OwnS F R h c l fp) {i : Nat} (hi : i < l.length) :
    ∃ (qb : Nat) (bs : List β) (f : List Nat) (hib : i < bs.length), c = .sl (.inr qb) 0 l.length .own ∧ bs.length = l.length ∧ h.hp qb = some ⟨F.all bs, F.sz, true⟩ ∧ R h bs[i] l[i] f ∧ qb ∈ fp ∧ qb ∉ f ∧ (∀ x, x ∈ f → x ∈ fp) ∧ f.Nodup ∧
      ∀ (h' : Heap) (b' : β) (a' : α), h'.hp qb = some ⟨F.all (bs.set i b'), F.sz, true⟩ → R h' b' a' f → (∀ x, x ∈ fp → x ≠ qb → x ∉ f → h'.hp x = h.hp x) → OwnS F R h' c (l.set i a') fp := by
  obtain ⟨bs, fps, q, h1, h2, h3, h4, rfl, h6⟩ := o
  rcases h1 with ⟨rfl, rfl, rfl⟩ | ⟨qb, rfl, hb, rfl⟩
  · simp at h2; omega
  · have hib : i < bs.length := by omega
    have hif : i < fps.length := by omega
    have hnd := List.nodup_append.1 h6
    have hmem : ∀ (j : Nat) (hj : j < fps.length) x, x ∈ fps[j] → x ∈ fps.flatten := fun j hj x hx => List.mem_flatten.2 ⟨_, List.getElem_mem hj, hx⟩
    have hdis : ∀ (j : Nat) (hj : j < fps.length), j ≠ i → ∀ x, x ∈ fps[j] → x ∉ fps[i] := by
      intro j hj hne x hx hx'
      have hp := List.pairwise_flatten.1 hnd.2.1
      have hpw := hp.2
      rw [List.pairwise_iff_getElem] at hpw
      rcases Nat.lt_or_gt_of_ne hne with hlt | hlt
      · exact hpw j i hj hif hlt x hx x hx' rfl
      · exact hpw i j hif hj hlt x hx' x hx rfl
    refine ⟨qb, bs, fps[i], hib, by rw [h2], h2, hb, h4 i _ _ _ (List.getElem?_eq_getElem hib) (List.getElem?_eq_getElem hi) (List.getElem?_eq_getElem hif), by simp, ?_, ?_, ?_, ?_⟩
    · intro hx
      exact hnd.2.2 qb (by simp) qb (hmem i hif _ hx) rfl
    · intro x hx
      rw [List.mem_append]
      exact .inr (hmem i hif x hx)
    · exact (List.pairwise_flatten.1 hnd.2.1).1 _ (List.getElem_mem hif)
    · intro h' b' a' hrow hR hfr
      refine ⟨bs.set i b', fps, [qb], .inr ⟨qb, by simp, hrow, rfl⟩, by simp [h2], by simp [h3], ?_, rfl, h6⟩
      intro j b a f hb' ha' hf'
      by_cases hji : j = i
      · subst hji
        rw [List.getElem?_set_self (by omega)] at hb' ha'
        rw [List.getElem?_eq_getElem hif] at hf'
        simp at hb' ha' hf'
        subst hb' ha' hf'
        exact hR
      · rw [List.getElem?_set_ne (Ne.symm hji)] at hb' ha'
        have hjl := (List.getElem?_eq_some_iff.1 ha').1
        have hjf : j < fps.length := by omega
        rw [List.getElem?_eq_getElem hjf] at hf'
        simp only [Option.some.injEq] at hf'
        subst hf'
        refine k.frame (fun x hx => hfr x ?_ ?_ (hdis j hjf hji x hx)) (h4 j b a _ hb' ha' (List.getElem?_eq_getElem hjf))
        · rw [List.mem_append]; exact .inr (hmem j hjf x hx)
        · rintro rfl
          exact hnd.2.2 x (by simp) x (hmem j hjf x hx) rfl

def cntHeld : List Held → Int
  | [] => 0
  | a :: r => 1 + 6 * (a.tube.length : Int) + 6 * (a.next.length : Int) + cntHeld r
theorem cntHeld_append (a b : List Held) : cntHeld (a ++ b) = cntHeld a + cntHeld b := by
  induction a with
  | nil => simp [cntHeld]
  | cons x r ih => simp only [List.cons_append, cntHeld, ih]; omega
theorem cntHeld_take (l : List Held) {i : Nat} (hi : i < l.length) : cntHeld (l.take (i + 1)) = cntHeld (l.take i) + (1 + 6 * (l[i].tube.length : Int) + 6 * (l[i].next.length : Int)) := by
  rw [List.take_add_one, List.getElem?_eq_getElem hi, cntHeld_append]
  simp [cntHeld]
theorem cntHeld_le (l : List Held) (ht : ∀ a, a ∈ l → a.tube.length ≤ 1048576 ∧ a.next.length ≤ 1048576) : 0 ≤ cntHeld l ∧ cntHeld l ≤ 13000000 * l.length := by
  induction l with
  | nil => simp [cntHeld]
  | cons x r ih =>
    have h1 := ht x (by simp)
    have h2 := ih fun a ha => ht a (by simp [ha])
    simp only [cntHeld, List.length_cons]
    omega
def mkHeld (k : Int) (a : Held) : Held := ⟨mtext k, marksBox (k + 1) a.tube.length, marksBox (k + 1 + 6 * a.tube.length) a.next.length⟩
def marksHeld (k : Int) (l : List Held) : List Held := (List.range l.length).map fun i => mkHeld (k + cntHeld (l.take i)) (l.getD i default)
theorem marksHeld_length (k : Int) (l : List Held) : (marksHeld k l).length = l.length := by simp [marksHeld]
theorem marksHeld_at (k : Int) (l : List Held) (i : Nat) (h : i < (marksHeld k l).length) (hl : i < l.length) : (marksHeld k l)[i] = mkHeld (k + cntHeld (l.take i)) l[i] := by simp [marksHeld, hl]

theorem laws_markGiveHeldS (h : Heap) (c : Ce) (l : List Held) (fp : List Nat) (k : Int) (ho : HOk h) (hc : OwnHeldS h c l fp) (hl : l.length ≤ 1048576) (ht : ∀ a, a ∈ l → a.tube.length ≤ 1048576 ∧ a.next.length ≤ 1048576) (hk : 0 ≤ k ∧ k ≤ 1099511627776) :
    ∃ h', Flaws_markGiveHeldS [.v (.c c), .v (.c (.int .i64 k))] h = some (.v (.c (.int .i64 (k + cntHeld l))), h') ∧ OwnHeldS h' c (marksHeld k l) fp ∧ Chg fp h h' := by
  unfold Flaws_markGiveHeldS
  have hcn := hc.noLoc
  have hcs := hc.slen
  obtain ⟨v, h', h1, rfl, h2, h3⟩ := runF_of (env := elaws_markGiveHeldS) (code := claws_markGiveHeldS) (rs := [.t 4]) (args := [.v (.c c), .v (.c (.int .i64 k))]) (h := h) (K := fun v h' => v = .v (.c (.int .i64 (k + cntHeld l))) ∧ OwnHeldS h' c (marksHeld k l) fp ∧ Chg fp h h') (by
    simp [claws_markGiveHeldS]
    refine AW_each l.length (fun i x => x.1 0 = .v (.c c) ∧ x.1 1 = .v (.c (.int .i64 (k + cntHeld (l.take i)))) ∧ x.1 5 = .v (.c (.int .i64 i)) ∧ Chg fp h x.2.h ∧ OwnHeldS x.2.h c ((marksHeld k l).take i ++ l.drop i) fp) ?_ ?_ ?_
    · simp [Chg.refl ho, cntHeld, hcn]
      exact hc
    · rintro i ⟨T, ⟨h', lc⟩⟩ hin ⟨h0, h1, h5, cg, ow⟩
      simp only at h0 h1 h5 cg ow
      have hcnt := cntHeld_le (l.take i) (fun a ha => ht a (List.mem_of_mem_take ha))
      have htl : (l.take i).length ≤ 1048576 := by rw [List.length_take]; omega
      obtain ⟨K0, k0⟩ : ∃ K, K = k + cntHeld (l.take i) := ⟨_, rfl⟩
      rw [← k0] at h1
      have hK0 : 0 ≤ K0 ∧ K0 ≤ 1152921504606846976 - 100000000 := by omega
      obtain ⟨t1, t2⟩ := ht _ (List.getElem_mem hin)
      obtain ⟨L, hL⟩ : ∃ L, L = (marksHeld k l).take i ++ l.drop i := ⟨_, rfl⟩
      rw [← hL] at ow
      have hiL : i < L.length := by rw [hL]; simp [marksHeld]; omega
      have hLl : L.length = l.length := by rw [hL]; simp [marksHeld]; omega
      have hLi : L[i] = l[i] := by
        simp only [hL]
        rw [List.getElem_append_right (by simp; omega)]
        simp [marksHeld, Nat.min_eq_left (Nat.le_of_lt hin)]
      obtain ⟨qb, bs, f, hib, rfl, hbl, hrow, hR, q1, q2, q3, q4, upd'⟩ := OwnS.update okHeld ow hiL
      rw [hLi] at hR
      obtain ⟨hn, f1, f2, o1, o2, rfl⟩ := hR
      have hqlt := cg.ok.lt hrow
      obtain ⟨ha, ta, fa⟩ := laws_markText h' K0 cg.ok (by omega)
      have hrowa : ha.hp qb = some ⟨fHeld.all bs, 3, true⟩ := by rw [fa.hp _ hqlt]; exact hrow
      -- the name is written
      have s0 := fHeld.all_set bs (i := i) (k := 0) hib (by decide) (b := ⟨mtext K0, bs[i].t, bs[i].x⟩) (v := .str (mtext K0)) (by simp [fHeld])
      simp only [show fHeld.sz = 3 from rfl, Nat.add_zero] at s0
      obtain ⟨hb, hbd⟩ : ∃ hb : Heap, hb = ⟨ha.nx, upd ha.hp qb (some ⟨fHeld.all (bs.set i ⟨mtext K0, bs[i].t, bs[i].x⟩), 3, true⟩)⟩ := ⟨_, rfl⟩
      have cb : Chg [qb] ha hb := by rw [hbd]; exact Chg.one fa.ok (Nat.lt_of_lt_of_le hqlt fa.nx) _
      have nd := List.nodup_append.1 q4
      have oa1 := (o1.chg cg.ok (Fr.chg (fp := []) fa) (by simp)).chg fa.ok cb (by
        intro x hx hn'
        simp at hn'
        subst hn'
        exact q2 (by simp [hx]))
      have oa2 := (o2.chg cg.ok (Fr.chg (fp := []) fa) (by simp)).chg fa.ok cb (by
        intro x hx hn'
        simp at hn'
        subst hn'
        exact q2 (by simp [hx]))
      obtain ⟨K1, k1⟩ : ∃ K, K = K0 + 1 := ⟨_, rfl⟩
      have w0 : IntKind.i64.wrap (K0 + 1) = K1 := by rw [k1]; exact wrap_i64 (by omega) (by omega)
      obtain ⟨hc', tc, oc, cc⟩ := laws_markGiveBoxS hb bs[i].t l[i].tube f1 K1 cb.ok oa1 t1 (by omega)
      obtain ⟨K2, k2⟩ : ∃ K, K = K1 + 6 * (l[i].tube.length : Int) := ⟨_, rfl⟩
      rw [← k2] at tc
      have oc2 := oa2.chg cb.ok cc (fun x hx hx' => nd.2.2 x hx' x hx rfl)
      obtain ⟨hd, td, od, cd⟩ := laws_markGiveBoxS hc' bs[i].x l[i].next f2 K2 cc.ok oc2 t2 (by omega)
      obtain ⟨K3, k3⟩ : ∃ K, K = K2 + 6 * (l[i].next.length : Int) := ⟨_, rfl⟩
      rw [← k3] at td
      have od1 := oc.chg cc.ok cd (fun x hx hx' => nd.2.2 x hx x hx' rfl)
      have hlen : (fHeld.all bs).length = l.length * 3 := by rw [fHeld.all_length, hbl, hLl]; rfl
      have hlen2 : (fHeld.all (bs.set i ⟨mtext K0, bs[i].t, bs[i].x⟩)).length = l.length * 3 := by rw [fHeld.all_length, List.length_set, hbl, hLl]; rfl
      have c1 := fHeld.all_cell (bs.set i ⟨mtext K0, bs[i].t, bs[i].x⟩) (i := i) (k := 1) (by simpa using hib) (by decide)
      have c2 := fHeld.all_cell (bs.set i ⟨mtext K0, bs[i].t, bs[i].x⟩) (i := i) (k := 2) (by simpa using hib) (by decide)
      rw [List.getElem_set_self] at c1 c2
      simp only [show fHeld.sz = 3 from rfl] at c1 c2
      replace c1 : (fHeld.all (bs.set i ⟨mtext K0, bs[i].t, bs[i].x⟩))[i * 3 + 1]? = some bs[i].t := c1
      replace c2 : (fHeld.all (bs.set i ⟨mtext K0, bs[i].t, bs[i].x⟩))[i * 3 + 2]? = some bs[i].x := c2
      have hrowb : hb.hp qb = some ⟨fHeld.all (bs.set i ⟨mtext K0, bs[i].t, bs[i].x⟩), 3, true⟩ := by rw [hbd]; simp [upd]
      have hqb : qb < hb.nx := cb.ok.lt hrowb
      have hrowc : hc'.hp qb = some ⟨fHeld.all (bs.set i ⟨mtext K0, bs[i].t, bs[i].x⟩), 3, true⟩ := by rw [cc.hp _ hqb (fun hx => q2 (by simp [hx]))]; exact hrowb
      have hrowd : hd.hp qb = some ⟨fHeld.all (bs.set i ⟨mtext K0, bs[i].t, bs[i].x⟩), 3, true⟩ := by rw [cd.hp _ (cc.ok.lt hrowc) (fun hx => q2 (by simp [hx]))]; exact hrowc
      have q5 : i * 3 + 1 ≤ l.length * 3 := by omega
      have hw := wrap1 (i := i) (by omega)
      have he2 : (Ce.sl (Sum.inr qb) 0 l.length .own).eltAt 3 i = some (.inr qb, i * 3) := by simp [Ce.eltAt, hin]
      -- all that turned
      have ctot : Chg fp h' hd := by
        have x1 := (fa.chg (fp := fp)).trans cb (fq := fp) (fun _ h => h) (fun t ht => by simp at ht; subst ht; exact q1)
        have x2 := x1.trans cc (fq := fp) (fun _ h => h) (fun t ht => q3 t (by simp [ht]))
        exact x2.trans cd (fq := fp) (fun _ h => h) (fun t ht => q3 t (by simp [ht]))
      have hown := upd' hd ⟨mtext K0, bs[i].t, bs[i].x⟩ (mkHeld K0 l[i]) hrowd ⟨rfl, f1, f2, (by have q := od1; rw [k1] at q; exact q), (by have q := od; rw [k2, k1] at q; exact q), rfl⟩ (by
        intro x hx hne hnf
        have hxl := ow.lt okHeld cg.ok hx
        rw [List.mem_append, not_or] at hnf
        rw [cd.hp x (Nat.lt_of_lt_of_le (Nat.lt_of_lt_of_le (Nat.lt_of_lt_of_le hxl fa.nx) cb.nx) cc.nx) hnf.2, cc.hp x (Nat.lt_of_lt_of_le (Nat.lt_of_lt_of_le hxl fa.nx) cb.nx) hnf.1, cb.hp x (Nat.lt_of_lt_of_le hxl fa.nx) (by simpa using hne), fa.hp x hxl])
      have hend : L.set i (mkHeld K0 l[i]) = (marksHeld k l).take (i + 1) ++ l.drop (i + 1) := by
        rw [hL, ← take_drop_set _ _ hin (by rw [marksHeld_length]; omega), marksHeld_at _ _ _ _ hin, ← k0]
      have hK : K3 = k + cntHeld (l.take (i + 1)) := by rw [cntHeld_take _ hin]; omega
      have n1 := o1.noLoc
      have n2 := o2.noLoc
      rw [hend] at hown
      simp [claws_markGiveHeldS_L0, h0, h1, h5, Ce.slen, hLl, hin, he2, elaws_markGiveHeldS_laws_markText, elaws_markGiveHeldS_laws_markGiveBoxS, ta, hrowa, hlen, s0, q5, w0, ← hbd, hrowb, c1, n1, n2, tc, hrowc, c2, td, hw]
      rw [hLl] at hown
      exact ⟨hK, cg.trans ctot (fun _ h => h) (fun _ h => h), hown⟩
    · rintro ⟨T, ⟨h', lc⟩⟩ ⟨h0, h1, h5, cg, ow⟩
      simp only at h0 h1 h5 cg ow
      have e1 : (marksHeld k l).take l.length = marksHeld k l := by
        apply List.take_of_length_le
        rw [marksHeld_length]; omega
      rw [e1, List.drop_length, List.append_nil] at ow
      rw [List.take_length] at h1
      simp [claws_markGiveHeldS_L0, h0, h1, h5, hcs]
      exact ⟨ow, cg⟩)
  exact ⟨h', h1, h2, h3⟩
theorem laws_heldGiveHeldS {S : Nat → Prop} (h : Heap) (c : Ce) (l : List Held) (hs : List HeldC) (k : Int) (ho : HOk h) (hc : RdF fHeld S h c hs) (hlen : hs.length = l.length) (hel : ∀ i (hi : i < hs.length) (hi' : i < (marksHeld k l).length), RdHeld S h hs[i] (marksHeld k l)[i]) (hl : l.length ≤ 1048576) (ht : ∀ a, a ∈ l → a.tube.length ≤ 1048576 ∧ a.next.length ≤ 1048576) (hk : 0 ≤ k ∧ k ≤ 1099511627776) :
    ∃ h', Flaws_heldGiveHeldS [.v (.c c), .v (.c (.int .i64 k))] h = some (.v (.c (.int .i64 (k + cntHeld l))), h') ∧ Fr h h' := by
  unfold Flaws_heldGiveHeldS
  have hsl := hc.slen
  obtain ⟨v, h', h1, rfl, h2⟩ := runF_of (env := elaws_heldGiveHeldS) (code := claws_heldGiveHeldS) (rs := [.t 4]) (args := [.v (.c c), .v (.c (.int .i64 k))]) (h := h) (K := fun v h' => v = .v (.c (.int .i64 (k + cntHeld l))) ∧ Fr h h') (by
    simp [claws_heldGiveHeldS]
    refine AW_each hs.length (fun i x => x.1 0 = .v (.c c) ∧ x.1 1 = .v (.c (.int .i64 (k + cntHeld (l.take i)))) ∧ x.1 5 = .v (.c (.int .i64 i)) ∧ Fr h x.2.h) (by simp [Fr.refl ho, hc.noLoc, cntHeld]) ?_ ?_
    · rintro i ⟨T, ⟨h', lc⟩⟩ hin ⟨h0, h1, h5, fr⟩
      simp only at h0 h1 h5 fr
      have hil : i < l.length := by omega
      obtain ⟨eb, ep, er, e1, _, e2, e3, e4, e5, e6, e7⟩ := (hc.keep ho fr).heldc hin
      have hri := hel i hin (by rw [marksHeld_length]; exact hil)
      rw [marksHeld_at _ _ _ _ hil] at hri
      obtain ⟨hn, hrt, hrx⟩ := hri
      have hcnt := cntHeld_le (l.take i) (fun a ha => ht a (List.mem_of_mem_take ha))
      have htl : (l.take i).length ≤ 1048576 := by rw [List.length_take]; omega
      obtain ⟨K0, k0⟩ : ∃ K, K = k + cntHeld (l.take i) := ⟨_, rfl⟩
      rw [← k0] at h1 hn hrt hrx
      have hK0 : 0 ≤ K0 ∧ K0 ≤ 1152921504606846976 - 100000000 := by omega
      obtain ⟨t1, t2⟩ := ht _ (List.getElem_mem hil)
      simp only [mkHeld] at hn hrt hrx
      obtain ⟨K1, k1⟩ : ∃ K, K = K0 + 1 := ⟨_, rfl⟩
      have w0 : IntKind.i64.wrap (K0 + 1) = K1 := by rw [k1]; exact wrap_i64 (by omega) (by omega)
      obtain ⟨K2, k2⟩ : ∃ K, K = K1 + 6 * (l[i].tube.length : Int) := ⟨_, rfl⟩
      obtain ⟨K3, k3⟩ : ∃ K, K = K2 + 6 * (l[i].next.length : Int) := ⟨_, rfl⟩
      rw [← k1] at hrt
      rw [← k1, ← k2] at hrx
      obtain ⟨h2, tt, f2⟩ := laws_markText h' K0 fr.ok (by omega)
      have e2' : h2.hp eb = some er := by rw [f2.hp _ (fr.ok.lt e2)]; exact e2
      have g1 := laws_heldGiveBoxS h2 hs[i].t l[i].tube.length K1 ((hrt.keep ho fr).keep fr.ok f2) t1 (by omega)
      have g2 := laws_heldGiveBoxS h2 hs[i].x l[i].next.length K2 ((hrx.keep ho fr).keep fr.ok f2) t2 (by omega)
      rw [← k2] at g1
      rw [← k3] at g2
      have hw := wrap1 (i := i) (by omega)
      have hK : K3 = k + cntHeld (l.take (i + 1)) := by rw [cntHeld_take _ hil]; omega
      have m1 : ¬ K2 < 0 := by omega
      have m2 : ¬ K3 < 0 := by omega
      simp [claws_heldGiveHeldS_L0, h0, h1, h5, hsl, hin, e1, e2, e2', e5, e6, e7, hn, hrt.noLoc, hrx.noLoc, elaws_heldGiveHeldS_laws_markText, elaws_heldGiveHeldS_laws_heldGiveBoxS, tt, w0, g1, g2, m1, m2, hw]
      exact ⟨hK, fr.trans f2⟩
    · rintro ⟨T, ⟨h', lc⟩⟩ ⟨h0, h1, h5, fr⟩
      simp only at h0 h1 h5 fr
      rw [hlen, List.take_length] at h1
      simp [claws_heldGiveHeldS_L0, h0, h1, h5, hsl, fr])
  exact ⟨h', h1, h2⟩

/-- A book, marked. -/
def marksBook (k : Int) (b : Book) : Book := ⟨b.now, marksField k b.fields.length, marksHeld (k + 3 * b.fields.length) b.held⟩
def cntBook (b : Book) : Int := 3 * (b.fields.length : Int) + cntHeld b.held
theorem cntBook_le {b : Book} (sm : SmallBook b) : 0 ≤ cntBook b ∧ cntBook b ≤ 1099511627776 * 16 := by
  have := cntHeld_le b.held sm.t
  have := sm.f
  have := sm.h
  unfold cntBook
  omega
theorem laws_markGiveBook (h : Heap) (c : BookC) (b : Book) (fp : List Nat) (k : Int) (ho : HOk h) (hc : OwnBook h c b fp) (sm : SmallBook b) (hk : 0 ≤ k ∧ k ≤ 100000000) :
    ∃ h', Flaws_markGiveBook [.v (.agg c.ces), .v (.c (.int .i64 k))] h = some (.v (.c (.int .i64 (k + cntBook b))), h') ∧ OwnBook h' c (marksBook k b) fp ∧ Chg fp h h' := by
  unfold Flaws_markGiveBook
  obtain ⟨hn, f1, f2, o1, o2, rfl, nd⟩ := hc
  have nd' := List.nodup_append.1 nd
  have hsf := sm.f
  obtain ⟨h1, t1, p1, c1⟩ := laws_markGiveFieldS h c.f b.fields f1 k ho o1 sm.f (by omega)
  have o2' := o2.chg okHeld ho c1 (fun x hx hx' => nd'.2.2 x hx' x hx rfl)
  obtain ⟨h2, t2, p2, c2⟩ := laws_markGiveHeldS h1 c.hd b.held f2 (k + 3 * b.fields.length) c1.ok o2' sm.h sm.t (by omega)
  have p1' := p1.chg c1.ok c2 (fun x hx hx' => nd'.2.2 x hx x hx' rfl)
  have e1 : c.ces[1]? = some c.f := rfl
  have e2 : c.ces[2]? = some c.hd := rfl
  refine ⟨h2, runF_eq ?_, ⟨hn, f1, f2, p1', p2, rfl, nd⟩, c1.trans c2 (fun x hx => by simp [hx]) (fun x hx => by simp [hx])⟩
  simp [claws_markGiveBook, e1, e2, o1.noLoc, o2.noLoc, elaws_markGiveBook_laws_markGiveFieldS, elaws_markGiveBook_laws_markGiveHeldS, t1, t2]
  unfold cntBook
  omega
theorem laws_heldGiveBook {S : Nat → Prop} (h : Heap) (c : BookC) (b : Book) (k : Int) (ho : HOk h) (hr : RdBook S h c (marksBook k b)) (sm : SmallBook b) (hk : 0 ≤ k ∧ k ≤ 100000000) :
    ∃ h', Flaws_heldGiveBook [.v (.agg c.ces), .v (.c (.int .i64 k))] h = some (.v (.c (.int .i64 (k + cntBook b))), h') ∧ Fr h h' := by
  unfold Flaws_heldGiveBook
  obtain ⟨hn, hf, hs, hh, hlen, hel⟩ := hr
  have hsf := sm.f
  obtain ⟨h1, t1, f1⟩ := laws_heldGiveFieldS h c.f b.fields.length k ho hf sm.f (by omega)
  simp only [marksBook] at hlen hel
  obtain ⟨h2, t2, f2⟩ := laws_heldGiveHeldS h1 c.hd b.held hs (k + 3 * b.fields.length) f1.ok (hh.keep ho f1) (by rw [hlen, marksHeld_length]) (fun i hi hi' => (hel i hi hi').keep ho f1) sm.h sm.t (by omega)
  have e1 : c.ces[1]? = some c.f := rfl
  have e2 : c.ces[2]? = some c.hd := rfl
  have hc := cntHeld_le b.held sm.t
  have m1 : ¬ k + 3 * (b.fields.length : Int) < 0 := by omega
  have m2 : ¬ k + 3 * (b.fields.length : Int) + cntHeld b.held < 0 := by omega
  refine ⟨h2, runF_eq ?_, f1.trans f2⟩
  simp [claws_heldGiveBook, e1, e2, hf.noLoc, hh.noLoc, elaws_heldGiveBook_laws_heldGiveFieldS, elaws_heldGiveBook_laws_heldGiveHeldS, t1, t2, m1, m2]
  unfold cntBook
  omega
theorem RdHeld.chg {S : Nat → Prop} {h h' : Heap} {fp : List Nat} {c : HeldC} {a : Held} (hr : RdHeld S h c a) (ho : HOk h) (f : Chg fp h h') (hS : ∀ b, S b → b ∉ fp) : RdHeld S h' c a := ⟨hr.name, hr.t.chg ho f hS, hr.x.chg ho f hS⟩
theorem RdBook.chg {S : Nat → Prop} {h h' : Heap} {fp : List Nat} {c : BookC} {b : Book} (hr : RdBook S h c b) (ho : HOk h) (f : Chg fp h h') (hS : ∀ b, S b → b ∉ fp) : RdBook S h' c b := by
  obtain ⟨hs, h1, h2, h3⟩ := hr.hd
  exact ⟨hr.now, hr.f.chg ho f hS, hs, h1.chg ho f hS, h2, fun i hi hi' => (h3 i hi hi').chg ho f hS⟩
theorem RdWish.chg {S : Nat → Prop} {h h' : Heap} {fp : List Nat} {c : WishC} {a : Wish} (hr : RdWish S h c a) (ho : HOk h) (f : Chg fp h h') (hS : ∀ b, S b → b ∉ fp) : RdWish S h' c a := by
  obtain ⟨hs, h1, h2, h3⟩ := hr.ws
  exact ⟨hr.name, hr.quick, hr.slow, hr.from_, hr.by_, hr.late, ⟨hs, h1.chg ho f hS, h2, fun i hi hi' => (h3 i hi hi').chg ho f hS⟩, hr.ls.chg ho f hS⟩
theorem marksBook_small {b : Book} {k : Int} (sm : SmallBook b) : SmallBook (marksBook k b) := by
  refine ⟨by simp [marksBook, marksField_length, sm.f], by simp [marksBook, marksHeld_length, sm.h], fun a ha => ?_⟩
  obtain ⟨i, hi, rfl⟩ := List.getElem_of_mem ha
  simp only [marksBook] at hi ⊢
  have hl : i < b.held.length := by rwa [marksHeld_length] at hi
  rw [marksHeld_at _ _ _ _ hl]
  simp only [mkHeld, marksBox_length]
  exact sm.t _ (List.getElem_mem hl)
end Go.Abs
