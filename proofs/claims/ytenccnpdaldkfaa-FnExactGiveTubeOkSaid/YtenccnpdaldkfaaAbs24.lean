/-
  Tools for evaluating the abstract machine's codes; boxes.
-/
import Derived.Test.YtenccnpdaldkfaaAbs23
namespace Go.Abs

def AW (env : Env) (c : ACode) (Q : Ex → X → Prop) (x : X) : Prop := ∃ e y, aexec env c x = some (e, y) ∧ Q e y
def RW (env : Env) (l : List AO) (Q : Ex → X → Prop) (x : X) : Prop := ∃ y, runOps env l x = some y ∧ Q .normal y
def SW (env : Env) (d : Option Nat) (l : List AO) (Q : Ex → X → Prop) (T : Nat → Av) (r : Option (Av × St)) : Prop := ∃ v s, r = some (v, s) ∧ RW env l Q (upo T d v, s)
def ThenQ (env : Env) (b : ACode) (Q : Ex → X → Prop) (e : Ex) (x : X) : Prop :=
  match e with
  | .normal => AW env b Q x
  | e => Q e x
def BlockQ (id : Nat) (Q : Ex → X → Prop) (e : Ex) (x : X) : Prop :=
  match e with
  | .exit j => if j = id then Q .normal x else Q (.exit j) x
  | e => Q e x
def CW (env : Env) (Q : Ex → X → Prop) (x : X) (a b : ACode) (r : Option Bool) : Prop := ∃ t, r = some t ∧ AW env (if t then a else b) Q x
def GW (env : Env) (d : Option Nat) (op : AOp) (b : Bool) (l : List AO) (Q : Ex → X → Prop) (T : Nat → Av) (s : St) (g : Av) : Prop :=
  match g with
  | .v (.c (.bool x)) => if x = b then SW env d l Q T (aop env d T s op) else RW env l Q (upo T d (.tup []), s)
  | .tup _ => RW env l Q (upo T d (.tup []), s)
  | _ => False
def killT (ds : List Nat) (T : Nat → Av) : Nat → Av := fun t => killV ds (T t)
def killL (ds : List Nat) (l : Nat → Option Row) : Nat → Option Row := fun k => if ds.contains k then none else l k
def nol : Nat → Option Row := fun _ => none

section
variable {env : Env} {Q : Ex → X → Prop} {x : X} {T : Nat → Av} {s : St} {l : List AO} {d : Option Nat} {a b : ACode}

theorem AW_skip : AW env .skip Q x = Q .normal x := propext ⟨fun ⟨e, y, h, hq⟩ => by simp only [aexec, Option.some.injEq, Prod.mk.injEq] at h; obtain ⟨rfl, rfl⟩ := h; exact hq, fun h => ⟨.normal, x, rfl, h⟩⟩
theorem AW_exit {i : Nat} : AW env (.exit i) Q x = Q (.exit i) x := propext ⟨fun ⟨e, y, h, hq⟩ => by simp only [aexec, Option.some.injEq, Prod.mk.injEq] at h; obtain ⟨rfl, rfl⟩ := h; exact hq, fun h => ⟨.exit i, x, rfl, h⟩⟩
theorem AW_ret : AW env .ret Q x = Q .ret x := propext ⟨fun ⟨e, y, h, hq⟩ => by simp only [aexec, Option.some.injEq, Prod.mk.injEq] at h; obtain ⟨rfl, rfl⟩ := h; exact hq, fun h => ⟨.ret, x, rfl, h⟩⟩
theorem AW_seq : AW env (.seq a b) Q x = AW env a (ThenQ env b Q) x := by
  refine propext ⟨?_, ?_⟩
  · rintro ⟨e, y, h, hq⟩
    simp only [aexec] at h
    split at h
    · rename_i z hz
      exact ⟨_, z, hz, e, y, h, hq⟩
    · rename_i hne
      refine ⟨e, y, h, ?_⟩
      cases e with
      | normal => exact (hne y h).elim
      | _ => exact hq
  · rintro ⟨e, y, h, hq⟩
    cases e with
    | normal =>
      obtain ⟨e', y', h', hq'⟩ := hq
      exact ⟨e', y', by simp only [aexec, h]; exact h', hq'⟩
    | exit i => exact ⟨.exit i, y, by simp only [aexec, h], hq⟩
    | ret => exact ⟨.ret, y, by simp only [aexec, h], hq⟩
theorem AW_block {i : Nat} : AW env (.block i a) Q x = AW env a (BlockQ i Q) x := by
  refine propext ⟨?_, ?_⟩
  · rintro ⟨e, y, h, hq⟩
    simp only [aexec] at h
    split at h
    · rename_i j z hz
      refine ⟨_, z, hz, ?_⟩
      simp only [BlockQ]
      split at h
      · rename_i hj
        simp only [Option.some.injEq, Prod.mk.injEq] at h
        obtain ⟨rfl, rfl⟩ := h
        rw [if_pos hj]; exact hq
      · rename_i hj
        simp only [Option.some.injEq, Prod.mk.injEq] at h
        obtain ⟨rfl, rfl⟩ := h
        rw [if_neg hj]; exact hq
    · rename_i hne
      refine ⟨e, y, h, ?_⟩
      cases e with
      | exit j => exact (hne j y h).elim
      | _ => exact hq
  · rintro ⟨e, y, h, hq⟩
    cases e with
    | exit j =>
      simp only [BlockQ] at hq
      by_cases hj : j = i
      · rw [if_pos hj] at hq
        exact ⟨.normal, y, by simp only [aexec, h]; rw [if_pos hj], hq⟩
      · rw [if_neg hj] at hq
        exact ⟨.exit j, y, by simp only [aexec, h]; rw [if_neg hj], hq⟩
    | normal => exact ⟨.normal, y, by simp only [aexec, h], hq⟩
    | ret => exact ⟨.ret, y, by simp only [aexec, h], hq⟩
theorem AW_cond {c : Opd} : AW env (.cond c a b) Q (T, s) = CW env Q (T, s) a b (ev T c).bool? := by
  refine propext ⟨?_, ?_⟩
  · rintro ⟨e, y, h, hq⟩
    simp only [aexec] at h
    split at h
    · rename_i t ht
      exact ⟨t, ht, e, y, by cases t <;> simpa using h, hq⟩
    · simp at h
  · rintro ⟨t, ht, e, y, h, hq⟩
    exact ⟨e, y, by simp only [aexec, ht]; cases t <;> simpa using h, hq⟩
theorem CW_some {t : Bool} : CW env Q x a b (some t) = if t = true then AW env a Q x else AW env b Q x := by
  cases t <;> simp [CW]
theorem AW_reg {ds : List Nat} {ops : List AO} : AW env (.reg ds ops) Q x = RW env ops Q (kill ds x) := by
  refine propext ⟨?_, ?_⟩
  · rintro ⟨e, y, h, hq⟩
    simp only [aexec, Option.map_eq_some_iff, Prod.mk.injEq] at h
    obtain ⟨z, hz, rfl, rfl⟩ := h
    exact ⟨z, hz, hq⟩
  · rintro ⟨y, h, hq⟩
    exact ⟨.normal, y, by simp only [aexec, h, Option.map_some], hq⟩
theorem trace_run : ∀ {ops : List AO} {p : X}, (runTrace env ops p).bind (fun tr => tr[ops.length]?) = runOps env ops p
  | [], p => rfl
  | o :: r, p => by
    simp only [runTrace, runOps]
    cases stepO env o p with
    | none => rfl
    | some p' =>
      simp only [Option.bind_some]
      rw [← trace_run (ops := r) (p := p')]
      cases runTrace env r p' with
      | none => rfl
      | some tr => simp
theorem AW_regD {ds : List Nat} {ops : List AO} : AW env (.regD ds ops []) Q x = RW env ops Q (kill ds x) := by
  have : ∀ p, runRegD env ops [] p = runOps env ops p := by
    intro p
    rw [← trace_run]
    simp [runRegD, chkAll]
  rw [← AW_reg]
  simp only [AW, aexec, this]
theorem RW_nil : RW env [] Q x = Q .normal x := by simp [RW, runOps]
theorem RW_cons {op : AOp} : RW env (⟨d, op, none⟩ :: l) Q (T, s) = SW env d l Q T (aop env d T s op) := by
  simp only [RW, SW, runOps, stepO, wantedA]
  refine propext ⟨?_, ?_⟩
  · rintro ⟨y, h, hq⟩
    simp only [Option.bind_eq_some_iff, Option.map_eq_some_iff] at h
    obtain ⟨p, ⟨⟨v, s'⟩, ha, rfl⟩, h2⟩ := h
    exact ⟨v, s', ha, y, h2, hq⟩
  · rintro ⟨v, s', ha, y, h2, hq⟩
    exact ⟨y, by simp [ha, h2], hq⟩
theorem RW_guard {op : AOp} {t : Nat} {c : Bool} : RW env (⟨d, op, some (t, c)⟩ :: l) Q (T, s) = GW env d op c l Q T s (T t) := by
  unfold GW
  split
  · rename_i y hy
    by_cases hyc : y = c
    · subst hyc
      rw [if_pos rfl]
      simp only [RW, SW, runOps, stepO, wantedA, hy]
      refine propext ⟨?_, ?_⟩
      · rintro ⟨y, h, hq⟩
        simp only [beq_self_eq_true, Option.bind_eq_some_iff, Option.map_eq_some_iff] at h
        obtain ⟨p, ⟨⟨v, s'⟩, ha, rfl⟩, h2⟩ := h
        exact ⟨v, s', ha, y, h2, hq⟩
      · rintro ⟨v, s', ha, y, h2, hq⟩
        exact ⟨y, by simp [ha, h2], hq⟩
    · rw [if_neg hyc]
      have hb : (y == c) = false := by simpa using hyc
      simp [RW, runOps, stepO, wantedA, hy, hb]
  · rename_i k hk
    simp [RW, runOps, stepO, wantedA, hk]
  · rename_i h1 h2
    have : wantedA T ⟨d, op, some (t, c)⟩ = none := by
      unfold wantedA
      simp only
    simp [RW, runOps, stepO, this]
theorem GW_bool {op : AOp} {c y : Bool} : GW env d op c l Q T s (.v (.c (.bool y))) = if y = c then SW env d l Q T (aop env d T s op) else RW env l Q (upo T d (.tup []), s) := rfl
theorem GW_tup {op : AOp} {c : Bool} {k : List Tv} : GW env d op c l Q T s (.tup k) = RW env l Q (upo T d (.tup []), s) := rfl
theorem SW_some {v : Av} : SW env d l Q T (some (v, s)) = RW env l Q (upo T d v, s) := by
  refine propext ⟨?_, fun h => ⟨v, s, rfl, h⟩⟩
  rintro ⟨v', s', h, k⟩
  simp only [Option.some.injEq, Prod.mk.injEq] at h
  obtain ⟨rfl, rfl⟩ := h
  exact k
theorem ThenQ_normal : ThenQ env b Q .normal x = AW env b Q x := rfl
theorem ThenQ_exit {i : Nat} : ThenQ env b Q (.exit i) x = Q (.exit i) x := rfl
theorem ThenQ_ret : ThenQ env b Q .ret x = Q .ret x := rfl
theorem BlockQ_normal {i : Nat} : BlockQ i Q .normal x = Q .normal x := rfl
theorem BlockQ_exit {i j : Nat} : BlockQ i Q (.exit j) x = if j = i then Q .normal x else Q (.exit j) x := rfl
theorem BlockQ_ret {i : Nat} : BlockQ i Q .ret x = Q .ret x := rfl
theorem kill_nil : kill [] x = x := rfl
theorem kill_cons {k : Nat} {ds : List Nat} {h : Heap} {lc : Nat → Option Row} : kill (k :: ds) (T, ⟨h, lc⟩) = (killT (k :: ds) T, ⟨h, killL (k :: ds) lc⟩) := rfl
theorem killT_at {ds : List Nat} {n : Nat} : killT ds T n = killV ds (T n) := rfl
theorem killL_at {ds : List Nat} {lc : Nat → Option Row} {n : Nat} : killL ds lc n = if ds.contains n then none else lc n := rfl
theorem upo_some {α : Type} (f : Nat → α) (i : Nat) (v : α) : upo f (some i) v = upd f i v := rfl
theorem upo_none {α : Type} (f : Nat → α) (v : α) : upo f none v = f := rfl
theorem ev_t {n : Nat} : ev T (.t n) = T n := rfl
theorem ev_k {v : Av} : ev T (.k v) = v := rfl

/-- The end of a function. -/
def FinQ (rs : List RV) (K : Av → Heap → Prop) (e : Ex) (x : X) : Prop :=
  match e with
  | .exit _ => False
  | _ => ∃ l, ressA x rs = some l ∧ K (resOf l) x.2.h
theorem FinQ_ret {rs : List RV} {K : Av → Heap → Prop} : FinQ rs K .ret x = ∃ l, ressA x rs = some l ∧ K (resOf l) x.2.h := rfl
theorem FinQ_normal {rs : List RV} {K : Av → Heap → Prop} : FinQ rs K .normal x = ∃ l, ressA x rs = some l ∧ K (resOf l) x.2.h := rfl
theorem runF_of {code : ACode} {rs : List RV} {args : List Av} {h : Heap} {K : Av → Heap → Prop} (hw : AW env code (FinQ rs K) (argsT args, ⟨h, nol⟩)) : ∃ v h', runF env code rs args h = some (v, h') ∧ K v h' := by
  obtain ⟨e, y, h1, h2⟩ := hw
  cases e with
  | exit i => exact h2.elim
  | normal =>
    obtain ⟨l, h3, h4⟩ := h2
    exact ⟨_, _, by simp only [runF, show (fun _ => none : Nat → Option Row) = nol from rfl, h1, Option.bind_some, h3, Option.map_some], h4⟩
  | ret =>
    obtain ⟨l, h3, h4⟩ := h2
    exact ⟨_, _, by simp only [runF, show (fun _ => none : Nat → Option Row) = nol from rfl, h1, Option.bind_some, h3, Option.map_some], h4⟩
theorem runF_eq {code : ACode} {rs : List RV} {args : List Av} {h : Heap} {v : Av} {h' : Heap} (hw : AW env code (FinQ rs fun v' k => v' = v ∧ k = h') (argsT args, ⟨h, nol⟩)) : runF env code rs args h = some (v, h') := by
  obtain ⟨v', k, h1, rfl, rfl⟩ := runF_of hw
  exact h1
theorem callA_of {f : Nat} {F : Fun} {xs : List Av} {v : Av} {h : Heap} (he : env f = some F) (hn : noLocs xs = true) (hF : F xs s.h = some (v, h)) : callA env f xs s = some (v, { s with h := h }) := by
  simp [callA, he, hn, hF]
/-- A loop of n rounds at most. -/
theorem AW_loop (I : Nat → X → Prop) (n : Nat) (h0 : I 0 x) (step : ∀ i x, i ≤ n → I i x → AW env a (fun e y => (e = .normal ∧ i < n ∧ I (i + 1) y) ∨ (e ≠ .normal ∧ Q e y)) x) : AW env (.loop a) Q x := by
  obtain ⟨e, y, h1, h2⟩ := loop_rounds (f := aexec env a) (I := I) (Q := Q) n (fun i x hi h => step i x hi h) h0
  exact ⟨e, y, h1, h2⟩
end

section
variable {ds : List Nat}
theorem killV_int {k : IntKind} {n : Int} : killV ds (.v (.c (.int k n))) = .v (.c (.int k n)) := rfl
theorem killV_bool {b : Bool} : killV ds (.v (.c (.bool b))) = .v (.c (.bool b)) := rfl
theorem killV_str {b : ByteArray} : killV ds (.v (.c (.str b))) = .v (.c (.str b)) := rfl
theorem killV_nils : killV ds (.v (.c .nils)) = .v (.c .nils) := rfl
theorem killV_nilp : killV ds (.v (.c .nilp)) = .v (.c .nilp) := rfl
theorem killV_agg {l : List Ce} : killV ds (.v (.agg l)) = .v (.agg l) := rfl
theorem killV_no : killV ds .no = .no := rfl
theorem killV_tup {l : List Tv} : killV ds (.tup l) = if l.all Tv.noLoc then .tup l else .no := rfl
theorem killV_ptrl {k o : Nat} : killV ds (.v (.c (.ptr (.inl k) o))) = if ds.contains k then .no else .v (.c (.ptr (.inl k) o)) := rfl
theorem killV_ptrr {k o : Nat} : killV ds (.v (.c (.ptr (.inr k) o))) = .v (.c (.ptr (.inr k) o)) := rfl
theorem killV_sll {k o n : Nat} {m : Md} : killV ds (.v (.c (.sl (.inl k) o n m))) = if ds.contains k then .no else .v (.c (.sl (.inl k) o n m)) := rfl
theorem killV_slr {k o n : Nat} {m : Md} : killV ds (.v (.c (.sl (.inr k) o n m))) = .v (.c (.sl (.inr k) o n m)) := rfl
theorem killV_fn {f : Nat} {ps : List (Key × Nat)} : killV ds (.v (.c (.fn f ps))) = if ps.all (fun p => !keyLoc p.1) then .v (.c (.fn f ps)) else .no := rfl
theorem killV_noLoc {c : Ce} (h : c.noLoc = true) : killV ds (.v (.c c)) = .v (.c c) := by
  cases c with
  | ptr q o =>
    cases q with
    | inl k => simp [Ce.noLoc, keyLoc] at h
    | inr b => rfl
  | sl q o n m =>
    cases q with
    | inl k => simp [Ce.noLoc, keyLoc] at h
    | inr b => rfl
  | fn f ps =>
    rw [killV_fn, if_pos]
    exact h
  | _ => rfl
end

section
theorem noLoc_int {k : IntKind} {n : Int} : (Ce.int k n).noLoc = true := rfl
theorem noLoc_bool {b : Bool} : (Ce.bool b).noLoc = true := rfl
theorem noLoc_str {b : ByteArray} : (Ce.str b).noLoc = true := rfl
theorem noLoc_nils : Ce.nils.noLoc = true := rfl
theorem noLoc_nilp : Ce.nilp.noLoc = true := rfl
theorem noLoc_ptrl {k o : Nat} : (Ce.ptr (.inl k) o).noLoc = false := rfl
theorem noLoc_ptrr {k o : Nat} : (Ce.ptr (.inr k) o).noLoc = true := rfl
theorem noLoc_sll {k o n : Nat} {m : Md} : (Ce.sl (.inl k) o n m).noLoc = false := rfl
theorem noLoc_slr {k o n : Nat} {m : Md} : (Ce.sl (.inr k) o n m).noLoc = true := rfl
theorem noLoc_fn {f : Nat} {ps : List (Key × Nat)} : (Ce.fn f ps).noLoc = ps.all fun p => !keyLoc p.1 := rfl
theorem noLoc_tc {c : Ce} : (Tv.c c).noLoc = c.noLoc := rfl
theorem noLoc_tagg {l : List Ce} : (Tv.agg l).noLoc = true := rfl
theorem noLoc_av {t : Tv} : (Av.v t).noLoc = t.noLoc := rfl
theorem noLoc_atup {l : List Tv} : (Av.tup l).noLoc = l.all Tv.noLoc := rfl
theorem ce_c {c : Ce} : (Av.v (.c c)).ce? = some c := rfl
theorem tv_v {t : Tv} : (Av.v t).tv? = some t := rfl
theorem cells_c {c : Ce} : (Tv.c c).cells = [c] := rfl
theorem cells_agg {l : List Ce} : (Tv.agg l).cells = l := rfl
end

theorem aop_len {env : Env} {d : Option Nat} {T : Nat → Av} {s : St} {x : Opd} : aop env d T s (.len x) = (ev T x).ce?.bind fun c => c.slen.map fun n => (.v (.c (.int .i64 n)), s) := by
  simp only [aop]
  cases ev T x with
  | v t =>
    cases t with
    | c c => cases c <;> rfl
    | agg l => rfl
  | _ => rfl
def Ce.eltAt (sz : Nat) (j : Int) : Ce → Option (Key × Nat)
  | .sl q o n _ => if 0 ≤ j ∧ j < n then some (q, o + j.toNat * sz) else none
  | _ => none
theorem aop_iaddr {env : Env} {d : Option Nat} {T : Nat → Av} {s : St} {sz : Nat} {x i : Opd} : aop env d T s (.iaddr sz x i) = (ev T i).int?.bind fun j => (ev T x).ce?.bind fun c => (c.eltAt sz j).map fun p => (.v (.c (.ptr p.1 p.2)), s) := by
  simp only [aop]
  cases (ev T i).int? with
  | none => rfl
  | some j =>
    simp only [Option.bind_some]
    cases ev T x with
    | v t =>
      cases t with
      | c c =>
        cases c with
        | sl q o n m =>
          simp only [Av.ce?, Ce.eltAt, Option.bind_some]
          split <;> simp_all
        | _ => rfl
      | agg l => rfl
    | _ => rfl

theorem upd_upd {α : Type} (f : Nat → α) (i : Nat) (v u : α) : upd (upd f i v) i u = upd f i u := by
  funext j
  simp only [upd]
  split <;> rfl

/-- Nothing stands from the heap's top on. -/
def HOk (h : Heap) : Prop := ∀ b, h.nx ≤ b → h.hp b = none
/-- More blocks, the old ones as they were. -/
structure Ext (h h' : Heap) : Prop where
  nx : h.nx ≤ h'.nx
  hp : ∀ b r, h.hp b = some r → h'.hp b = some r
  ok : HOk h → HOk h'

theorem Ext.refl (h : Heap) : Ext h h := ⟨Nat.le_refl _, fun _ _ h => h, fun h => h⟩
theorem Ext.trans {a b c : Heap} (h : Ext a b) (k : Ext b c) : Ext a c := ⟨Nat.le_trans h.nx k.nx, fun x r hr => k.hp x r (h.hp x r hr), fun o => k.ok (h.ok o)⟩
theorem HOk.lt {h : Heap} (ho : HOk h) {b : Nat} {r : Row} (hr : h.hp b = some r) : b < h.nx := by
  refine Classical.byContradiction fun hn => ?_
  rw [ho b (by omega)] at hr
  cases hr
theorem Ext.push {h : Heap} (ho : HOk h) (r : Row) : Ext h (h.push r) := by
  refine ⟨Nat.le_succ _, fun b r' hr => ?_, fun _ b hb => ?_⟩
  · have := ho.lt hr
    simp only [Heap.push, upd]
    rw [if_neg (by omega)]
    exact hr
  · simp only [Heap.push, upd] at hb ⊢
    rw [if_neg (by omega)]
    exact ho b (by omega)

theorem RdSl.slen {α : Type} {E : Elt α} {h : Heap} {c : Ce} {l : List α} (hr : RdSl E h c l) : c.slen = some l.length := by
  rcases hr with ⟨rfl, rfl⟩ | ⟨rfl, rfl⟩ | ⟨b, o, m, r, rfl, _⟩ <;> rfl
theorem RdSl.noLoc {α : Type} {E : Elt α} {h : Heap} {c : Ce} {l : List α} (hr : RdSl E h c l) : c.noLoc = true := by
  rcases hr with ⟨rfl, rfl⟩ | ⟨rfl, rfl⟩ | ⟨b, o, m, r, rfl, _⟩ <;> rfl
theorem RdSl.len_le {α : Type} {E : Elt α} {h : Heap} {c : Ce} {l : List α} (hr : RdSl E h c l) : l.length ≤ 9223372036854775807 := by
  rcases hr with ⟨rfl, rfl⟩ | ⟨rfl, rfl⟩ | ⟨b, o, m, r, rfl, h1, _⟩
  · simp
  · simp
  · exact h1
theorem RdSl.ext {α : Type} {E : Elt α} {h h' : Heap} (hE : ∀ l a, E.rel h l a → E.rel h' l a) (he : ∀ b r, h.hp b = some r → h'.hp b = some r) {c : Ce} {l : List α} (hr : RdSl E h c l) : RdSl E h' c l := by
  rcases hr with h1 | h1 | ⟨b, o, m, r, h1, h2, h3, h4, h5⟩
  · exact .inl h1
  · exact .inr (.inl h1)
  · exact .inr (.inr ⟨b, o, m, r, h1, h2, he b r h3, h4, fun i a ha => hE _ _ (h5 i a ha)⟩)
/-- An element of a slice. -/
theorem RdSl.at {α : Type} {E : Elt α} {h : Heap} {c : Ce} {l : List α} (hr : RdSl E h c l) {i : Nat} (hi : i < l.length) :
    ∃ b p r, c.eltAt E.sz i = some (.inr b, p) ∧ h.hp b = some r ∧ p + E.sz ≤ r.cs.length ∧ E.rel h ((r.cs.drop p).take E.sz) l[i] := by
  rcases hr with ⟨rfl, rfl⟩ | ⟨rfl, rfl⟩ | ⟨b, o, m, r, rfl, h2, h3, h4, h5⟩
  · simp at hi
  · simp at hi
  · refine ⟨b, o + i * E.sz, r, ?_, h3, ?_, h5 i _ (List.getElem?_eq_getElem hi)⟩
    · simp only [Ce.eltAt]
      rw [if_pos ⟨by omega, by omega⟩]
      simp
    · have : (i + 1) * E.sz ≤ l.length * E.sz := Nat.mul_le_mul_right _ hi
      rw [Nat.succ_mul] at this
      omega

structure Box where
  x : Int
  y : Int
  low : Int
  high : Int
  tin : Int
  tout : Int

def i64 (n : Int) : Prop := -9223372036854775808 ≤ n ∧ n ≤ 9223372036854775807

def Box.ces (b : Box) : List Ce := [.int .i64 b.x, .int .i64 b.y, .int .i64 b.low, .int .i64 b.high, .int .i64 b.tin, .int .i64 b.tout]
def Box.wf (b : Box) : Prop := i64 b.x ∧ i64 b.y ∧ i64 b.low ∧ i64 b.high ∧ i64 b.tin ∧ i64 b.tout
def Box.ok (b : Box) : Bool := decide (0 ≤ b.x) && decide (b.x ≤ 15) && decide (0 ≤ b.y) && decide (b.y ≤ 15) && decide (0 ≤ b.low) && decide (b.low ≤ b.high) && decide (b.high ≤ 6) && decide (0 ≤ b.tin) && decide (b.tin ≤ b.tout) && decide (b.tout ≤ 10000)

end Go.Abs
