/-
  Tools for evaluating the abstract machine's codes; boxes.
-/
import Derived.Test.YtenccnpdaldkfaaB3a126
import Derived.Test.YtenccnpdaldkfaaChecked
import Derived.KernelRfl
import Derived.Eval
import Derived.Test.YtenccnpdaldkfaaRows
import Derived.Test.YtenccnpdaldkfaaB15481
import Derived.WalkKit
import Derived.ProofKit
import Derived.OpenShut
import Derived.ChangeOld
import Derived.Below
import Derived.Carry
import Derived.SizedLaws
set_option linter.unusedSimpArgs false
set_option linter.unusedVariables false
namespace Go.Abs

def AW (env : Env) (c : ACode) (Q : Ex → X → Prop) (x : X) : Prop := ∃ e y, aexec env c x = some (e, y) ∧ Q e y
def RW (env : Env) (l : List AO) (Q : Ex → X → Prop) (x : X) : Prop := ∃ y, runOps env l x = some y ∧ Q .normal y
def SW (env : Env) (d : Option Nat) (l : List AO) (Q : Ex → X → Prop) (T : Nat → Av) (r : Option (Av × St)) : Prop := ∃ v s, r = some (v, s) ∧ RW env l Q (upo T d v, s)
def ThenQ (env : Env) (b : ACode) (Q : Ex → X → Prop) (e : Ex) (x : X) : Prop :=
  match e with
  | .normal => AW env b Q x
  | e => Q e x
def BlockQ (id : Nat) (Q : Ex → X → Prop) (e : Ex) (x : X) : Prop :=
  match e with
  | .exit j => if j = id then Q .normal x else Q (.exit j) x
  | e => Q e x
def CW (env : Env) (Q : Ex → X → Prop) (x : X) (a b : ACode) (r : Option Bool) : Prop := ∃ t, r = some t ∧ AW env (if t then a else b) Q x
def GW (env : Env) (d : Option Nat) (op : AOp) (b : Bool) (l : List AO) (Q : Ex → X → Prop) (T : Nat → Av) (s : St) (g : Av) : Prop :=
  match g with
  | .v (.c (.bool x)) => if x = b then SW env d l Q T (aop env d T s op) else RW env l Q (upo T d (.tup []), s)
  | .tup _ => RW env l Q (upo T d (.tup []), s)
  | _ => False
def killT (ds : List Nat) (T : Nat → Av) : Nat → Av := fun t => killV ds (T t)
def killL (ds : List Nat) (l : Nat → Option Row) : Nat → Option Row := fun k => if ds.contains k then none else l k
def nol : Nat → Option Row := fun _ => none

section
variable {env : Env} {Q : Ex → X → Prop} {x : X} {T : Nat → Av} {s : St} {l : List AO} {d : Option Nat} {a b : ACode}

theorem AW_skip : AW env .skip Q x = Q .normal x := propext ⟨fun ⟨e, y, h, hq⟩ => by simp only [aexec, Option.some.injEq, Prod.mk.injEq] at h; obtain ⟨rfl, rfl⟩ := h; exact hq, fun h => ⟨.normal, x, rfl, h⟩⟩
theorem AW_exit {i : Nat} : AW env (.exit i) Q x = Q (.exit i) x := propext ⟨fun ⟨e, y, h, hq⟩ => by simp only [aexec, Option.some.injEq, Prod.mk.injEq] at h; obtain ⟨rfl, rfl⟩ := h; exact hq, fun h => ⟨.exit i, x, rfl, h⟩⟩
theorem AW_ret : AW env .ret Q x = Q .ret x := propext ⟨fun ⟨e, y, h, hq⟩ => by simp only [aexec, Option.some.injEq, Prod.mk.injEq] at h; obtain ⟨rfl, rfl⟩ := h; exact hq, fun h => ⟨.ret, x, rfl, h⟩⟩
theorem AW_seq : AW env (.seq a b) Q x = AW env a (ThenQ env b Q) x := by
  refine propext ⟨?_, ?_⟩
  · rintro ⟨e, y, h, hq⟩
    simp only [aexec] at h
    split at h
    · rename_i z hz
      exact ⟨_, z, hz, e, y, h, hq⟩
    · rename_i hne
      refine ⟨e, y, h, ?_⟩
      cases e with
      | normal => exact (hne y h).elim
      | _ => exact hq
  · rintro ⟨e, y, h, hq⟩
    cases e with
    | normal =>
      obtain ⟨e', y', h', hq'⟩ := hq
      exact ⟨e', y', by simp only [aexec, h]; exact h', hq'⟩
    | exit i => exact ⟨.exit i, y, by simp only [aexec, h], hq⟩
    | ret => exact ⟨.ret, y, by simp only [aexec, h], hq⟩
theorem AW_block {i : Nat} : AW env (.block i a) Q x = AW env a (BlockQ i Q) x := by
  refine propext ⟨?_, ?_⟩
  · rintro ⟨e, y, h, hq⟩
    simp only [aexec] at h
    split at h
    · rename_i j z hz
      refine ⟨_, z, hz, ?_⟩
      simp only [BlockQ]
      split at h
      · rename_i hj
        simp only [Option.some.injEq, Prod.mk.injEq] at h
        obtain ⟨rfl, rfl⟩ := h
        rw [if_pos hj]; exact hq
      · rename_i hj
        simp only [Option.some.injEq, Prod.mk.injEq] at h
        obtain ⟨rfl, rfl⟩ := h
        rw [if_neg hj]; exact hq
    · rename_i hne
      refine ⟨e, y, h, ?_⟩
      cases e with
      | exit j => exact (hne j y h).elim
      | _ => exact hq
  · rintro ⟨e, y, h, hq⟩
    cases e with
    | exit j =>
      simp only [BlockQ] at hq
      by_cases hj : j = i
      · rw [if_pos hj] at hq
        exact ⟨.normal, y, by simp only [aexec, h]; rw [if_pos hj], hq⟩
      · rw [if_neg hj] at hq
        exact ⟨.exit j, y, by simp only [aexec, h]; rw [if_neg hj], hq⟩
    | normal => exact ⟨.normal, y, by simp only [aexec, h], hq⟩
    | ret => exact ⟨.ret, y, by simp only [aexec, h], hq⟩
theorem AW_cond {c : Opd} : AW env (.cond c a b) Q (T, s) = CW env Q (T, s) a b (ev T c).bool? := by
  refine propext ⟨?_, ?_⟩
  · rintro ⟨e, y, h, hq⟩
    simp only [aexec] at h
    split at h
    · rename_i t ht
      exact ⟨t, ht, e, y, by cases t <;> simpa using h, hq⟩
    · simp at h
  · rintro ⟨t, ht, e, y, h, hq⟩
    exact ⟨e, y, by simp only [aexec, ht]; cases t <;> simpa using h, hq⟩
theorem CW_some {t : Bool} : CW env Q x a b (some t) = if t = true then AW env a Q x else AW env b Q x := by
  cases t <;> simp [CW]
theorem AW_reg {ds : List Nat} {ops : List AO} : AW env (.reg ds ops) Q x = RW env ops Q (kill ds x) := by
  refine propext ⟨?_, ?_⟩
  · rintro ⟨e, y, h, hq⟩
    simp only [aexec, Option.map_eq_some_iff, Prod.mk.injEq] at h
    obtain ⟨z, hz, rfl, rfl⟩ := h
    exact ⟨z, hz, hq⟩
  · rintro ⟨y, h, hq⟩
    exact ⟨.normal, y, by simp only [aexec, h, Option.map_some], hq⟩
theorem trace_run : ∀ {ops : List AO} {p : X}, (runTrace env ops p).bind (fun tr => tr[ops.length]?) = runOps env ops p
  | [], p => rfl
  | o :: r, p => by
    simp only [runTrace, runOps]
    cases stepO env o p with
    | none => rfl
    | some p' =>
      simp only [Option.bind_some]
      rw [← trace_run (ops := r) (p := p')]
      cases runTrace env r p' with
      | none => rfl
      | some tr => simp
theorem AW_regD {ds : List Nat} {ops : List AO} : AW env (.regD ds ops []) Q x = RW env ops Q (kill ds x) := by
  have : ∀ p, runRegD env ops [] p = runOps env ops p := by
    intro p
    rw [← trace_run]
    simp [runRegD, chkAll]
  rw [← AW_reg]
  simp only [AW, aexec, this]
theorem RW_nil : RW env [] Q x = Q .normal x := by simp [RW, runOps]
theorem RW_cons {op : AOp} : RW env (⟨d, op, none⟩ :: l) Q (T, s) = SW env d l Q T (aop env d T s op) := by
  simp only [RW, SW, runOps, stepO, wantedA]
  refine propext ⟨?_, ?_⟩
  · rintro ⟨y, h, hq⟩
    simp only [Option.bind_eq_some_iff, Option.map_eq_some_iff] at h
    obtain ⟨p, ⟨⟨v, s'⟩, ha, rfl⟩, h2⟩ := h
    exact ⟨v, s', ha, y, h2, hq⟩
  · rintro ⟨v, s', ha, y, h2, hq⟩
    exact ⟨y, by simp [ha, h2], hq⟩
theorem RW_guard {op : AOp} {t : Nat} {c : Bool} : RW env (⟨d, op, some (t, c)⟩ :: l) Q (T, s) = GW env d op c l Q T s (T t) := by
  unfold GW
  split
  · rename_i y hy
    by_cases hyc : y = c
    · subst hyc
      rw [if_pos rfl]
      simp only [RW, SW, runOps, stepO, wantedA, hy]
      refine propext ⟨?_, ?_⟩
      · rintro ⟨y, h, hq⟩
        simp only [beq_self_eq_true, Option.bind_eq_some_iff, Option.map_eq_some_iff] at h
        obtain ⟨p, ⟨⟨v, s'⟩, ha, rfl⟩, h2⟩ := h
        exact ⟨v, s', ha, y, h2, hq⟩
      · rintro ⟨v, s', ha, y, h2, hq⟩
        exact ⟨y, by simp [ha, h2], hq⟩
    · rw [if_neg hyc]
      have hb : (y == c) = false := by simpa using hyc
      simp [RW, runOps, stepO, wantedA, hy, hb]
  · rename_i k hk
    simp [RW, runOps, stepO, wantedA, hk]
  · rename_i h1 h2
    have : wantedA T ⟨d, op, some (t, c)⟩ = none := by
      unfold wantedA
      simp only
    simp [RW, runOps, stepO, this]
theorem GW_bool {op : AOp} {c y : Bool} : GW env d op c l Q T s (.v (.c (.bool y))) = if y = c then SW env d l Q T (aop env d T s op) else RW env l Q (upo T d (.tup []), s) := rfl
theorem GW_tup {op : AOp} {c : Bool} {k : List Tv} : GW env d op c l Q T s (.tup k) = RW env l Q (upo T d (.tup []), s) := rfl
theorem SW_some {v : Av} : SW env d l Q T (some (v, s)) = RW env l Q (upo T d v, s) := by
  refine propext ⟨?_, fun h => ⟨v, s, rfl, h⟩⟩
  rintro ⟨v', s', h, k⟩
  simp only [Option.some.injEq, Prod.mk.injEq] at h
  obtain ⟨rfl, rfl⟩ := h
  exact k
theorem ThenQ_normal : ThenQ env b Q .normal x = AW env b Q x := rfl
theorem ThenQ_exit {i : Nat} : ThenQ env b Q (.exit i) x = Q (.exit i) x := rfl
theorem ThenQ_ret : ThenQ env b Q .ret x = Q .ret x := rfl
theorem BlockQ_normal {i : Nat} : BlockQ i Q .normal x = Q .normal x := rfl
theorem BlockQ_exit {i j : Nat} : BlockQ i Q (.exit j) x = if j = i then Q .normal x else Q (.exit j) x := rfl
theorem BlockQ_ret {i : Nat} : BlockQ i Q .ret x = Q .ret x := rfl
theorem kill_nil : kill [] x = x := rfl
theorem kill_cons {k : Nat} {ds : List Nat} {h : Heap} {lc : Nat → Option Row} : kill (k :: ds) (T, ⟨h, lc⟩) = (killT (k :: ds) T, ⟨h, killL (k :: ds) lc⟩) := rfl
theorem killT_at {ds : List Nat} {n : Nat} : killT ds T n = killV ds (T n) := rfl
theorem killL_at {ds : List Nat} {lc : Nat → Option Row} {n : Nat} : killL ds lc n = if ds.contains n then none else lc n := rfl
theorem upo_some {α : Type} (f : Nat → α) (i : Nat) (v : α) : upo f (some i) v = upd f i v := rfl
theorem upo_none {α : Type} (f : Nat → α) (v : α) : upo f none v = f := rfl
theorem ev_t {n : Nat} : ev T (.t n) = T n := rfl
theorem ev_k {v : Av} : ev T (.k v) = v := rfl

/-- The end of a function. -/
def FinQ (rs : List RV) (K : Av → Heap → Prop) (e : Ex) (x : X) : Prop :=
  match e with
  | .exit _ => False
  | _ => ∃ l, ressA x rs = some l ∧ K (resOf l) x.2.h
theorem FinQ_ret {rs : List RV} {K : Av → Heap → Prop} : FinQ rs K .ret x = ∃ l, ressA x rs = some l ∧ K (resOf l) x.2.h := rfl
theorem FinQ_normal {rs : List RV} {K : Av → Heap → Prop} : FinQ rs K .normal x = ∃ l, ressA x rs = some l ∧ K (resOf l) x.2.h := rfl
theorem runF_of {code : ACode} {rs : List RV} {args : List Av} {h : Heap} {K : Av → Heap → Prop} (hw : AW env code (FinQ rs K) (argsT args, ⟨h, nol⟩)) : ∃ v h', runF env code rs args h = some (v, h') ∧ K v h' := by
  obtain ⟨e, y, h1, h2⟩ := hw
  cases e with
  | exit i => exact h2.elim
  | normal =>
    obtain ⟨l, h3, h4⟩ := h2
    exact ⟨_, _, by simp only [runF, show (fun _ => none : Nat → Option Row) = nol from rfl, h1, Option.bind_some, h3, Option.map_some], h4⟩
  | ret =>
    obtain ⟨l, h3, h4⟩ := h2
    exact ⟨_, _, by simp only [runF, show (fun _ => none : Nat → Option Row) = nol from rfl, h1, Option.bind_some, h3, Option.map_some], h4⟩
theorem runF_eq {code : ACode} {rs : List RV} {args : List Av} {h : Heap} {v : Av} {h' : Heap} (hw : AW env code (FinQ rs fun v' k => v' = v ∧ k = h') (argsT args, ⟨h, nol⟩)) : runF env code rs args h = some (v, h') := by
  obtain ⟨v', k, h1, rfl, rfl⟩ := runF_of hw
  exact h1
theorem callA_of {f : Nat} {F : Fun} {xs : List Av} {v : Av} {h : Heap} (he : env f = some F) (hn : noLocs xs = true) (hF : F xs s.h = some (v, h)) : callA env f xs s = some (v, { s with h := h }) := by
  simp [callA, he, hn, hF]
/-- A loop of n rounds at most. -/
theorem AW_loop (I : Nat → X → Prop) (n : Nat) (h0 : I 0 x) (step : ∀ i x, i ≤ n → I i x → AW env a (fun e y => (e = .normal ∧ i < n ∧ I (i + 1) y) ∨ (e ≠ .normal ∧ Q e y)) x) : AW env (.loop a) Q x := by
  obtain ⟨e, y, h1, h2⟩ := loop_rounds (f := aexec env a) (I := I) (Q := Q) n (fun i x hi h => step i x hi h) h0
  exact ⟨e, y, h1, h2⟩
end

section
variable {ds : List Nat}
theorem killV_int {k : IntKind} {n : Int} : killV ds (.v (.c (.int k n))) = .v (.c (.int k n)) := rfl
theorem killV_bool {b : Bool} : killV ds (.v (.c (.bool b))) = .v (.c (.bool b)) := rfl
theorem killV_str {b : ByteArray} : killV ds (.v (.c (.str b))) = .v (.c (.str b)) := rfl
theorem killV_nils : killV ds (.v (.c .nils)) = .v (.c .nils) := rfl
theorem killV_nilp : killV ds (.v (.c .nilp)) = .v (.c .nilp) := rfl
theorem killV_agg {l : List Ce} : killV ds (.v (.agg l)) = .v (.agg l) := rfl
theorem killV_no : killV ds .no = .no := rfl
theorem killV_tup {l : List Tv} : killV ds (.tup l) = if l.all Tv.noLoc then .tup l else .no := rfl
theorem killV_ptrl {k o : Nat} : killV ds (.v (.c (.ptr (.inl k) o))) = if ds.contains k then .no else .v (.c (.ptr (.inl k) o)) := rfl
theorem killV_ptrr {k o : Nat} : killV ds (.v (.c (.ptr (.inr k) o))) = .v (.c (.ptr (.inr k) o)) := rfl
theorem killV_sll {k o n : Nat} {m : Md} : killV ds (.v (.c (.sl (.inl k) o n m))) = if ds.contains k then .no else .v (.c (.sl (.inl k) o n m)) := rfl
theorem killV_slr {k o n : Nat} {m : Md} : killV ds (.v (.c (.sl (.inr k) o n m))) = .v (.c (.sl (.inr k) o n m)) := rfl
theorem killV_fn {f : Nat} {ps : List (Key × Nat)} : killV ds (.v (.c (.fn f ps))) = if ps.all (fun p => !keyLoc p.1) then .v (.c (.fn f ps)) else .no := rfl
theorem killV_noLoc {c : Ce} (h : c.noLoc = true) : killV ds (.v (.c c)) = .v (.c c) := by
  cases c with
  | ptr q o =>
    cases q with
    | inl k => simp [Ce.noLoc, keyLoc] at h
    | inr b => rfl
  | sl q o n m =>
    cases q with
    | inl k => simp [Ce.noLoc, keyLoc] at h
    | inr b => rfl
  | fn f ps =>
    rw [killV_fn, if_pos]
    exact h
  | _ => rfl
end

section
theorem noLoc_int {k : IntKind} {n : Int} : (Ce.int k n).noLoc = true := rfl
theorem noLoc_bool {b : Bool} : (Ce.bool b).noLoc = true := rfl
theorem noLoc_str {b : ByteArray} : (Ce.str b).noLoc = true := rfl
theorem noLoc_nils : Ce.nils.noLoc = true := rfl
theorem noLoc_nilp : Ce.nilp.noLoc = true := rfl
theorem noLoc_ptrl {k o : Nat} : (Ce.ptr (.inl k) o).noLoc = false := rfl
theorem noLoc_ptrr {k o : Nat} : (Ce.ptr (.inr k) o).noLoc = true := rfl
theorem noLoc_sll {k o n : Nat} {m : Md} : (Ce.sl (.inl k) o n m).noLoc = false := rfl
theorem noLoc_slr {k o n : Nat} {m : Md} : (Ce.sl (.inr k) o n m).noLoc = true := rfl
theorem noLoc_fn {f : Nat} {ps : List (Key × Nat)} : (Ce.fn f ps).noLoc = ps.all fun p => !keyLoc p.1 := rfl
theorem noLoc_tc {c : Ce} : (Tv.c c).noLoc = c.noLoc := rfl
theorem noLoc_tagg {l : List Ce} : (Tv.agg l).noLoc = true := rfl
theorem noLoc_av {t : Tv} : (Av.v t).noLoc = t.noLoc := rfl
theorem noLoc_atup {l : List Tv} : (Av.tup l).noLoc = l.all Tv.noLoc := rfl
theorem ce_c {c : Ce} : (Av.v (.c c)).ce? = some c := rfl
theorem tv_v {t : Tv} : (Av.v t).tv? = some t := rfl
theorem cells_c {c : Ce} : (Tv.c c).cells = [c] := rfl
theorem cells_agg {l : List Ce} : (Tv.agg l).cells = l := rfl
end

theorem aop_len {env : Env} {d : Option Nat} {T : Nat → Av} {s : St} {x : Opd} : aop env d T s (.len x) = (ev T x).ce?.bind fun c => c.slen.map fun n => (.v (.c (.int .i64 n)), s) := by
  simp only [aop]
  cases ev T x with
  | v t =>
    cases t with
    | c c => cases c <;> rfl
    | agg l => rfl
  | _ => rfl
def Ce.eltAt (sz : Nat) (j : Int) : Ce → Option (Key × Nat)
  | .sl q o n _ => if 0 ≤ j ∧ j < n then some (q, o + j.toNat * sz) else none
  | _ => none
theorem aop_iaddr {env : Env} {d : Option Nat} {T : Nat → Av} {s : St} {sz : Nat} {x i : Opd} : aop env d T s (.iaddr sz x i) = (ev T i).int?.bind fun j => (ev T x).ce?.bind fun c => (c.eltAt sz j).map fun p => (.v (.c (.ptr p.1 p.2)), s) := by
  simp only [aop]
  cases (ev T i).int? with
  | none => rfl
  | some j =>
    simp only [Option.bind_some]
    cases ev T x with
    | v t =>
      cases t with
      | c c =>
        cases c with
        | sl q o n m =>
          simp only [Av.ce?, Ce.eltAt, Option.bind_some]
          split <;> simp_all
        | _ => rfl
      | agg l => rfl
    | _ => rfl

theorem upd_upd {α : Type} (f : Nat → α) (i : Nat) (v u : α) : upd (upd f i v) i u = upd f i u := by
  funext j
  simp only [upd]
  split <;> rfl

/-- Nothing stands from the heap's top on. -/
def HOk (h : Heap) : Prop := ∀ b, h.nx ≤ b → h.hp b = none
/-- More blocks, the old ones as they were. -/
structure Ext (h h' : Heap) : Prop where
  nx : h.nx ≤ h'.nx
  hp : ∀ b r, h.hp b = some r → h'.hp b = some r
  ok : HOk h → HOk h'

theorem Ext.refl (h : Heap) : Ext h h := ⟨Nat.le_refl _, fun _ _ h => h, fun h => h⟩
theorem Ext.trans {a b c : Heap} (h : Ext a b) (k : Ext b c) : Ext a c := ⟨Nat.le_trans h.nx k.nx, fun x r hr => k.hp x r (h.hp x r hr), fun o => k.ok (h.ok o)⟩
theorem HOk.lt {h : Heap} (ho : HOk h) {b : Nat} {r : Row} (hr : h.hp b = some r) : b < h.nx := by
  refine Classical.byContradiction fun hn => ?_
  rw [ho b (by omega)] at hr
  cases hr
theorem Ext.push {h : Heap} (ho : HOk h) (r : Row) : Ext h (h.push r) := by
  refine ⟨Nat.le_succ _, fun b r' hr => ?_, fun _ b hb => ?_⟩
  · have := ho.lt hr
    simp only [Heap.push, upd]
    rw [if_neg (by omega)]
    exact hr
  · simp only [Heap.push, upd] at hb ⊢
    rw [if_neg (by omega)]
    exact ho b (by omega)

theorem RdSl.slen {α : Type} {E : Elt α} {h : Heap} {c : Ce} {l : List α} (hr : RdSl E h c l) : c.slen = some l.length := by
  rcases hr with ⟨rfl, rfl⟩ | ⟨rfl, rfl⟩ | ⟨b, o, m, r, rfl, _⟩ <;> rfl
theorem RdSl.noLoc {α : Type} {E : Elt α} {h : Heap} {c : Ce} {l : List α} (hr : RdSl E h c l) : c.noLoc = true := by
  rcases hr with ⟨rfl, rfl⟩ | ⟨rfl, rfl⟩ | ⟨b, o, m, r, rfl, _⟩ <;> rfl
theorem RdSl.len_le {α : Type} {E : Elt α} {h : Heap} {c : Ce} {l : List α} (hr : RdSl E h c l) : l.length ≤ 9223372036854775807 := by
  rcases hr with ⟨rfl, rfl⟩ | ⟨rfl, rfl⟩ | ⟨b, o, m, r, rfl, h1, _⟩
  · simp
  · simp
  · exact h1
theorem RdSl.ext {α : Type} {E : Elt α} {h h' : Heap} (hE : ∀ l a, E.rel h l a → E.rel h' l a) (he : ∀ b r, h.hp b = some r → h'.hp b = some r) {c : Ce} {l : List α} (hr : RdSl E h c l) : RdSl E h' c l := by
  rcases hr with h1 | h1 | ⟨b, o, m, r, h1, h2, h3, h4, h5⟩
  · exact .inl h1
  · exact .inr (.inl h1)
  · exact .inr (.inr ⟨b, o, m, r, h1, h2, he b r h3, h4, fun i a ha => hE _ _ (h5 i a ha)⟩)
/-- An element of a slice. -/
theorem RdSl.at {α : Type} {E : Elt α} {h : Heap} {c : Ce} {l : List α} (hr : RdSl E h c l) {i : Nat} (hi : i < l.length) :
    ∃ b p r, c.eltAt E.sz i = some (.inr b, p) ∧ h.hp b = some r ∧ p + E.sz ≤ r.cs.length ∧ E.rel h ((r.cs.drop p).take E.sz) l[i] := by
  rcases hr with ⟨rfl, rfl⟩ | ⟨rfl, rfl⟩ | ⟨b, o, m, r, rfl, h2, h3, h4, h5⟩
  · simp at hi
  · simp at hi
  · refine ⟨b, o + i * E.sz, r, ?_, h3, ?_, h5 i _ (List.getElem?_eq_getElem hi)⟩
    · simp only [Ce.eltAt]
      rw [if_pos ⟨by omega, by omega⟩]
      simp
    · have : (i + 1) * E.sz ≤ l.length * E.sz := Nat.mul_le_mul_right _ hi
      rw [Nat.succ_mul] at this
      omega

structure Box where
  x : Int
  y : Int
  low : Int
  high : Int
  tin : Int
  tout : Int

def i64 (n : Int) : Prop := -9223372036854775808 ≤ n ∧ n ≤ 9223372036854775807

def Box.ces (b : Box) : List Ce := [.int .i64 b.x, .int .i64 b.y, .int .i64 b.low, .int .i64 b.high, .int .i64 b.tin, .int .i64 b.tout]
def Box.wf (b : Box) : Prop := i64 b.x ∧ i64 b.y ∧ i64 b.low ∧ i64 b.high ∧ i64 b.tin ∧ i64 b.tout
def Box.ok (b : Box) : Bool := decide (0 ≤ b.x) && decide (b.x ≤ 15) && decide (0 ≤ b.y) && decide (b.y ≤ 15) && decide (0 ≤ b.low) && decide (b.low ≤ b.high) && decide (b.high ≤ 6) && decide (0 ≤ b.tin) && decide (b.tin ≤ b.tout) && decide (b.tout ≤ 10000)

end Go.Abs

/-
  More tools for walks: guarded operations without branches; loops; slices of plain values, read and owned.
-/

namespace Go.Abs

section
variable {env : Env} {Q : Ex → X → Prop} {x : X} {T : Nat → Av} {s : St} {l : List AO} {d : Option Nat} {a b : ACode} {op : AOp}

/-- A guarded operation whose guard says y: its value, or none. -/
def GY (env : Env) (y : Bool) (d : Option Nat) (l : List AO) (Q : Ex → X → Prop) (T : Nat → Av) (s : St) (r : Option (Av × St)) : Prop :=
  if y = true then SW env d l Q T r else RW env l Q (upo T d (.tup []), s)
/-- A value under a guard. -/
def gd (y : Bool) (v : Av) : Av := if y = true then v else .tup []
def pk (y : Bool) (v u : Av) : Av := if y = true then v else u

theorem GW_t {y : Bool} : GW env d op true l Q T s (.v (.c (.bool y))) = GY env y d l Q T s (aop env d T s op) := by
  cases y <;> rfl
theorem GW_f {y : Bool} : GW env d op false l Q T s (.v (.c (.bool y))) = GY env (!y) d l Q T s (aop env d T s op) := by
  cases y <;> rfl
theorem GW_gt {y z : Bool} : GW env d op true l Q T s (gd y (.v (.c (.bool z)))) = GY env (y && z) d l Q T s (aop env d T s op) := by
  cases y <;> cases z <;> rfl
theorem GW_gf {y z : Bool} : GW env d op false l Q T s (gd y (.v (.c (.bool z)))) = GY env (y && !z) d l Q T s (aop env d T s op) := by
  cases y <;> cases z <;> rfl
theorem GY_some {y : Bool} {v : Av} : GY env y d l Q T s (some (v, s)) = RW env l Q (upo T d (gd y v), s) := by
  cases y
  · rfl
  · exact SW_some
theorem GY_tt {r : Option (Av × St)} : GY env true d l Q T s r = SW env d l Q T r := rfl
theorem GY_ff {r : Option (Av × St)} : GY env false d l Q T s r = RW env l Q (upo T d (.tup []), s) := rfl
theorem GY_congr {y : Bool} {r r' : Option (Av × St)} (h : y = true → r = r') : GY env y d l Q T s r = GY env y d l Q T s r' := by
  cases y
  · rfl
  · rw [h rfl]
theorem gd_t {v : Av} : gd true v = v := rfl
theorem gd_f {v : Av} : gd false v = .tup [] := rfl
theorem pk_t {v u : Av} : pk true v u = v := rfl
theorem pk_f {v u : Av} : pk false v u = u := rfl
theorem pk_and {y z : Bool} : pk y (gd y (.v (.c (.bool z)))) (.v (.c (.bool false))) = .v (.c (.bool (y && z))) := by
  cases y <;> rfl
theorem pk_or {y z : Bool} : pk y (.v (.c (.bool true))) (gd (!y) (.v (.c (.bool z)))) = .v (.c (.bool (y || z))) := by
  cases y <;> rfl
theorem pk_bool {y z w : Bool} : pk y (.v (.c (.bool z))) (.v (.c (.bool w))) = .v (.c (.bool (if y = true then z else w))) := by
  cases y <;> rfl
theorem gd_gd {y z : Bool} {v : Av} : gd y (gd z v) = gd (y && z) v := by
  cases y <;> rfl
theorem aop_pick {c u v : Opd} : aop env d T s (.pick c u v) = (ev T c).bool?.map fun t => (pk t (ev T u) (ev T v), s) := by
  simp only [aop]
  cases (ev T c).bool? with
  | none => rfl
  | some t => cases t <;> rfl
theorem CW_ite {y : Bool} : CW env Q x a b (some y) = ((y = true → AW env a Q x) ∧ (y = false → AW env b Q x)) := by
  cases y <;> simp [CW]

/-- A loop of n rounds at most, each of which goes on or leaves. -/
theorem AW_for (n : Nat) (stop : Nat → Bool) (I : Nat → X → Prop) (h0 : I 0 x)
    (go : ∀ i x, i < n → stop i = false → (∀ j, j < i → stop j = false) → I i x → AW env a (fun e y => e = .normal ∧ I (i + 1) y) x)
    (brk : ∀ i x, i < n → stop i = true → (∀ j, j < i → stop j = false) → I i x → AW env a (fun e y => e ≠ .normal ∧ Q e y) x)
    (done : ∀ x, (∀ j, j < n → stop j = false) → I n x → AW env a (fun e y => e ≠ .normal ∧ Q e y) x) : AW env (.loop a) Q x := by
  refine AW_loop (fun i x => i ≤ n ∧ (∀ j, j < i → stop j = false) ∧ I i x) n ⟨by omega, fun j hj => by omega, h0⟩ ?_
  rintro i x hi ⟨_, hs, hI⟩
  by_cases hin : i < n
  · cases hst : stop i with
    | false =>
      obtain ⟨e, y, h1, rfl, h2⟩ := go i x hin hst hs hI
      refine ⟨.normal, y, h1, .inl ⟨rfl, hin, by omega, fun j hj => ?_, h2⟩⟩
      by_cases hji : j = i
      · rw [hji]; exact hst
      · exact hs j (by omega)
    | true =>
      obtain ⟨e, y, h1, h2⟩ := brk i x hin hst hs hI
      exact ⟨e, y, h1, .inr h2⟩
  · obtain rfl : i = n := by omega
    obtain ⟨e, y, h1, h2⟩ := done x hs hI
    exact ⟨e, y, h1, .inr h2⟩

/-- What is shown of a part of the code is shown of the whole, if the rest follows. -/
theorem AW_mono {Q' : Ex → X → Prop} (h : AW env a Q' x) (hq : ∀ e y, Q' e y → Q e y) : AW env a Q x :=
  let ⟨e, y, h1, h2⟩ := h; ⟨e, y, h1, hq e y h2⟩
end

theorem wrap1 {i : Nat} (h : i < 9223372036854775807) : IntKind.i64.wrap ((i : Int) + 1) = ((i + 1 : Nat) : Int) := by
  rw [wrap_i64 (by omega) (by omega)]; rfl

/-! ### plain values in cells -/
structure Fl (α : Type) where
  sz : Nat
  ces : α → List Ce
  len : ∀ a, (ces a).length = sz
  pos : 0 < sz

variable {α : Type} (F : Fl α)

def Fl.all (l : List α) : List Ce := l.flatMap F.ces
theorem Fl.all_nil : F.all [] = [] := rfl
theorem Fl.all_cons (a : α) (l : List α) : F.all (a :: l) = F.ces a ++ F.all l := rfl
theorem Fl.all_append (a b : List α) : F.all (a ++ b) = F.all a ++ F.all b := by simp [Fl.all]
theorem Fl.all_one (a : α) : F.all [a] = F.ces a := by simp [Fl.all]
theorem Fl.all_length (l : List α) : (F.all l).length = l.length * F.sz := by
  induction l with
  | nil => simp [Fl.all]
  | cons b l ih => rw [F.all_cons, List.length_append, ih, F.len, List.length_cons, Nat.succ_mul, Nat.add_comm]
theorem Fl.all_repl (n : Nat) (a : α) : repl n (F.ces a) = F.all (List.replicate n a) := by simp [repl, Fl.all, List.flatMap]
theorem Fl.all_at (l : List α) {i : Nat} (hi : i < l.length) : ((F.all l).drop (i * F.sz)).take F.sz = F.ces l[i] := by
  have e : l = l.take i ++ l[i] :: l.drop (i + 1) := by simp
  conv => lhs; rw [e]
  rw [F.all_append]
  have hl : (F.all (l.take i)).length = i * F.sz := by rw [F.all_length, List.length_take, Nat.min_eq_left (by omega)]
  rw [← hl, List.drop_left, F.all_cons, List.take_append_of_le_length (by rw [F.len]; exact Nat.le_refl _)]
  exact List.take_of_length_le (by rw [F.len]; exact Nat.le_refl _)
theorem Fl.all_put (l : List α) {i : Nat} (hi : i < l.length) (b : α) : (F.all l).take (i * F.sz) ++ (F.ces b ++ (F.all l).drop (i * F.sz + F.sz)) = F.all (l.set i b) := by
  have e : l = l.take i ++ l[i] :: l.drop (i + 1) := by simp
  have hl : (F.all (l.take i)).length = i * F.sz := by rw [F.all_length, List.length_take, Nat.min_eq_left (by omega)]
  have e1 : (F.all l).take (i * F.sz) = F.all (l.take i) := by
    conv => lhs; rw [e]
    rw [F.all_append, ← hl, List.take_left]
  have e2 : (F.all l).drop (i * F.sz + F.sz) = F.all (l.drop (i + 1)) := by
    conv => lhs; rw [e]
    rw [F.all_append, F.all_cons, ← List.append_assoc]
    have : (F.all (l.take i) ++ F.ces l[i]).length = i * F.sz + F.sz := by rw [List.length_append, hl, F.len]
    rw [← this, List.drop_left]
  rw [e1, e2, List.set_eq_take_append_cons_drop, if_pos hi, F.all_append, F.all_cons]
theorem Fl.all_cell (l : List α) {i k : Nat} (hi : i < l.length) (hk : k < F.sz) : (F.all l)[i * F.sz + k]? = (F.ces l[i])[k]? := by
  rw [← F.all_at l hi, List.getElem?_take, if_pos hk, List.getElem?_drop]
theorem take_set_drop {β : Type} (A M B : List β) (p k : Nat) (v : β) (hp : p = A.length) (hk : k < M.length) :
    (A ++ (M ++ B)).take (p + k) ++ v :: (A ++ (M ++ B)).drop (p + k + 1) = A ++ (M.set k v ++ B) := by
  subst hp
  rw [List.take_length_add_append, List.append_assoc, Nat.add_assoc, List.drop_length_add_append, List.take_append_of_le_length (by omega), List.drop_append_of_le_length (by omega)]
  rw [List.set_eq_take_append_cons_drop, if_pos hk]
  simp
/-- One cell of an element is written. -/
theorem Fl.all_set (l : List α) {i k : Nat} (hi : i < l.length) (hk : k < F.sz) {b : α} {v : Ce} (hb : F.ces b = (F.ces l[i]).set k v) :
    (F.all l).take (i * F.sz + k) ++ v :: (F.all l).drop (i * F.sz + k + 1) = F.all (l.set i b) := by
  have e : l = l.take i ++ l[i] :: l.drop (i + 1) := by simp
  have hl : i * F.sz = (F.all (l.take i)).length := by rw [F.all_length, List.length_take, Nat.min_eq_left (by omega)]
  have h := take_set_drop (F.all (l.take i)) (F.ces l[i]) (F.all (l.drop (i + 1))) (i * F.sz) k v hl (by rw [F.len]; exact hk)
  have e2 : F.all l = F.all (l.take i) ++ (F.ces l[i] ++ F.all (l.drop (i + 1))) := by
    conv => lhs; rw [e]
    rw [F.all_append, F.all_cons]
  rw [e2, h, ← hb, List.set_eq_take_append_cons_drop, if_pos hi, F.all_append, F.all_cons]

/-- What a slice's cell stands for: plain values, in a block of S. -/
def RdF (S : Nat → Prop) (h : Heap) (c : Ce) (l : List α) : Prop :=
  l.length ≤ 9223372036854775807 ∧ ((c = .nils ∧ l = []) ∨ (c = .sl (.inr 0) 0 0 .any ∧ l = []) ∨
    ∃ b o m r, c = .sl (.inr b) o l.length m ∧ S b ∧ h.hp b = some r ∧ o + l.length * F.sz ≤ r.cs.length ∧ (r.cs.drop o).take (l.length * F.sz) = F.all l)
/-- A slice of one's own: the whole block, from its first cell on. -/
def OwnF (h : Heap) (c : Ce) (l : List α) (fp : List Nat) : Prop :=
  (c = .nils ∧ l = [] ∧ fp = []) ∨ ∃ b, c = .sl (.inr b) 0 l.length .own ∧ h.hp b = some ⟨F.all l, F.sz, true⟩ ∧ fp = [b]

/-- What was there is there as before; nothing stands above the top. -/
structure Fr (h h' : Heap) : Prop where
  nx : h.nx ≤ h'.nx
  hp : ∀ b, b < h.nx → h'.hp b = h.hp b
  ok : HOk h'

theorem Fr.refl {h : Heap} (ho : HOk h) : Fr h h := ⟨Nat.le_refl _, fun _ _ => rfl, ho⟩
theorem Fr.trans {a b c : Heap} (h : Fr a b) (k : Fr b c) : Fr a c := ⟨Nat.le_trans h.nx k.nx, fun x hx => (k.hp x (Nat.lt_of_lt_of_le hx h.nx)).trans (h.hp x hx), k.ok⟩
theorem Fr.push {h : Heap} (ho : HOk h) (r : Row) : Fr h (h.push r) := by
  refine ⟨Nat.le_succ _, fun b hb => ?_, fun b hb => ?_⟩
  · simp only [Heap.push, upd]
    rw [if_neg (by omega)]
  · simp only [Heap.push, upd] at hb ⊢
    rw [if_neg (by omega)]
    exact ho b (by omega)
theorem push_at (h : Heap) (r : Row) : (h.push r).hp h.nx = some r := by simp [Heap.push, upd]
theorem push_nx (h : Heap) (r : Row) : (h.push r).nx = h.nx + 1 := rfl
theorem Fr.some {h h' : Heap} (f : Fr h h') (ho : HOk h) {b : Nat} {r : Row} (hr : h.hp b = some r) : h'.hp b = some r := by
  rw [f.hp b (ho.lt hr)]; exact hr

section
variable {F}
variable {S : Nat → Prop} {h h' : Heap} {c : Ce} {l : List α}
theorem RdF.slen (hr : RdF F S h c l) : c.slen = some l.length := by
  rcases hr with ⟨_, ⟨rfl, rfl⟩ | ⟨rfl, rfl⟩ | ⟨b, o, m, r, rfl, _⟩⟩ <;> rfl
theorem RdF.noLoc (hr : RdF F S h c l) : c.noLoc = true := by
  rcases hr with ⟨_, ⟨rfl, rfl⟩ | ⟨rfl, rfl⟩ | ⟨b, o, m, r, rfl, _⟩⟩ <;> rfl
theorem RdF.le (hr : RdF F S h c l) : l.length ≤ 9223372036854775807 := hr.1
theorem RdF.frame (hf : ∀ b, S b → h'.hp b = h.hp b) (hr : RdF F S h c l) : RdF F S h' c l := by
  obtain ⟨h0, h1 | h1 | ⟨b, o, m, r, h1, h2, h3, h4, h5⟩⟩ := hr
  · exact ⟨h0, .inl h1⟩
  · exact ⟨h0, .inr (.inl h1)⟩
  · exact ⟨h0, .inr (.inr ⟨b, o, m, r, h1, h2, (hf b h2).trans h3, h4, h5⟩)⟩
theorem RdF.mono {S' : Nat → Prop} (hf : ∀ b, S b → S' b) (hr : RdF F S h c l) : RdF F S' h c l := by
  obtain ⟨h0, h1 | h1 | ⟨b, o, m, r, h1, h2, h3, h4, h5⟩⟩ := hr
  · exact ⟨h0, .inl h1⟩
  · exact ⟨h0, .inr (.inl h1)⟩
  · exact ⟨h0, .inr (.inr ⟨b, o, m, r, h1, hf b h2, h3, h4, h5⟩)⟩
theorem RdF.fr (hr : RdF F S h c l) (f : Fr h h') (hs : ∀ b, S b → b < h.nx) : RdF F S h' c l := hr.frame fun b hb => f.hp b (hs b hb)
/-- An element. -/
theorem RdF.at (hr : RdF F S h c l) {i : Nat} (hi : i < l.length) :
    ∃ b p r, c.eltAt F.sz i = some (.inr b, p) ∧ S b ∧ h.hp b = some r ∧ p + F.sz ≤ r.cs.length ∧ (r.cs.drop p).take F.sz = F.ces l[i] ∧ ∀ k, k < F.sz → r.cs[p + k]? = (F.ces l[i])[k]? := by
  obtain ⟨h0, h1 | h1 | ⟨b, o, m, r, rfl, h2, h3, h4, h5⟩⟩ := hr
  · obtain ⟨_, rfl⟩ := h1; simp at hi
  · obtain ⟨_, rfl⟩ := h1; simp at hi
  · have hm : i * F.sz + F.sz ≤ l.length * F.sz := by
      have := Nat.mul_le_mul_right F.sz (show i + 1 ≤ l.length from hi)
      rwa [Nat.succ_mul] at this
    have he : (r.cs.drop (o + i * F.sz)).take F.sz = F.ces l[i] := by
      rw [← F.all_at l hi, ← h5, List.drop_take, List.take_take, List.drop_drop, Nat.min_eq_left (by omega)]
    refine ⟨b, o + i * F.sz, r, ?_, h2, h3, by omega, he, fun k hk => ?_⟩
    · simp only [Ce.eltAt]
      rw [if_pos ⟨by omega, by omega⟩]
      simp
    · rw [← he, List.getElem?_take, if_pos hk, List.getElem?_drop]
theorem RdF.elems (hr : RdF F S h c l) (hc : c ≠ .sl (.inr 0) 0 0 .any) (lc : Nat → Option Row) : St.elems ⟨h, lc⟩ F.sz c = some (F.all l) := by
  obtain ⟨h0, h1 | h1 | ⟨b, o, m, r, rfl, h2, h3, h4, h5⟩⟩ := hr
  · obtain ⟨rfl, rfl⟩ := h1; rfl
  · exact (hc h1.1).elim
  · simp only [St.elems, St.get, h3]
    rw [if_pos h4, h5]
theorem RdF.elemsA (hr : RdF F S h c l) (lc : Nat → Option Row) : St.elemsA ⟨h, lc⟩ F.sz c = some (F.all l) := by
  unfold St.elemsA
  split
  · rename_i h0
    rw [hr.slen] at h0
    have : l = [] := List.length_eq_zero_iff.1 (Option.some.inj h0)
    rw [this]; rfl
  · rename_i h0
    refine hr.elems (fun k => h0 ?_) lc
    rw [k]; rfl
/-- A part of a slice. -/
theorem RdF.part {b o m : Nat} {r : Row} {md : Md} (hb : S b) (hr : h.hp b = some r) (hl : o + l.length * F.sz ≤ r.cs.length) (hn : l.length ≤ 9223372036854775807) (hm : m = l.length) (he : (r.cs.drop o).take (l.length * F.sz) = F.all l) : RdF F S h (.sl (.inr b) o m md) l :=
  ⟨hn, .inr (.inr ⟨b, o, md, r, by rw [hm], hb, hr, hl, he⟩)⟩

theorem OwnF.nil : OwnF F h .nils [] [] := .inl ⟨rfl, rfl, rfl⟩
theorem OwnF.noLoc {fp : List Nat} (hr : OwnF F h c l fp) : c.noLoc = true := by
  rcases hr with ⟨rfl, rfl, _⟩ | ⟨b, rfl, _⟩ <;> rfl
theorem OwnF.slen {fp : List Nat} (hr : OwnF F h c l fp) : c.slen = some l.length := by
  rcases hr with ⟨rfl, rfl, _⟩ | ⟨b, rfl, _⟩ <;> rfl
theorem OwnF.rd {fp : List Nat} (hr : OwnF F h c l fp) (hn : l.length ≤ 9223372036854775807) (hS : ∀ b, b ∈ fp → S b) : RdF F S h c l := by
  rcases hr with ⟨rfl, rfl, _⟩ | ⟨b, rfl, h1, rfl⟩
  · exact ⟨by simp, .inl ⟨rfl, rfl⟩⟩
  · exact ⟨hn, .inr (.inr ⟨b, 0, .own, _, rfl, hS b (by simp), h1, by simp [F.all_length], by simp [← F.all_length]⟩)⟩
theorem OwnF.frame {fp : List Nat} (hf : ∀ b, b ∈ fp → h'.hp b = h.hp b) (hr : OwnF F h c l fp) : OwnF F h' c l fp := by
  rcases hr with h1 | ⟨b, h1, h2, rfl⟩
  · exact .inl h1
  · exact .inr ⟨b, h1, (hf b (by simp)).trans h2, rfl⟩
theorem OwnF.fr {fp : List Nat} (hr : OwnF F h c l fp) (f : Fr h h') (hs : ∀ b, b ∈ fp → b < h.nx) : OwnF F h' c l fp := hr.frame fun b hb => f.hp b (hs b hb)
theorem OwnF.lt {fp : List Nat} (hr : OwnF F h c l fp) (ho : HOk h) {b : Nat} (hb : b ∈ fp) : b < h.nx := by
  rcases hr with ⟨_, _, rfl⟩ | ⟨b', _, h2, rfl⟩
  · simp at hb
  · simp at hb; subst hb; exact ho.lt h2
theorem OwnF.nodup {fp : List Nat} (hr : OwnF F h c l fp) : fp.Nodup := by
  rcases hr with ⟨_, _, rfl⟩ | ⟨b', _, h2, rfl⟩ <;> simp
/-- A new slice. -/
theorem OwnF.new (h : Heap) (l : List α) (n : Nat) (hn : n = l.length) : OwnF F (h.push ⟨F.all l, F.sz, true⟩) (.sl (.inr h.nx) 0 n .own) l [h.nx] := .inr ⟨h.nx, by rw [hn], push_at _ _, rfl⟩

/-- Values put behind a slice of one's own: the new heap has the old block no more. -/
theorem OwnF.appends {fp : List Nat} (hr : OwnF F h c l fp) (ho : HOk h) (l' : List α) (hn : l.length + l'.length ≤ lim) :
    ∃ c' h' fp', OwnF F h' c' (l ++ l') fp' ∧ h.nx ≤ h'.nx ∧ HOk h' ∧ (∀ b, b < h.nx → b ∉ fp → h'.hp b = h.hp b) ∧ (∀ b, b ∈ fp' → b < h'.nx ∧ h.nx ≤ b) ∧
      ∀ lc y, St.elemsA ⟨h, lc⟩ F.sz y = some (F.all l') → y.slen = some l'.length → appendA ⟨h, lc⟩ F.sz c y = some (c', ⟨h', lc⟩) := by
  rcases hr with ⟨rfl, rfl, rfl⟩ | ⟨b, rfl, h2, rfl⟩
  · by_cases h0 : l'.length = 0
    · have : l' = [] := List.length_eq_zero_iff.1 h0
      subst this
      refine ⟨.nils, h, [], .inl ⟨rfl, rfl, rfl⟩, Nat.le_refl _, ho, fun _ _ _ => rfl, by simp, fun lc y h1 h2 => ?_⟩
      simp only [appendA, h1, h2]
      simp
    · have f := Fr.push ho ⟨F.all l', F.sz, true⟩
      refine ⟨.sl (.inr h.nx) 0 l'.length .own, _, [h.nx], OwnF.new h _ _ (by simp), f.nx, f.ok, fun b hb _ => f.hp b hb, by simp [push_nx], fun lc y h1 h2 => ?_⟩
      simp only [appendA, h1, h2]
      rw [if_neg h0, if_pos (by simpa using hn)]
      simp [St.push]
  · have hbl := ho.lt h2
    refine ⟨.sl (.inr h.nx) 0 (l.length + l'.length) .own, ⟨h.nx + 1, upd (upd h.hp b none) h.nx (some ⟨F.all l ++ F.all l', F.sz, true⟩)⟩, [h.nx], .inr ⟨h.nx, by simp, ?_, rfl⟩, Nat.le_succ _, ?_, ?_, by simp, fun lc y h1 h2' => ?_⟩
    · simp [upd, F.all_append]
    · intro b' hb'
      simp only at hb'
      simp only [upd]
      rw [if_neg (by omega)]
      split
      · rfl
      · exact ho b' (by omega)
    · intro b' hb' hne
      simp only [upd]
      rw [if_neg (by omega), if_neg (by simpa using hne)]
    · simp only [appendA, h1, h2', St.get, h2]
      rw [if_pos ⟨trivial, trivial, trivial, F.all_length l, hn, rfl⟩]
      simp [St.set, St.push, Heap.push]
theorem OwnF.append1 {fp : List Nat} (hr : OwnF F h c l fp) (ho : HOk h) (a : α) (hn : l.length + 1 ≤ lim) :
    ∃ c' h' fp', OwnF F h' c' (l ++ [a]) fp' ∧ h.nx ≤ h'.nx ∧ HOk h' ∧ (∀ b, b < h.nx → b ∉ fp → h'.hp b = h.hp b) ∧ (∀ b, b ∈ fp' → b < h'.nx ∧ h.nx ≤ b) ∧
      ∀ lc k m, lc k = some ⟨F.ces a, F.sz, true⟩ → appendA ⟨h, lc⟩ F.sz c (.sl (.inl k) 0 1 m) = some (c', ⟨h', lc⟩) := by
  obtain ⟨c', h', fp', h1, h2, h3, h4, h5, h6⟩ := hr.appends ho [a] (by simpa using hn)
  refine ⟨c', h', fp', h1, h2, h3, h4, h5, fun lc k m hk => h6 lc _ ?_ rfl⟩
  rw [St.elemsA, if_neg (by simp [Ce.slen])]
  simp only [St.elems, St.get, hk, F.all_one]
  have hl := F.len a
  rw [if_pos (by omega), List.drop_zero, List.take_of_length_le (by omega)]
end

end Go.Abs

/-
  The kinds of values of the program, and how they lie in cells; what its checks tell.
-/

namespace Go.Abs

structure Fld where
  name : ByteArray
  x : Int
  y : Int
structure Held where
  name : ByteArray
  tube : List Box
  next : List Box
structure Book where
  now : Int
  fields : List Fld
  held : List Held
structure Cell where
  x : Int
  y : Int
structure Wish where
  name : ByteArray
  quick : Int
  slow : Int
  from_ : Int
  by_ : Int
  late : Int
  ways : List (List Cell)
  levels : List Int
structure Choice where
  late : Int
  way : Int
  level : Int
structure Span where
  low : Int
  high : Int
/-- What holds somebody in memory: a name, and two slices. -/
structure HeldC where
  name : ByteArray
  t : Ce
  x : Ce
structure BookC where
  now : Int
  f : Ce
  hd : Ce
structure WishC where
  name : ByteArray
  quick : Int
  slow : Int
  from_ : Int
  by_ : Int
  late : Int
  w : Ce
  l : Ce

instance : Inhabited Box := ⟨⟨0, 0, 0, 0, 0, 0⟩⟩
instance : Inhabited Fld := ⟨⟨⟨#[]⟩, 0, 0⟩⟩
instance : Inhabited Cell := ⟨⟨0, 0⟩⟩
instance : Inhabited Held := ⟨⟨⟨#[]⟩, [], []⟩⟩

def fBox : Fl Box := ⟨6, fun b => [.int .i64 b.x, .int .i64 b.y, .int .i64 b.low, .int .i64 b.high, .int .i64 b.tin, .int .i64 b.tout], fun _ => rfl, by decide⟩
def fField : Fl Fld := ⟨3, fun f => [.str f.name, .int .i64 f.x, .int .i64 f.y], fun _ => rfl, by decide⟩
def fHeld : Fl HeldC := ⟨3, fun f => [.str f.name, f.t, f.x], fun _ => rfl, by decide⟩
def fCell : Fl Cell := ⟨2, fun f => [.int .i64 f.x, .int .i64 f.y], fun _ => rfl, by decide⟩
def fChoice : Fl Choice := ⟨3, fun f => [.int .i64 f.late, .int .i64 f.way, .int .i64 f.level], fun _ => rfl, by decide⟩
def fSpan : Fl Span := ⟨2, fun f => [.int .i64 f.low, .int .i64 f.high], fun _ => rfl, by decide⟩
def fInt : Fl Int := ⟨1, fun n => [.int .i64 n], fun _ => rfl, by decide⟩
def fBool : Fl Bool := ⟨1, fun n => [.bool n], fun _ => rfl, by decide⟩
def fStr : Fl ByteArray := ⟨1, fun n => [.str n], fun _ => rfl, by decide⟩
def fByte : Fl UInt8 := ⟨1, fun n => [.int .u8 n.toNat], fun _ => rfl, by decide⟩
/-- A slice in a cell of its own (a way). -/
def fCe : Fl Ce := ⟨1, fun n => [n], fun _ => rfl, by decide⟩

def BookC.ces (b : BookC) : List Ce := [.int .i64 b.now, b.f, b.hd]
def WishC.ces (w : WishC) : List Ce := [.str w.name, .int .i64 w.quick, .int .i64 w.slow, .int .i64 w.from_, .int .i64 w.by_, .int .i64 w.late, w.w, w.l]

structure RdHeld (S : Nat → Prop) (h : Heap) (c : HeldC) (a : Held) : Prop where
  name : c.name = a.name
  t : RdF fBox S h c.t a.tube
  x : RdF fBox S h c.x a.next
structure RdBook (S : Nat → Prop) (h : Heap) (c : BookC) (b : Book) : Prop where
  now : c.now = b.now
  f : RdF fField S h c.f b.fields
  hd : ∃ hs : List HeldC, RdF fHeld S h c.hd hs ∧ hs.length = b.held.length ∧ ∀ i (hi : i < hs.length) (hi' : i < b.held.length), RdHeld S h hs[i] b.held[i]
structure RdWish (S : Nat → Prop) (h : Heap) (c : WishC) (w : Wish) : Prop where
  name : c.name = w.name
  quick : c.quick = w.quick
  slow : c.slow = w.slow
  from_ : c.from_ = w.from_
  by_ : c.by_ = w.by_
  late : c.late = w.late
  ws : ∃ ws : List Ce, RdF fCe S h c.w ws ∧ ws.length = w.ways.length ∧ ∀ i (hi : i < ws.length) (hi' : i < w.ways.length), RdF fCell S h ws[i] w.ways[i]
  ls : RdF fInt S h c.l w.levels

section
variable {S S' : Nat → Prop} {h h' : Heap}
theorem RdHeld.frame {c : HeldC} {a : Held} (hf : ∀ b, S b → h'.hp b = h.hp b) (hr : RdHeld S h c a) : RdHeld S h' c a := ⟨hr.name, hr.t.frame hf, hr.x.frame hf⟩
theorem RdHeld.mono {c : HeldC} {a : Held} (hf : ∀ b, S b → S' b) (hr : RdHeld S h c a) : RdHeld S' h c a := ⟨hr.name, hr.t.mono hf, hr.x.mono hf⟩
theorem RdBook.frame {c : BookC} {a : Book} (hf : ∀ b, S b → h'.hp b = h.hp b) (hr : RdBook S h c a) : RdBook S h' c a := by
  obtain ⟨hs, h1, h2, h3⟩ := hr.hd
  exact ⟨hr.now, hr.f.frame hf, hs, h1.frame hf, h2, fun i hi hi' => (h3 i hi hi').frame hf⟩
theorem RdBook.mono {c : BookC} {a : Book} (hf : ∀ b, S b → S' b) (hr : RdBook S h c a) : RdBook S' h c a := by
  obtain ⟨hs, h1, h2, h3⟩ := hr.hd
  exact ⟨hr.now, hr.f.mono hf, hs, h1.mono hf, h2, fun i hi hi' => (h3 i hi hi').mono hf⟩
theorem RdBook.fr {c : BookC} {a : Book} (hr : RdBook S h c a) (f : Fr h h') (hs : ∀ b, S b → b < h.nx) : RdBook S h' c a := hr.frame fun b hb => f.hp b (hs b hb)
theorem RdWish.frame {c : WishC} {a : Wish} (hf : ∀ b, S b → h'.hp b = h.hp b) (hr : RdWish S h c a) : RdWish S h' c a := by
  obtain ⟨hs, h1, h2, h3⟩ := hr.ws
  exact ⟨hr.name, hr.quick, hr.slow, hr.from_, hr.by_, hr.late, ⟨hs, h1.frame hf, h2, fun i hi hi' => (h3 i hi hi').frame hf⟩, hr.ls.frame hf⟩
theorem RdWish.mono {c : WishC} {a : Wish} (hf : ∀ b, S b → S' b) (hr : RdWish S h c a) : RdWish S' h c a := by
  obtain ⟨hs, h1, h2, h3⟩ := hr.ws
  exact ⟨hr.name, hr.quick, hr.slow, hr.from_, hr.by_, hr.late, ⟨hs, h1.mono hf, h2, fun i hi hi' => (h3 i hi hi').mono hf⟩, hr.ls.mono hf⟩
theorem RdWish.fr {c : WishC} {a : Wish} (hr : RdWish S h c a) (f : Fr h h') (hs : ∀ b, S b → b < h.nx) : RdWish S h' c a := hr.frame fun b hb => f.hp b (hs b hb)
end

end Go.Abs

/-
  Short names, so that a function's code takes less room.
-/

namespace Go.Abs
abbrev KI (n : Int) : Opd := .k (.v (.c (.int .i64 n)))
abbrev KT : Opd := .k (.v (.c (.bool true)))
abbrev KF : Opd := .k (.v (.c (.bool false)))
abbrev KN : Opd := .k (.v (.c .nils))
abbrev MV (d s : Nat) : AO := ⟨some d, .mov (.t s), none⟩
abbrev MF (d : Nat) : AO := ⟨some d, .mov KF, none⟩
abbrev LD (d s : Nat) : AO := ⟨some d, .load1 (.t s), none⟩
abbrev FA (d o s : Nat) : AO := ⟨some d, .faddr o (.t s), none⟩
abbrev IA (d n s i : Nat) : AO := ⟨some d, .iaddr n (.t s) (.t i), none⟩
abbrev LE (d s : Nat) : AO := ⟨some d, .len (.t s), none⟩
abbrev OP (d : Nat) (o : AOp) : AO := ⟨some d, o, none⟩
abbrev OX (o : AOp) : AO := ⟨none, o, none⟩
abbrev OT (d g : Nat) (o : AOp) : AO := ⟨some d, o, some (g, true)⟩
abbrev OF (d g : Nat) (o : AOp) : AO := ⟨some d, o, some (g, false)⟩
abbrev Z6 : List Ce := [.int .i64 0, .int .i64 0, .int .i64 0, .int .i64 0, .int .i64 0, .int .i64 0]
end Go.Abs

/-
  Tools for walks: loops in one step; elements of slices, kind by kind.
-/

namespace Go.Abs

section
variable {env : Env} {Q : Ex → X → Prop} {x : X} {a : ACode}
/-- A loop of n rounds at most: each goes on, or leaves, as its own test says. -/
theorem AW_for1 (n : Nat) (stop : Nat → Bool) (I : Nat → X → Prop) (h0 : I 0 x)
    (step : ∀ i x, i < n → (∀ j, j < i → stop j = false) → I i x → AW env a (fun e y => (stop i = false ∧ e = .normal ∧ I (i + 1) y) ∨ (stop i = true ∧ e ≠ .normal ∧ Q e y)) x)
    (done : ∀ x, (∀ j, j < n → stop j = false) → I n x → AW env a (fun e y => e ≠ .normal ∧ Q e y) x) : AW env (.loop a) Q x := by
  refine AW_loop (fun i x => i ≤ n ∧ (∀ j, j < i → stop j = false) ∧ I i x) n ⟨by omega, fun j hj => by omega, h0⟩ ?_
  rintro i x hi ⟨_, hs, hI⟩
  by_cases hin : i < n
  · obtain ⟨e, y, h1, h2 | h2⟩ := step i x hin hs hI
    · obtain ⟨h3, rfl, h4⟩ := h2
      refine ⟨.normal, y, h1, .inl ⟨rfl, hin, by omega, fun j hj => ?_, h4⟩⟩
      by_cases hji : j = i
      · rw [hji]; exact h3
      · exact hs j (by omega)
    · exact ⟨e, y, h1, .inr h2.2⟩
  · obtain rfl : i = n := by omega
    obtain ⟨e, y, h1, h2⟩ := done x hs hI
    exact ⟨e, y, h1, .inr h2⟩
/-- A loop of n rounds, none of which leaves early. -/
theorem AW_each (n : Nat) (I : Nat → X → Prop) (h0 : I 0 x)
    (step : ∀ i x, i < n → I i x → AW env a (fun e y => e = .normal ∧ I (i + 1) y) x)
    (done : ∀ x, I n x → AW env a (fun e y => e ≠ .normal ∧ Q e y) x) : AW env (.loop a) Q x := by
  refine AW_for1 n (fun _ => false) I h0 ?_ (fun x _ h => done x h)
  intro i x hi _ h
  obtain ⟨e, y, h1, h2⟩ := step i x hi h
  exact ⟨e, y, h1, .inl ⟨rfl, h2⟩⟩
end

section
variable {α : Type} {l : List α} {p : α → Bool}
theorem any_of {i : Nat} (hi : i < l.length) (h : p l[i] = true) : l.any p = true := List.any_eq_true.2 ⟨l[i], List.getElem_mem hi, h⟩
theorem any_no (h : ∀ i (hi : i < l.length), p l[i] = false) : l.any p = false := by
  rw [List.any_eq_false]
  intro x hx
  obtain ⟨i, hi, rfl⟩ := List.getElem_of_mem hx
  simp [h i hi]
theorem all_of (h : ∀ i (hi : i < l.length), p l[i] = true) : l.all p = true := by
  rw [List.all_eq_true]
  intro x hx
  obtain ⟨i, hi, rfl⟩ := List.getElem_of_mem hx
  exact h i hi
theorem all_no {i : Nat} (hi : i < l.length) (h : p l[i] = false) : l.all p = false := by
  cases hb : l.all p
  · rfl
  · rw [List.all_eq_true] at hb
    rw [hb _ (List.getElem_mem hi)] at h
    cases h
end

/-- All below n. -/
def allN (n : Nat) (p : Nat → Bool) : Bool := (List.range n).all p
def anyN (n : Nat) (p : Nat → Bool) : Bool := (List.range n).any p
theorem allN_of {n : Nat} {p : Nat → Bool} (h : ∀ j, j < n → p j = true) : allN n p = true := by
  simp only [allN, List.all_eq_true, List.mem_range]; exact h
theorem allN_no {n i : Nat} {p : Nat → Bool} (hi : i < n) (h : p i = false) : allN n p = false := by
  cases hb : allN n p
  · rfl
  · simp only [allN, List.all_eq_true, List.mem_range] at hb
    rw [hb i hi] at h; cases h
theorem allN_iff {n : Nat} {p : Nat → Bool} : allN n p = true ↔ ∀ j, j < n → p j = true := by simp [allN]
theorem anyN_of {n i : Nat} {p : Nat → Bool} (hi : i < n) (h : p i = true) : anyN n p = true := by
  simp only [anyN, List.any_eq_true, List.mem_range]; exact ⟨i, hi, h⟩
theorem anyN_no {n : Nat} {p : Nat → Bool} (h : ∀ j, j < n → p j = false) : anyN n p = false := by
  cases hb : anyN n p
  · rfl
  · simp only [anyN, List.any_eq_true, List.mem_range] at hb
    obtain ⟨j, hj, hp⟩ := hb
    rw [h j hj] at hp; cases hp
theorem anyN_iff {n : Nat} {p : Nat → Bool} : anyN n p = true ↔ ∃ j, j < n ∧ p j = true := by simp [anyN]

section
variable {S : Nat → Prop} {h : Heap} {c : Ce}
theorem RdF.box {l : List Box} (hr : RdF fBox S h c l) {i : Nat} (hi : i < l.length) :
    ∃ b p r, c.eltAt 6 i = some (.inr b, p) ∧ S b ∧ h.hp b = some r ∧ p + 6 ≤ r.cs.length ∧ (r.cs.drop p).take 6 = [.int .i64 l[i].x, .int .i64 l[i].y, .int .i64 l[i].low, .int .i64 l[i].high, .int .i64 l[i].tin, .int .i64 l[i].tout] ∧
      r.cs[p]? = some (.int .i64 l[i].x) ∧ r.cs[p + 1]? = some (.int .i64 l[i].y) ∧ r.cs[p + 2]? = some (.int .i64 l[i].low) ∧ r.cs[p + 3]? = some (.int .i64 l[i].high) ∧ r.cs[p + 4]? = some (.int .i64 l[i].tin) ∧ r.cs[p + 5]? = some (.int .i64 l[i].tout) := by
  obtain ⟨b, p, r, h1, h2, h3, h4, h5, h6⟩ := hr.at hi
  exact ⟨b, p, r, h1, h2, h3, h4, h5, h6 0 (by decide), h6 1 (by decide), h6 2 (by decide), h6 3 (by decide), h6 4 (by decide), h6 5 (by decide)⟩
theorem RdF.field {l : List Fld} (hr : RdF fField S h c l) {i : Nat} (hi : i < l.length) :
    ∃ b p r, c.eltAt 3 i = some (.inr b, p) ∧ S b ∧ h.hp b = some r ∧ p + 3 ≤ r.cs.length ∧ (r.cs.drop p).take 3 = [.str l[i].name, .int .i64 l[i].x, .int .i64 l[i].y] ∧
      r.cs[p]? = some (.str l[i].name) ∧ r.cs[p + 1]? = some (.int .i64 l[i].x) ∧ r.cs[p + 2]? = some (.int .i64 l[i].y) := by
  obtain ⟨b, p, r, h1, h2, h3, h4, h5, h6⟩ := hr.at hi
  exact ⟨b, p, r, h1, h2, h3, h4, h5, h6 0 (by decide), h6 1 (by decide), h6 2 (by decide)⟩
theorem RdF.heldc {l : List HeldC} (hr : RdF fHeld S h c l) {i : Nat} (hi : i < l.length) :
    ∃ b p r, c.eltAt 3 i = some (.inr b, p) ∧ S b ∧ h.hp b = some r ∧ p + 3 ≤ r.cs.length ∧ (r.cs.drop p).take 3 = [.str l[i].name, l[i].t, l[i].x] ∧
      r.cs[p]? = some (.str l[i].name) ∧ r.cs[p + 1]? = some l[i].t ∧ r.cs[p + 2]? = some l[i].x := by
  obtain ⟨b, p, r, h1, h2, h3, h4, h5, h6⟩ := hr.at hi
  exact ⟨b, p, r, h1, h2, h3, h4, h5, h6 0 (by decide), h6 1 (by decide), h6 2 (by decide)⟩
theorem RdF.choice {l : List Choice} (hr : RdF fChoice S h c l) {i : Nat} (hi : i < l.length) :
    ∃ b p r, c.eltAt 3 i = some (.inr b, p) ∧ S b ∧ h.hp b = some r ∧ p + 3 ≤ r.cs.length ∧ (r.cs.drop p).take 3 = [.int .i64 l[i].late, .int .i64 l[i].way, .int .i64 l[i].level] ∧
      r.cs[p]? = some (.int .i64 l[i].late) ∧ r.cs[p + 1]? = some (.int .i64 l[i].way) ∧ r.cs[p + 2]? = some (.int .i64 l[i].level) := by
  obtain ⟨b, p, r, h1, h2, h3, h4, h5, h6⟩ := hr.at hi
  exact ⟨b, p, r, h1, h2, h3, h4, h5, h6 0 (by decide), h6 1 (by decide), h6 2 (by decide)⟩
theorem RdF.cell {l : List Cell} (hr : RdF fCell S h c l) {i : Nat} (hi : i < l.length) :
    ∃ b p r, c.eltAt 2 i = some (.inr b, p) ∧ S b ∧ h.hp b = some r ∧ p + 2 ≤ r.cs.length ∧ (r.cs.drop p).take 2 = [.int .i64 l[i].x, .int .i64 l[i].y] ∧
      r.cs[p]? = some (.int .i64 l[i].x) ∧ r.cs[p + 1]? = some (.int .i64 l[i].y) := by
  obtain ⟨b, p, r, h1, h2, h3, h4, h5, h6⟩ := hr.at hi
  exact ⟨b, p, r, h1, h2, h3, h4, h5, h6 0 (by decide), h6 1 (by decide)⟩
theorem RdF.span {l : List Span} (hr : RdF fSpan S h c l) {i : Nat} (hi : i < l.length) :
    ∃ b p r, c.eltAt 2 i = some (.inr b, p) ∧ S b ∧ h.hp b = some r ∧ p + 2 ≤ r.cs.length ∧ (r.cs.drop p).take 2 = [.int .i64 l[i].low, .int .i64 l[i].high] ∧
      r.cs[p]? = some (.int .i64 l[i].low) ∧ r.cs[p + 1]? = some (.int .i64 l[i].high) := by
  obtain ⟨b, p, r, h1, h2, h3, h4, h5, h6⟩ := hr.at hi
  exact ⟨b, p, r, h1, h2, h3, h4, h5, h6 0 (by decide), h6 1 (by decide)⟩
theorem RdF.int1 {l : List Int} (hr : RdF fInt S h c l) {i : Nat} (hi : i < l.length) :
    ∃ b p r, c.eltAt 1 i = some (.inr b, p) ∧ S b ∧ h.hp b = some r ∧ p + 1 ≤ r.cs.length ∧ r.cs[p]? = some (.int .i64 l[i]) := by
  obtain ⟨b, p, r, h1, h2, h3, h4, _, h6⟩ := hr.at hi
  exact ⟨b, p, r, h1, h2, h3, h4, h6 0 (by decide)⟩
theorem RdF.bool1 {l : List Bool} (hr : RdF fBool S h c l) {i : Nat} (hi : i < l.length) :
    ∃ b p r, c.eltAt 1 i = some (.inr b, p) ∧ S b ∧ h.hp b = some r ∧ p + 1 ≤ r.cs.length ∧ r.cs[p]? = some (.bool l[i]) := by
  obtain ⟨b, p, r, h1, h2, h3, h4, _, h6⟩ := hr.at hi
  exact ⟨b, p, r, h1, h2, h3, h4, h6 0 (by decide)⟩
theorem RdF.str1 {l : List ByteArray} (hr : RdF fStr S h c l) {i : Nat} (hi : i < l.length) :
    ∃ b p r, c.eltAt 1 i = some (.inr b, p) ∧ S b ∧ h.hp b = some r ∧ p + 1 ≤ r.cs.length ∧ r.cs[p]? = some (.str l[i]) := by
  obtain ⟨b, p, r, h1, h2, h3, h4, _, h6⟩ := hr.at hi
  exact ⟨b, p, r, h1, h2, h3, h4, h6 0 (by decide)⟩
theorem RdF.byte1 {l : List UInt8} (hr : RdF fByte S h c l) {i : Nat} (hi : i < l.length) :
    ∃ b p r, c.eltAt 1 i = some (.inr b, p) ∧ S b ∧ h.hp b = some r ∧ p + 1 ≤ r.cs.length ∧ r.cs[p]? = some (.int .u8 l[i].toNat) := by
  obtain ⟨b, p, r, h1, h2, h3, h4, _, h6⟩ := hr.at hi
  exact ⟨b, p, r, h1, h2, h3, h4, h6 0 (by decide)⟩
theorem RdF.ce1 {l : List Ce} (hr : RdF fCe S h c l) {i : Nat} (hi : i < l.length) :
    ∃ b p r, c.eltAt 1 i = some (.inr b, p) ∧ S b ∧ h.hp b = some r ∧ p + 1 ≤ r.cs.length ∧ r.cs[p]? = some l[i] ∧ (r.cs.drop p).take 1 = [l[i]] := by
  obtain ⟨b, p, r, h1, h2, h3, h4, h5, h6⟩ := hr.at hi
  exact ⟨b, p, r, h1, h2, h3, h4, h6 0 (by decide), h5⟩
end

def inB (n lo hi : Int) : Bool := decide (lo ≤ n) && decide (n ≤ hi)
def wrap64 (n : Int) : Int := IntKind.i64.wrap n
theorem wrap64_id {n : Int} (h1 : -9223372036854775808 ≤ n) (h2 : n ≤ 9223372036854775807) : wrap64 n = n := wrap_i64 h1 h2
def max2 (x y : Int) : Int := if x < y then y else x
def min2 (x y : Int) : Int := if y < x then y else x
theorem max2_eq (x y : Int) : max2 x y = max x y := by unfold max2; split <;> omega
theorem min2_eq (x y : Int) : min2 x y = min x y := by unfold min2; split <;> omega

theorem ints_one (x : Av) (l : List Av) : ints (x :: l) = x.int64?.bind fun n => (ints l).map (n :: ·) := by
  cases x with
  | v t =>
    cases t with
    | c c =>
      cases c with
      | int k n => cases k <;> first | rfl | simp [ints, Av.int64?]
      | _ => rfl
    | agg l => rfl
  | _ => rfl
theorem aop_maxs2 {env : Env} {d : Option Nat} {T : Nat → Av} {s : St} {x y : Opd} : aop env d T s (.maxs [x, y]) = (ev T x).int64?.bind fun a => (ev T y).int64?.bind fun b => some (.v (.c (.int .i64 (max2 a b))), s) := by
  simp only [aop, evs, ints_one, ints]
  cases (ev T x).int64? <;> cases (ev T y).int64? <;> rfl
theorem aop_mins2 {env : Env} {d : Option Nat} {T : Nat → Av} {s : St} {x y : Opd} : aop env d T s (.mins [x, y]) = (ev T x).int64?.bind fun a => (ev T y).int64?.bind fun b => some (.v (.c (.int .i64 (min2 a b))), s) := by
  simp only [aop, evs, ints_one, ints]
  cases (ev T x).int64? <;> cases (ev T y).int64? <;> rfl
theorem aop_mins3 {env : Env} {d : Option Nat} {T : Nat → Av} {s : St} {x y z : Opd} : aop env d T s (.mins [x, y, z]) = (ev T x).int64?.bind fun a => (ev T y).int64?.bind fun b => (ev T z).int64?.bind fun c => some (.v (.c (.int .i64 (min2 (min2 a b) c))), s) := by
  simp only [aop, evs, ints_one, ints]
  cases (ev T x).int64? <;> cases (ev T y).int64? <;> cases (ev T z).int64? <;> rfl
theorem pk_orc {y y' z : Bool} (h : (!y) = y') : pk y (.v (.c (.bool true))) (gd y' (.v (.c (.bool z)))) = .v (.c (.bool (y || z))) := by
  subst h; cases y <;> rfl
theorem pk_andc {y y' z : Bool} (h : y = y') : pk y (gd y' (.v (.c (.bool z)))) (.v (.c (.bool false))) = .v (.c (.bool (y && z))) := by
  subst h; cases y <;> rfl
def okB (b : Box) : Bool := inB b.x 0 15 && inB b.y 0 15 && inB b.low 0 b.high && decide (b.high ≤ 6) && inB b.tin 0 b.tout && decide (b.tout ≤ 10000)
def closeB (a b : Box) : Bool := okB a && okB b && inB (wrap64 (a.x - b.x)) (-1) 1 && inB (wrap64 (a.y - b.y)) (-1) 1 && decide (a.low ≤ b.high) && decide (b.low ≤ a.high) && decide (a.tin ≤ b.tout) && decide (b.tin ≤ a.tout)
/-- Two tubes come too near. -/
def nearL (l l' : List Box) : Bool := l.any fun a => l'.any fun b => closeB a b
def cut1 (k : Int) (b : Box) : Option Box := if b.tout < k then none else some { b with tin := if b.tin < k then k else b.tin }
/-- A tube from a tick on. -/
def cutB (k : Int) (l : List Box) : List Box := l.filterMap (cut1 k)
theorem cutB_le (k : Int) (l : List Box) : (cutB k l).length ≤ l.length := List.length_filterMap_le _ _
theorem cutB_take (k : Int) (l : List Box) {i : Nat} (hi : i < l.length) : cutB k (l.take (i + 1)) = cutB k (l.take i) ++ (cut1 k l[i]).toList := by
  have e : l.take (i + 1) = l.take i ++ [l[i]] := by rw [List.take_add_one, List.getElem?_eq_getElem hi]; rfl
  rw [e]
  unfold cutB
  rw [List.filterMap_append]
  cases hc : cut1 k l[i] <;> simp [hc]

section
variable {α : Type} {F : Fl α} {S : Nat → Prop} {h h' : Heap} {c : Ce} {l : List α}
theorem RdF.keep (hr : RdF F S h c l) (ho : HOk h) (f : Fr h h') : RdF F S h' c l := by
  obtain ⟨h0, h1 | h1 | ⟨b, o, m, r, h1, h2, h3, h4, h5⟩⟩ := hr
  · exact ⟨h0, .inl h1⟩
  · exact ⟨h0, .inr (.inl h1)⟩
  · exact ⟨h0, .inr (.inr ⟨b, o, m, r, h1, h2, (f.hp b (ho.lt h3)).trans h3, h4, h5⟩)⟩
theorem RdHeld.keep {c : HeldC} {a : Held} (hr : RdHeld S h c a) (ho : HOk h) (f : Fr h h') : RdHeld S h' c a := ⟨hr.name, hr.t.keep ho f, hr.x.keep ho f⟩
theorem RdBook.keep {c : BookC} {a : Book} (hr : RdBook S h c a) (ho : HOk h) (f : Fr h h') : RdBook S h' c a := by
  obtain ⟨hs, h1, h2, h3⟩ := hr.hd
  exact ⟨hr.now, hr.f.keep ho f, hs, h1.keep ho f, h2, fun i hi hi' => (h3 i hi hi').keep ho f⟩
theorem RdWish.keep {c : WishC} {a : Wish} (hr : RdWish S h c a) (ho : HOk h) (f : Fr h h') : RdWish S h' c a := by
  obtain ⟨hs, h1, h2, h3⟩ := hr.ws
  exact ⟨hr.name, hr.quick, hr.slow, hr.from_, hr.by_, hr.late, ⟨hs, h1.keep ho f, h2, fun i hi hi' => (h3 i hi hi').keep ho f⟩, hr.ls.keep ho f⟩
end

/-- A slice made since h, and nothing of h turned. -/
structure NewF {α : Type} (F : Fl α) (h h' : Heap) (c : Ce) (l : List α) (fp : List Nat) : Prop where
  own : OwnF F h' c l fp
  fr : Fr h h'
  ge : ∀ b, b ∈ fp → h.nx ≤ b
section
variable {α : Type} {F : Fl α} {h h' : Heap} {c : Ce} {l : List α} {fp : List Nat}
theorem NewF.nil (ho : HOk h) : NewF F h h .nils [] [] := ⟨OwnF.nil, Fr.refl ho, by simp⟩
theorem NewF.push (ho : HOk h) (l : List α) (n : Nat) (hn : n = l.length) : NewF F h (h.push ⟨F.all l, F.sz, true⟩) (.sl (.inr h.nx) 0 n .own) l [h.nx] := ⟨OwnF.new h l n hn, Fr.push ho _, by simp⟩
theorem NewF.appends (n : NewF F h h' c l fp) (l' : List α) (hn : l.length + l'.length ≤ lim) :
    ∃ c'' h'' fp'', NewF F h h'' c'' (l ++ l') fp'' ∧ h'.nx ≤ h''.nx ∧ (∀ b, b < h'.nx → b ∉ fp → h''.hp b = h'.hp b) ∧ (∀ b, b ∈ fp'' → h'.nx ≤ b) ∧ ∀ lc y, St.elemsA ⟨h', lc⟩ F.sz y = some (F.all l') → y.slen = some l'.length → appendA ⟨h', lc⟩ F.sz c y = some (c'', ⟨h'', lc⟩) := by
  obtain ⟨c'', h'', fp'', h1, h2, h3, h4, h5, h6⟩ := n.own.appends n.fr.ok l' hn
  refine ⟨c'', h'', fp'', ⟨h1, ⟨Nat.le_trans n.fr.nx h2, fun b hb => ?_, h3⟩, fun b hb => Nat.le_trans n.fr.nx (h5 b hb).2⟩, h2, h4, fun b hb => (h5 b hb).2, h6⟩
  rw [h4 b (Nat.lt_of_lt_of_le hb n.fr.nx) (fun hm => by have := n.ge b hm; omega)]
  exact n.fr.hp b hb
theorem NewF.append1 (n : NewF F h h' c l fp) (a : α) (hn : l.length + 1 ≤ lim) :
    ∃ c'' h'' fp'', NewF F h h'' c'' (l ++ [a]) fp'' ∧ h'.nx ≤ h''.nx ∧ (∀ b, b < h'.nx → b ∉ fp → h''.hp b = h'.hp b) ∧ (∀ b, b ∈ fp'' → h'.nx ≤ b) ∧ ∀ lc k m, lc k = some ⟨F.ces a, F.sz, true⟩ → appendA ⟨h', lc⟩ F.sz c (.sl (.inl k) 0 1 m) = some (c'', ⟨h'', lc⟩) := by
  obtain ⟨c'', h'', fp'', h1, h2, h3, h4, h5⟩ := n.appends [a] (by simpa using hn)
  refine ⟨c'', h'', fp'', h1, h2, h3, h4, fun lc k m hk => h5 lc _ ?_ rfl⟩
  rw [St.elemsA, if_neg (by simp [Ce.slen])]
  simp only [St.elems, St.get, hk, F.all_one]
  have hl := F.len a
  rw [if_pos (by omega), List.drop_zero, List.take_of_length_le (by omega)]
end

/-- Nothing turns but the blocks fp. -/
structure Chg (fp : List Nat) (h h' : Heap) : Prop where
  nx : h.nx ≤ h'.nx
  hp : ∀ b, b < h.nx → b ∉ fp → h'.hp b = h.hp b
  ok : HOk h'
theorem Chg.refl {h : Heap} (ho : HOk h) {fp : List Nat} : Chg fp h h := ⟨Nat.le_refl _, fun _ _ _ => rfl, ho⟩
theorem Chg.trans {fp fp' fq : List Nat} {a b c : Heap} (x : Chg fp a b) (y : Chg fp' b c) (h1 : ∀ t, t ∈ fp → t ∈ fq) (h2 : ∀ t, t ∈ fp' → t ∈ fq) : Chg fq a c :=
  ⟨Nat.le_trans x.nx y.nx, fun t ht hn => (y.hp t (Nat.lt_of_lt_of_le ht x.nx) fun k => hn (h2 t k)).trans (x.hp t ht fun k => hn (h1 t k)), y.ok⟩
theorem Chg.mono {fp fq : List Nat} {a b : Heap} (x : Chg fp a b) (h1 : ∀ t, t ∈ fp → t ∈ fq) : Chg fq a b := ⟨x.nx, fun t ht hn => x.hp t ht fun k => hn (h1 t k), x.ok⟩
theorem Fr.chg {fp : List Nat} {a b : Heap} (x : Fr a b) : Chg fp a b := ⟨x.nx, fun t ht _ => x.hp t ht, x.ok⟩
theorem Chg.fr {a b : Heap} (x : Chg [] a b) : Fr a b := ⟨x.nx, fun t ht => x.hp t ht (by simp), x.ok⟩
theorem upd_same {α : Type} {f : Nat → α} {i : Nat} {v : α} (h : f i = v) : upd f i v = f := by
  funext j
  simp only [upd]
  split
  · rename_i e; rw [e, h]
  · rfl
theorem Chg.one {h : Heap} (ho : HOk h) {b : Nat} (hb : b < h.nx) (r : Option Row) : Chg [b] h ⟨h.nx, upd h.hp b r⟩ := by
  refine ⟨Nat.le_refl _, fun t _ hn => ?_, fun t ht => ?_⟩
  · simp only [upd]
    rw [if_neg (by simpa using hn)]
  · simp only at ht
    simp only [upd]
    rw [if_neg (by omega)]
    exact ho t ht
theorem RdF.chg {α : Type} {F : Fl α} {S : Nat → Prop} {h h' : Heap} {c : Ce} {l : List α} {fp : List Nat} (hr : RdF F S h c l) (ho : HOk h) (f : Chg fp h h') (hS : ∀ b, S b → b ∉ fp) : RdF F S h' c l := by
  obtain ⟨h0, h1 | h1 | ⟨b, o, m, r, h1, h2, h3, h4, h5⟩⟩ := hr
  · exact ⟨h0, .inl h1⟩
  · exact ⟨h0, .inr (.inl h1)⟩
  · exact ⟨h0, .inr (.inr ⟨b, o, m, r, h1, h2, (f.hp b (ho.lt h3) (hS b h2)).trans h3, h4, h5⟩)⟩
theorem OwnF.chg {α : Type} {F : Fl α} {h h' : Heap} {c : Ce} {l : List α} {fp fq : List Nat} (hr : OwnF F h c l fq) (ho : HOk h) (f : Chg fp h h') (hS : ∀ b, b ∈ fq → b ∉ fp) : OwnF F h' c l fq := by
  rcases hr with h1 | ⟨b, h1, h2, rfl⟩
  · exact .inl h1
  · exact .inr ⟨b, h1, (f.hp b (ho.lt h2) (hS b (by simp))).trans h2, rfl⟩
theorem take_drop_set {α : Type} (a l : List α) {i : Nat} (hi : i < l.length) (hi' : i < a.length) : (a.take i ++ l.drop i).set i a[i] = a.take (i + 1) ++ l.drop (i + 1) := by
  have e1 : l.drop i = l[i] :: l.drop (i + 1) := by simp
  have e2 : a.take (i + 1) = a.take i ++ [a[i]] := by rw [List.take_add_one, List.getElem?_eq_getElem hi']; rfl
  rw [List.set_append_right _ _ (by rw [List.length_take]; omega), e1, e2, List.append_assoc, List.length_take, Nat.min_eq_left (by omega), Nat.sub_self]
  rfl

theorem bytes_eq {a b : ByteArray} : a.toList = b.toList ↔ a = b := by
  rw [ByteArray.toList_eq, ByteArray.toList_eq]
  constructor
  · intro h
    cases a; cases b
    simp only [ByteArray.mk.injEq]
    exact Array.toList_inj.1 h
  · intro h; rw [h]
theorem bytes_beq {a b : ByteArray} : (a.toList == b.toList) = decide (a = b) := by
  rw [Bool.eq_iff_iff]; simp [bytes_eq]
def SzS (s : ByteArray) : Prop := s.size ≤ 9223372036854775807
def FieldsWf (l : List Fld) : Prop := ∀ f, f ∈ l → SzS f.name
def HeldWf (l : List Held) : Prop := ∀ f, f ∈ l → SzS f.name
structure BookWf (b : Book) : Prop where
  f : FieldsWf b.fields
  h : HeldWf b.held
/-- What is counted is not too much. -/
def Left (k r : Int) : Prop := r = -1 ∨ (0 ≤ r ∧ r ≤ k)
theorem sub_left {k : Int} {n : Nat} (hk : 0 ≤ k ∧ k ≤ 1048576) (hn : n ≤ 9223372036854775807) : IntKind.i64.wrap (k - n) = k - n := wrap_i64 (by omega) (by omega)

/-- The cell of a runway? -/
def isFieldB (l : List Fld) (x y : Int) : Bool := l.any fun f => f.x == x && f.y == y
def nextB (a b : Box) : Bool := inB (wrap64 (a.x - b.x)) (-1) 1 && inB (wrap64 (a.y - b.y)) (-1) 1 && decide (a.low ≤ b.high) && decide (b.low ≤ a.high) && decide (a.tin ≤ b.tin) && decide (a.tout ≤ b.tout) && decide (b.tin ≤ wrap64 (a.tout + 1))
def groundB (l : List Fld) (b : Box) : Bool := l.any fun f => f.x == b.x && f.y == b.y && b.low == 0
/-- Box i of a tube is ok, and behind the one ahead of it. -/
def stepB (t : List Box) (i : Nat) : Bool := okB (t.getD i default) && (i == 0 || nextB (t.getD (i - 1) default) (t.getD i default))
def tubeOkB (fs : List Fld) (t : List Box) : Bool := decide (1 ≤ t.length) && decide (t.length ≤ 40) && allN t.length (stepB t) && groundB fs (t.getD (t.length - 1) default)

def chOk (b : UInt8) : Bool := (decide (97 ≤ (b.toNat : Int)) && decide ((b.toNat : Int) ≤ 122)) || (decide (48 ≤ (b.toNat : Int)) && decide ((b.toNat : Int) ≤ 57)) || (b.toNat : Int) == 45
def byteAt (s : ByteArray) (i : Nat) : UInt8 := (s[i]?).getD 0
def nameOkB (s : ByteArray) : Bool := decide (1 ≤ s.size) && decide (s.size ≤ 8) && allN s.size fun i => chOk (byteAt s i)
def ltS (a b : ByteArray) : Bool := Op.bytesLess a.toList b.toList
def fieldStep (fs : List Fld) (i : Nat) : Bool :=
  nameOkB (fs.getD i default).name && (i == 0 || ltS (fs.getD (i - 1) default).name (fs.getD i default).name) && inB (fs.getD i default).x 0 15 && inB (fs.getD i default).y 0 15 && !isFieldB (fs.take i) (fs.getD i default).x (fs.getD i default).y
def fieldsOkB (fs : List Fld) : Bool := decide (fs.length ≤ 4) && allN fs.length (fieldStep fs)
def fromB (t : List Box) (now : Int) : Bool := t.all fun b => decide (now ≤ b.tin)
def heldOkB (now : Int) (fs : List Fld) (a : Held) : Bool := nameOkB a.name && tubeOkB fs a.tube && fromB a.tube now && (decide (a.next.length = 0) || tubeOkB fs a.next && fromB a.next now)
def meetsB (a b : Held) : Bool := nearL a.tube b.tube || nearL a.tube b.next || nearL a.next b.tube || nearL a.next b.next
def bookStep (b : Book) (i : Nat) : Bool :=
  heldOkB b.now b.fields (b.held.getD i default) && (i == 0 || ltS (b.held.getD (i - 1) default).name (b.held.getD i default).name) && !(b.held.take i).any fun o => meetsB o (b.held.getD i default)
def bookOkB (b : Book) : Bool := inB b.now 0 10000 && fieldsOkB b.fields && decide (b.held.length ≤ 16) && allN b.held.length (bookStep b)
def freeB (b : Book) (n : ByteArray) (t : List Box) : Bool := b.held.all fun a => decide (a.name = n) || !(nearL a.tube t || nearL a.next t)

/-- A part of a slice. -/
def Ce.cut (m : Md) (sz a b : Nat) : Ce → Ce
  | .sl q o _ _ => .sl q (o + a * sz) (b - a) m
  | c => c
theorem aop_slice_hi {env : Env} {d : Option Nat} {T : Nat → Av} {s : St} {sz : Nat} {x y : Opd} : aop env d T s (.slice sz x none (some y) none) = (ev T x).ce?.bind fun a => a.slen.bind fun n => (ev T y).int?.bind fun h => if 0 ≤ h ∧ h ≤ n then some (.v (.c (a.cut .any sz 0 h.toNat)), s) else none := by
  simp only [aop, optInt]
  cases (ev T x).ce? with
  | none => rfl
  | some a =>
    cases a with
    | sl q o n m =>
      simp only [Option.bind_some, Ce.slen]
      cases (ev T y).int? with
      | none => rfl
      | some h => simp [Ce.cut]
    | nils =>
      simp only [Option.bind_some, Ce.slen]
      cases (ev T y).int? with
      | none => rfl
      | some h => simp [Ce.cut]
    | _ => rfl
theorem aop_slice_lo {env : Env} {d : Option Nat} {T : Nat → Av} {s : St} {sz : Nat} {x y : Opd} : aop env d T s (.slice sz x (some y) none none) = (ev T x).ce?.bind fun a => a.slen.bind fun n => (ev T y).int?.bind fun l => if 0 ≤ l ∧ l ≤ n then some (.v (.c (a.cut .any sz l.toNat n)), s) else none := by
  simp only [aop, optInt]
  cases (ev T x).ce? with
  | none => rfl
  | some a =>
    cases a with
    | sl q o n m =>
      simp only [Option.bind_some, Ce.slen]
      cases (ev T y).int? with
      | none => rfl
      | some h =>
        simp only [Option.bind_some, Ce.cut]
        by_cases h1 : 0 ≤ h ∧ h ≤ n
        · rw [if_pos h1, if_pos ⟨h1.1, h1.2, Int.le_refl _, Int.le_refl _⟩]
          have : ((n : Int) - h).toNat = n - h.toNat := by omega
          rw [this]
        · rw [if_neg h1, if_neg (fun k => h1 ⟨k.1, k.2.1⟩)]
    | nils =>
      simp only [Option.bind_some, Ce.slen]
      cases (ev T y).int? with
      | none => rfl
      | some h => simp [Ce.cut]
    | _ => rfl
theorem RdF.cut {α : Type} {F : Fl α} {S : Nat → Prop} {h : Heap} {c : Ce} {l : List α} (hr : RdF F S h c l) {a b : Nat} (hab : a ≤ b) (hb : b ≤ l.length) : RdF F S h (c.cut .any F.sz a b) ((l.take b).drop a) := by
  obtain ⟨h0, h1 | h1 | ⟨q, o, m', r, rfl, h2, h3, h4, h5⟩⟩ := hr
  · obtain ⟨rfl, rfl⟩ := h1
    exact ⟨by simp, .inl ⟨rfl, by simp⟩⟩
  · obtain ⟨rfl, rfl⟩ := h1
    simp at hb
    subst hb
    obtain rfl : a = 0 := by omega
    refine ⟨by simp, .inr (.inl ⟨?_, by simp⟩)⟩
    simp [Ce.cut]
  · have hlen : ((l.take b).drop a).length = b - a := by rw [List.length_drop, List.length_take]; omega
    have e1 : a * F.sz + (b - a) * F.sz = b * F.sz := by rw [← Nat.add_mul]; congr 1; omega
    have e2 : b * F.sz ≤ l.length * F.sz := Nat.mul_le_mul_right _ hb
    refine ⟨by omega, .inr (.inr ⟨q, o + a * F.sz, .any, r, by rw [hlen]; rfl, h2, h3, by rw [hlen]; omega, ?_⟩)⟩
    rw [hlen]
    have e3 : (F.all l).drop (a * F.sz) = F.all (l.drop a) := by
      conv => lhs; rw [← List.take_append_drop a l, F.all_append]
      have : (F.all (l.take a)).length = a * F.sz := by rw [F.all_length, List.length_take, Nat.min_eq_left (by omega)]
      rw [← this, List.drop_left]
    have e4 : ∀ (k : List α) (n : Nat), n ≤ k.length → (F.all k).take (n * F.sz) = F.all (k.take n) := by
      intro k n hn
      conv => lhs; rw [← List.take_append_drop n k, F.all_append]
      have : (F.all (k.take n)).length = n * F.sz := by rw [F.all_length, List.length_take, Nat.min_eq_left hn]
      rw [← this, List.take_left]
    have e5 : ((r.cs.drop o).take (l.length * F.sz)).drop (a * F.sz) = F.all (l.drop a) := by rw [h5, e3]
    rw [List.drop_take, List.drop_drop] at e5
    have e6 : ((r.cs.drop (o + a * F.sz)).take (l.length * F.sz - a * F.sz)).take ((b - a) * F.sz) = (r.cs.drop (o + a * F.sz)).take ((b - a) * F.sz) := by
      rw [List.take_take, Nat.min_eq_left (by omega)]
    rw [← e6, e5, e4 _ _ (by rw [List.length_drop]; omega), List.take_drop]
    congr 3
    omega
theorem Ce.cut_noLoc {c : Ce} (h : c.noLoc = true) {m : Md} {sz a b : Nat} : (c.cut m sz a b).noLoc = true := by
  cases c with
  | sl q o n m' => exact h
  | _ => exact h

end Go.Abs

/-
  From the readings of arguments to slices of plain values.
-/

namespace Go.Abs

theorem list_choose {β : Type} {P : Nat → β → Prop} : ∀ n, (∀ i, i < n → ∃ b, P i b) → ∃ bs : List β, bs.length = n ∧ ∀ i (hi : i < bs.length), P i bs[i]
  | 0, _ => ⟨[], rfl, fun i hi => by simp at hi⟩
  | n + 1, h => by
    obtain ⟨bs, h1, h2⟩ := list_choose n (fun i hi => h i (by omega))
    obtain ⟨b, hb⟩ := h n (by omega)
    refine ⟨bs ++ [b], by simp [h1], fun i hi => ?_⟩
    by_cases hin : i < bs.length
    · rw [List.getElem_append_left hin]; exact h2 i hin
    · have : i = bs.length := by simp at hi; omega
      subst this
      rw [List.getElem_append_right (Nat.le_refl _)]
      simp only [Nat.sub_self, List.getElem_cons_zero]
      rw [h1]; exact hb
theorem Fl.all_chunks {α : Type} (F : Fl α) : ∀ (bs : List α) (cs : List Ce), cs.length = bs.length * F.sz → (∀ i (hi : i < bs.length), (cs.drop (i * F.sz)).take F.sz = F.ces bs[i]) → cs = F.all bs
  | [], cs, h, _ => by simpa [Fl.all] using h
  | b :: bs, cs, h, k => by
    have h0 := k 0 (by simp)
    simp only [Nat.zero_mul, List.drop_zero, List.getElem_cons_zero] at h0
    have h1 := Fl.all_chunks F bs (cs.drop F.sz) (by rw [List.length_drop, h, List.length_cons, Nat.succ_mul]; omega) (fun i hi => by
      have := k (i + 1) (by simpa using hi)
      rw [Nat.succ_mul, Nat.add_comm] at this
      rw [List.drop_drop]
      simpa using this)
    rw [F.all_cons, ← h1, ← h0, List.take_append_drop]
theorem RdSl.to {α β : Type} {E : Elt α} (F : Fl β) {R : β → α → Prop} {h : Heap} {c : Ce} {l : List α} (ho : HOk h) (hs : E.sz = F.sz) (hE : ∀ cs a, E.rel h cs a → ∃ b, cs = F.ces b ∧ R b a) (hr : RdSl E h c l) :
    ∃ bs : List β, RdF F (fun b => b < h.nx) h c bs ∧ bs.length = l.length ∧ ∀ i (hi : i < bs.length) (hi' : i < l.length), R bs[i] l[i] := by
  rcases hr with ⟨rfl, rfl⟩ | ⟨rfl, rfl⟩ | ⟨b, o, m, r, rfl, h2, h3, h4, h5⟩
  · exact ⟨[], ⟨by simp, .inl ⟨rfl, rfl⟩⟩, rfl, fun i hi => by simp at hi⟩
  · exact ⟨[], ⟨by simp, .inr (.inl ⟨rfl, rfl⟩)⟩, rfl, fun i hi => by simp at hi⟩
  · obtain ⟨bs, g1, g2⟩ := list_choose (P := fun i b => (r.cs.drop (o + i * E.sz)).take E.sz = F.ces b ∧ ∀ hi : i < l.length, R b l[i]) l.length (fun i hi => by
      obtain ⟨b, k1, k2⟩ := hE _ _ (h5 i l[i] (List.getElem?_eq_getElem hi))
      exact ⟨b, k1, fun _ => k2⟩)
    rw [hs] at h4 g2
    refine ⟨bs, ⟨by omega, .inr (.inr ⟨b, o, m, r, by rw [g1], ho.lt h3, h3, by rw [g1]; exact h4, ?_⟩)⟩, g1, fun i hi hi' => (g2 i hi).2 hi'⟩
    apply F.all_chunks
    · rw [List.length_take, List.length_drop, g1]; omega
    · intro i hi
      rw [← (g2 i hi).1, List.drop_take, List.take_take, List.drop_drop]
      congr 1
      have := Nat.mul_le_mul_right F.sz (show i + 1 ≤ bs.length from hi)
      rw [Nat.succ_mul] at this
      omega
theorem RdSl.toSame {α : Type} {E : Elt α} (F : Fl α) {h : Heap} {c : Ce} {l : List α} (ho : HOk h) (hs : E.sz = F.sz) (hE : ∀ cs a, E.rel h cs a → cs = F.ces a) (hr : RdSl E h c l) : RdF F (fun b => b < h.nx) h c l := by
  obtain ⟨bs, h1, h2, h3⟩ := RdSl.to F (R := fun b a => b = a) ho hs (fun cs a k => ⟨a, hE cs a k, rfl⟩) hr
  have : bs = l := List.ext_getElem h2 fun i hi hi' => h3 i hi hi'
  rwa [this] at h1
theorem RdSl.toSameP {α : Type} {E : Elt α} {p : α → Prop} (F : Fl α) {h : Heap} {c : Ce} {l : List α} (ho : HOk h) (hs : E.sz = F.sz) (hE : ∀ cs a, E.rel h cs a → cs = F.ces a ∧ p a) (hr : RdSl E h c l) : RdF F (fun b => b < h.nx) h c l ∧ ∀ a, a ∈ l → p a := by
  obtain ⟨bs, h1, h2, h3⟩ := RdSl.to F (R := fun b a => b = a ∧ p a) ho hs (fun cs a k => ⟨a, (hE cs a k).1, rfl, (hE cs a k).2⟩) hr
  have : bs = l := List.ext_getElem h2 fun i hi hi' => (h3 i hi hi').1
  subst this
  refine ⟨h1, fun a ha => ?_⟩
  obtain ⟨i, hi, rfl⟩ := List.getElem_of_mem ha
  exact (h3 i hi hi).2
theorem heapOf_ok (W : World) (M : Nat) : HOk (heapOf W M) := by
  intro b hb
  simp only [heapOf] at hb ⊢
  rw [if_neg (by omega)]

end Go.Abs

/-
  The codes of the functions, for the abstract machine (printed by wip/tools/gen3.py; not typed by hand).
-/

namespace Go.Abs

/-! ### laws_szGiveBoxS: function 23 -/
def claws_szGiveBoxS : ACode := (.seq (.reg [] [OP 4 (.mov (KI 0))])
((.seq (.reg [] [MV 5 1,
 MV 6 0,
 LE 7 6,
 OP 8 (.bin .sub (.t 5) (.t 7)),
 MV 1 8])
((.seq ((.seq (.reg [] [MV 9 1,
 OP 10 (.bin .lss (.t 9) (KI 0))])
(.cond (.t 10) ((.seq (.reg [] [OP 4 (.mov (KI (-1)))])
(.ret))) (.skip))))
((.seq (.reg [] [MV 11 1,
 MV 4 11])
(.ret))))))))
noncomputable def elaws_szGiveBoxS : Env := envL []
noncomputable def Flaws_szGiveBoxS : Fun := runF elaws_szGiveBoxS claws_szGiveBoxS [.t 4]

/-! ### spec_l1In: function 91 -/
def cspec_l1In : ACode := (.seq (.reg [] [MF 6])
((.seq (.reg [] [MV 7 0,
 MV 8 1,
 OP 9 (.bin .geq (.t 7) (.t 8)),
 MV 10 9,
 OT 11 10 (.mov (.t 0)),
 OT 12 10 (.mov (.t 2)),
 OT 13 10 (.bin .leq (.t 11) (.t 12)),
 OP 14 (.pick (.t 10) (.t 13) KF),
 MV 6 14])
(.ret))))
noncomputable def espec_l1In : Env := envL []
noncomputable def Fspec_l1In : Fun := runF espec_l1In cspec_l1In [.t 6]

/-! ### spec_l1BoxOk: function 92 -/
def cspec_l1BoxOk : ACode := (.seq (.reg [1] [OP 1 (.boxL 6 (.t 0)),
 MF 2])
((.seq (.reg [] [FA 3 0 1,
 LD 4 3,
 OP 5 (.call 91 [.t 4, KI 0, KI 15]),
 MV 6 5,
 OT 7 6 (.faddr 1 (.t 1)),
 OT 8 6 (.load1 (.t 7)),
 OT 9 6 (.call 91 [.t 8, KI 0, KI 15]),
 OP 10 (.pick (.t 6) (.t 9) KF),
 MV 11 10,
 OT 12 11 (.faddr 2 (.t 1)),
 OT 13 11 (.load1 (.t 12)),
 OT 14 11 (.faddr 3 (.t 1)),
 OT 15 11 (.load1 (.t 14)),
 OT 16 11 (.call 91 [.t 13, KI 0, .t 15]),
 OP 17 (.pick (.t 11) (.t 16) KF),
 MV 18 17,
 OT 19 18 (.faddr 3 (.t 1)),
 OT 20 18 (.load1 (.t 19)),
 OT 21 18 (.bin .leq (.t 20) (KI 6)),
 OP 22 (.pick (.t 18) (.t 21) KF),
 MV 23 22,
 OT 24 23 (.faddr 4 (.t 1)),
 OT 25 23 (.load1 (.t 24)),
 OT 26 23 (.faddr 5 (.t 1)),
 OT 27 23 (.load1 (.t 26)),
 OT 28 23 (.call 91 [.t 25, KI 0, .t 27]),
 OP 29 (.pick (.t 23) (.t 28) KF),
 MV 30 29,
 OT 31 30 (.faddr 5 (.t 1)),
 OT 32 30 (.load1 (.t 31)),
 OT 33 30 (.bin .leq (.t 32) (KI 10000)),
 OP 34 (.pick (.t 30) (.t 33) KF),
 MV 2 34])
(.ret))))
noncomputable def espec_l1BoxOk : Env := envL [(91, Fspec_l1In)]
noncomputable def Fspec_l1BoxOk : Fun := runF espec_l1BoxOk cspec_l1BoxOk [.t 2]
theorem espec_l1BoxOk_spec_l1In : espec_l1BoxOk 91 = some Fspec_l1In := by simp [espec_l1BoxOk, envL_cons]

/-! ### spec_l1Close: function 86 -/
def cspec_l1Close : ACode := (.seq (.reg [2, 3] [OP 2 (.boxL 6 (.t 0)),
 OP 3 (.boxL 6 (.t 1)),
 MF 4])
((.seq (.reg [] [OP 5 (.loadN 6 (.t 2)),
 OP 6 (.call 92 [.t 5]),
 MV 7 6,
 OT 8 7 (.loadN 6 (.t 3)),
 OT 9 7 (.call 92 [.t 8]),
 OP 10 (.pick (.t 7) (.t 9) KF),
 MV 11 10,
 OT 12 11 (.faddr 0 (.t 2)),
 OT 13 11 (.load1 (.t 12)),
 OT 14 11 (.faddr 0 (.t 3)),
 OT 15 11 (.load1 (.t 14)),
 OT 16 11 (.bin .sub (.t 13) (.t 15)),
 OT 17 11 (.call 91 [.t 16, KI (-1), KI 1]),
 OP 18 (.pick (.t 11) (.t 17) KF),
 MV 19 18,
 OT 20 19 (.faddr 1 (.t 2)),
 OT 21 19 (.load1 (.t 20)),
 OT 22 19 (.faddr 1 (.t 3)),
 OT 23 19 (.load1 (.t 22)),
 OT 24 19 (.bin .sub (.t 21) (.t 23)),
 OT 25 19 (.call 91 [.t 24, KI (-1), KI 1]),
 OP 26 (.pick (.t 19) (.t 25) KF),
 MV 27 26,
 OT 28 27 (.faddr 2 (.t 2)),
 OT 29 27 (.load1 (.t 28)),
 OT 30 27 (.faddr 3 (.t 3)),
 OT 31 27 (.load1 (.t 30)),
 OT 32 27 (.bin .leq (.t 29) (.t 31)),
 OP 33 (.pick (.t 27) (.t 32) KF),
 MV 34 33,
 OT 35 34 (.faddr 2 (.t 3)),
 OT 36 34 (.load1 (.t 35)),
 OT 37 34 (.faddr 3 (.t 2)),
 OT 38 34 (.load1 (.t 37)),
 OT 39 34 (.bin .leq (.t 36) (.t 38)),
 OP 40 (.pick (.t 34) (.t 39) KF),
 MV 41 40,
 OT 42 41 (.faddr 4 (.t 2)),
 OT 43 41 (.load1 (.t 42)),
 OT 44 41 (.faddr 5 (.t 3)),
 OT 45 41 (.load1 (.t 44)),
 OT 46 41 (.bin .leq (.t 43) (.t 45)),
 OP 47 (.pick (.t 41) (.t 46) KF),
 MV 48 47,
 OT 49 48 (.faddr 4 (.t 3)),
 OT 50 48 (.load1 (.t 49)),
 OT 51 48 (.faddr 5 (.t 2)),
 OT 52 48 (.load1 (.t 51)),
 OT 53 48 (.bin .leq (.t 50) (.t 52)),
 OP 54 (.pick (.t 48) (.t 53) KF),
 MV 4 54])
(.ret))))
noncomputable def espec_l1Close : Env := envL [(91, Fspec_l1In), (92, Fspec_l1BoxOk)]
noncomputable def Fspec_l1Close : Fun := runF espec_l1Close cspec_l1Close [.t 4]
theorem espec_l1Close_spec_l1In : espec_l1Close 91 = some Fspec_l1In := by simp [espec_l1Close, envL_cons]
theorem espec_l1Close_spec_l1BoxOk : espec_l1Close 92 = some Fspec_l1BoxOk := by simp [espec_l1Close, envL_cons]

/-! ### spec_GiveNear: function 24 -/
def cspec_GiveNear_L1 : ACode := (.seq ((.seq (.reg [] [MV 13 6,
 MV 14 1,
 LE 15 14,
 OP 16 (.bin .lss (.t 13) (.t 15))])
(.cond (.t 16) (.skip) (.exit 2))))
((.seq (.block 3 ((.seq (.regD [] [MV 19 0,
 MV 20 5,
 IA 21 6 19 20,
 OP 22 (.loadN 6 (.t 21)),
 MV 23 1,
 MV 24 6,
 IA 25 6 23 24,
 OP 26 (.loadN 6 (.t 25)),
 OP 27 (.call 86 [.t 22, .t 26])] [])
(.cond (.t 27) ((.seq (.reg [] [OP 4 (.mov KT)])
(.ret))) (.skip)))))
(.reg [] [MV 17 6,
 OP 18 (.bin .add (.t 17) (KI 1)),
 MV 6 18]))))
def cspec_GiveNear_L0 : ACode := (.seq ((.seq (.reg [] [MV 7 5,
 MV 8 0,
 LE 9 8,
 OP 10 (.bin .lss (.t 7) (.t 9))])
(.cond (.t 10) (.skip) (.exit 0))))
((.seq (.block 1 ((.seq (.reg [] [OP 6 (.mov (KI 0))])
(.block 2 (.loop cspec_GiveNear_L1)))))
(.reg [] [MV 11 5,
 OP 12 (.bin .add (.t 11) (KI 1)),
 MV 5 12]))))
def cspec_GiveNear : ACode := (.seq (.reg [] [MF 4])
((.seq ((.seq (.reg [] [OP 5 (.mov (KI 0))])
(.block 0 (.loop cspec_GiveNear_L0))))
((.seq (.reg [] [MF 4])
(.ret))))))
noncomputable def espec_GiveNear : Env := envL [(86, Fspec_l1Close)]
noncomputable def Fspec_GiveNear : Fun := runF espec_GiveNear cspec_GiveNear [.t 4]
theorem espec_GiveNear_spec_l1Close : espec_GiveNear 86 = some Fspec_l1Close := by simp [espec_GiveNear, envL_cons]

/-! ### laws_toGiveBox: function 87 -/
def claws_toGiveBox : ACode := (.seq (.reg [1, 2] [OP 1 (.boxL 6 (.t 0)),
 OP 2 (.allocL 6 Z6)])
((.seq (.reg [3] [OP 3 (.allocL 6 Z6)])
((.seq (.reg [] [FA 4 0 1,
 LD 5 4,
 FA 6 0 3,
 OX (.store 1 (.t 6) (.t 5))])
((.seq (.reg [] [FA 7 1 1,
 LD 8 7,
 FA 9 1 3,
 OX (.store 1 (.t 9) (.t 8))])
((.seq (.reg [] [FA 10 2 1,
 LD 11 10,
 FA 12 2 3,
 OX (.store 1 (.t 12) (.t 11))])
((.seq (.reg [] [FA 13 3 1,
 LD 14 13,
 FA 15 3 3,
 OX (.store 1 (.t 15) (.t 14))])
((.seq (.reg [] [FA 16 4 1,
 LD 17 16,
 FA 18 4 3,
 OX (.store 1 (.t 18) (.t 17))])
((.seq (.reg [] [FA 19 5 1,
 LD 20 19,
 FA 21 5 3,
 OX (.store 1 (.t 21) (.t 20))])
((.seq (.reg [] [OP 22 (.loadN 6 (.t 3)),
 OX (.store 6 (.t 2) (.t 22))])
(.ret))))))))))))))))))
noncomputable def elaws_toGiveBox : Env := envL []
noncomputable def Flaws_toGiveBox : Fun := runF elaws_toGiveBox claws_toGiveBox [.cellN 2 6]

/-! ### laws_toGiveBoxS: function 25 -/
def claws_toGiveBoxS_L0 : ACode := (.seq ((.seq (.reg [] [MV 8 4,
 MV 9 0,
 LE 10 9,
 OP 11 (.bin .lss (.t 8) (.t 10))])
(.cond (.t 11) (.skip) (.exit 0))))
((.seq (.block 1 (.reg [] [MV 14 3,
 MV 15 4,
 MV 16 0,
 MV 17 4,
 IA 18 6 16 17,
 OP 19 (.loadN 6 (.t 18)),
 OP 20 (.call 87 [.t 19]),
 IA 21 6 14 15,
 OX (.store 6 (.t 21) (.t 20))]))
(.reg [] [MV 12 4,
 OP 13 (.bin .add (.t 12) (KI 1)),
 MV 4 13]))))
def claws_toGiveBoxS : ACode := (.seq (.reg [] [OP 2 (.mov KN)])
((.seq (.reg [] [MV 5 0,
 LE 6 5,
 OP 7 (.make 6 Z6 (.t 6) (.t 6)),
 MV 3 7])
((.seq ((.seq (.reg [] [OP 4 (.mov (KI 0))])
(.block 0 (.loop claws_toGiveBoxS_L0))))
((.seq (.reg [] [MV 22 3,
 MV 2 22])
(.ret))))))))
noncomputable def elaws_toGiveBoxS : Env := envL [(87, Flaws_toGiveBox)]
noncomputable def Flaws_toGiveBoxS : Fun := runF elaws_toGiveBoxS claws_toGiveBoxS [.t 2]
theorem elaws_toGiveBoxS_laws_toGiveBox : elaws_toGiveBoxS 87 = some Flaws_toGiveBox := by simp [elaws_toGiveBoxS, envL_cons]

/-! ### impl_in: function 96 -/
def cimpl_in : ACode := (.seq (.reg [] [MF 6])
((.seq (.reg [] [MV 7 0,
 MV 8 1,
 OP 9 (.bin .geq (.t 7) (.t 8)),
 MV 10 9,
 OT 11 10 (.mov (.t 0)),
 OT 12 10 (.mov (.t 2)),
 OT 13 10 (.bin .leq (.t 11) (.t 12)),
 OP 14 (.pick (.t 10) (.t 13) KF),
 MV 6 14])
(.ret))))
noncomputable def eimpl_in : Env := envL []
noncomputable def Fimpl_in : Fun := runF eimpl_in cimpl_in [.t 6]

/-! ### impl_boxOk: function 97 -/
def cimpl_boxOk : ACode := (.seq (.reg [1] [OP 1 (.boxL 6 (.t 0)),
 MF 2])
((.seq (.reg [] [FA 3 0 1,
 LD 4 3,
 OP 5 (.call 96 [.t 4, KI 0, KI 15]),
 MV 6 5,
 OT 7 6 (.faddr 1 (.t 1)),
 OT 8 6 (.load1 (.t 7)),
 OT 9 6 (.call 96 [.t 8, KI 0, KI 15]),
 OP 10 (.pick (.t 6) (.t 9) KF),
 MV 11 10,
 OT 12 11 (.faddr 2 (.t 1)),
 OT 13 11 (.load1 (.t 12)),
 OT 14 11 (.bin .geq (.t 13) (KI 0)),
 OP 15 (.pick (.t 11) (.t 14) KF),
 MV 16 15,
 OT 17 16 (.faddr 2 (.t 1)),
 OT 18 16 (.load1 (.t 17)),
 OT 19 16 (.faddr 3 (.t 1)),
 OT 20 16 (.load1 (.t 19)),
 OT 21 16 (.bin .leq (.t 18) (.t 20)),
 OP 22 (.pick (.t 16) (.t 21) KF),
 MV 23 22,
 OT 24 23 (.faddr 3 (.t 1)),
 OT 25 23 (.load1 (.t 24)),
 OT 26 23 (.bin .leq (.t 25) (KI 6)),
 OP 27 (.pick (.t 23) (.t 26) KF),
 MV 28 27,
 OT 29 28 (.faddr 4 (.t 1)),
 OT 30 28 (.load1 (.t 29)),
 OT 31 28 (.bin .geq (.t 30) (KI 0)),
 OP 32 (.pick (.t 28) (.t 31) KF),
 MV 33 32,
 OT 34 33 (.faddr 4 (.t 1)),
 OT 35 33 (.load1 (.t 34)),
 OT 36 33 (.faddr 5 (.t 1)),
 OT 37 33 (.load1 (.t 36)),
 OT 38 33 (.bin .leq (.t 35) (.t 37)),
 OP 39 (.pick (.t 33) (.t 38) KF),
 MV 40 39,
 OT 41 40 (.faddr 5 (.t 1)),
 OT 42 40 (.load1 (.t 41)),
 OT 43 40 (.bin .leq (.t 42) (KI 10000)),
 OP 44 (.pick (.t 40) (.t 43) KF),
 MV 2 44])
(.ret))))
noncomputable def eimpl_boxOk : Env := envL [(96, Fimpl_in)]
noncomputable def Fimpl_boxOk : Fun := runF eimpl_boxOk cimpl_boxOk [.t 2]
theorem eimpl_boxOk_impl_in : eimpl_boxOk 96 = some Fimpl_in := by simp [eimpl_boxOk, envL_cons]

/-! ### impl_beside: function 88 -/
def cimpl_beside : ACode := (.seq (.reg [2, 3] [OP 2 (.boxL 6 (.t 0)),
 OP 3 (.boxL 6 (.t 1)),
 MF 4])
((.seq (.reg [] [OP 5 (.loadN 6 (.t 2)),
 OP 6 (.call 97 [.t 5]),
 MV 7 6,
 OT 8 7 (.loadN 6 (.t 3)),
 OT 9 7 (.call 97 [.t 8]),
 OP 10 (.pick (.t 7) (.t 9) KF),
 MV 11 10,
 OT 12 11 (.faddr 0 (.t 2)),
 OT 13 11 (.load1 (.t 12)),
 OT 14 11 (.faddr 0 (.t 3)),
 OT 15 11 (.load1 (.t 14)),
 OT 16 11 (.bin .sub (.t 13) (.t 15)),
 OT 17 11 (.call 96 [.t 16, KI (-1), KI 1]),
 OP 18 (.pick (.t 11) (.t 17) KF),
 MV 19 18,
 OT 20 19 (.faddr 1 (.t 2)),
 OT 21 19 (.load1 (.t 20)),
 OT 22 19 (.faddr 1 (.t 3)),
 OT 23 19 (.load1 (.t 22)),
 OT 24 19 (.bin .sub (.t 21) (.t 23)),
 OT 25 19 (.call 96 [.t 24, KI (-1), KI 1]),
 OP 26 (.pick (.t 19) (.t 25) KF),
 MV 27 26,
 OT 28 27 (.faddr 2 (.t 2)),
 OT 29 27 (.load1 (.t 28)),
 OT 30 27 (.faddr 2 (.t 3)),
 OT 31 27 (.load1 (.t 30)),
 OT 32 27 (.maxs [.t 29, .t 31]),
 OT 33 27 (.faddr 3 (.t 2)),
 OT 34 27 (.load1 (.t 33)),
 OT 35 27 (.faddr 3 (.t 3)),
 OT 36 27 (.load1 (.t 35)),
 OT 37 27 (.mins [.t 34, .t 36]),
 OT 38 27 (.bin .leq (.t 32) (.t 37)),
 OP 39 (.pick (.t 27) (.t 38) KF),
 MV 4 39])
(.ret))))
noncomputable def eimpl_beside : Env := envL [(96, Fimpl_in), (97, Fimpl_boxOk)]
noncomputable def Fimpl_beside : Fun := runF eimpl_beside cimpl_beside [.t 4]
theorem eimpl_beside_impl_in : eimpl_beside 96 = some Fimpl_in := by simp [eimpl_beside, envL_cons]
theorem eimpl_beside_impl_boxOk : eimpl_beside 97 = some Fimpl_boxOk := by simp [eimpl_beside, envL_cons]

/-! ### impl_GiveNear: function 26 -/
def cimpl_GiveNear_L1 : ACode := (.seq (.reg [] [OP 18 (.bin .lss (.t 17) (.t 16))])
((.seq (.cond (.t 18) (.skip) (.exit 2))
((.seq (.block 3 ((.seq (.reg [8] [IA 19 6 15 17,
 OP 20 (.loadN 6 (.t 19)),
 OP 8 (.allocL 6 Z6),
 OX (.store 6 (.t 8) (.t 20))])
((.seq (.reg [] [OP 21 (.loadN 6 (.t 6)),
 OP 22 (.loadN 6 (.t 8)),
 OP 23 (.call 88 [.t 21, .t 22]),
 MV 24 23,
 OT 25 24 (.faddr 4 (.t 6)),
 OT 26 24 (.load1 (.t 25)),
 OT 27 24 (.faddr 4 (.t 8)),
 OT 28 24 (.load1 (.t 27)),
 OT 29 24 (.maxs [.t 26, .t 28]),
 OT 30 24 (.faddr 5 (.t 6)),
 OT 31 24 (.load1 (.t 30)),
 OT 32 24 (.faddr 5 (.t 8)),
 OT 33 24 (.load1 (.t 32)),
 OT 34 24 (.mins [.t 31, .t 33]),
 OT 35 24 (.bin .leq (.t 29) (.t 34)),
 OP 36 (.pick (.t 24) (.t 35) KF)])
(.cond (.t 36) ((.seq (.reg [] [OP 4 (.mov KT)])
(.ret))) (.skip)))))))
(.reg [] [OP 37 (.bin .add (.t 17) (KI 1)),
 MV 17 37]))))))
def cimpl_GiveNear_L0 : ACode := (.seq (.reg [] [OP 12 (.bin .lss (.t 11) (.t 10))])
((.seq (.cond (.t 12) (.skip) (.exit 0))
((.seq (.block 1 ((.seq (.reg [6] [IA 13 6 9 11,
 OP 14 (.loadN 6 (.t 13)),
 OP 6 (.allocL 6 Z6),
 OX (.store 6 (.t 6) (.t 14))])
((.seq (.reg [] [MV 15 1,
 LE 16 15,
 OP 17 (.mov (KI 0))])
(.block 2 (.loop cimpl_GiveNear_L1)))))))
(.reg [] [OP 38 (.bin .add (.t 11) (KI 1)),
 MV 11 38]))))))
def cimpl_GiveNear : ACode := (.seq (.reg [] [MF 4])
((.seq ((.seq (.reg [] [MV 9 0,
 LE 10 9,
 OP 11 (.mov (KI 0))])
(.block 0 (.loop cimpl_GiveNear_L0))))
((.seq (.reg [] [MF 4])
(.ret))))))
noncomputable def eimpl_GiveNear : Env := envL [(88, Fimpl_beside)]
noncomputable def Fimpl_GiveNear : Fun := runF eimpl_GiveNear cimpl_GiveNear [.t 4]
theorem eimpl_GiveNear_impl_beside : eimpl_GiveNear 88 = some Fimpl_beside := by simp [eimpl_GiveNear, envL_cons]

/-! ### laws_eqGiveBox: function 89 -/
def claws_eqGiveBox : ACode := (.seq (.reg [2, 3] [OP 2 (.boxL 6 (.t 0)),
 OP 3 (.boxL 6 (.t 1)),
 MF 4])
((.seq ((.seq (.reg [] [FA 5 0 2,
 LD 6 5,
 FA 7 0 3,
 LD 8 7,
 OP 9 (.bin .neq (.t 6) (.t 8))])
(.cond (.t 9) ((.seq (.reg [] [MF 4])
(.ret))) (.skip))))
((.seq ((.seq (.reg [] [FA 10 1 2,
 LD 11 10,
 FA 12 1 3,
 LD 13 12,
 OP 14 (.bin .neq (.t 11) (.t 13))])
(.cond (.t 14) ((.seq (.reg [] [MF 4])
(.ret))) (.skip))))
((.seq ((.seq (.reg [] [FA 15 2 2,
 LD 16 15,
 FA 17 2 3,
 LD 18 17,
 OP 19 (.bin .neq (.t 16) (.t 18))])
(.cond (.t 19) ((.seq (.reg [] [MF 4])
(.ret))) (.skip))))
((.seq ((.seq (.reg [] [FA 20 3 2,
 LD 21 20,
 FA 22 3 3,
 LD 23 22,
 OP 24 (.bin .neq (.t 21) (.t 23))])
(.cond (.t 24) ((.seq (.reg [] [MF 4])
(.ret))) (.skip))))
((.seq ((.seq (.reg [] [FA 25 4 2,
 LD 26 25,
 FA 27 4 3,
 LD 28 27,
 OP 29 (.bin .neq (.t 26) (.t 28))])
(.cond (.t 29) ((.seq (.reg [] [MF 4])
(.ret))) (.skip))))
((.seq ((.seq (.reg [] [FA 30 5 2,
 LD 31 30,
 FA 32 5 3,
 LD 33 32,
 OP 34 (.bin .neq (.t 31) (.t 33))])
(.cond (.t 34) ((.seq (.reg [] [MF 4])
(.ret))) (.skip))))
((.seq (.reg [] [OP 4 (.mov KT)])
(.ret))))))))))))))))
noncomputable def elaws_eqGiveBox : Env := envL []
noncomputable def Flaws_eqGiveBox : Fun := runF elaws_eqGiveBox claws_eqGiveBox [.t 4]

/-! ### laws_eqGiveBoxS: function 27 -/
def claws_eqGiveBoxS_L0 : ACode := (.seq ((.seq (.reg [] [MV 11 5,
 MV 12 0,
 LE 13 12,
 OP 14 (.bin .lss (.t 11) (.t 13))])
(.cond (.t 14) (.skip) (.exit 0))))
((.seq (.block 1 ((.seq (.regD [] [MV 17 0,
 MV 18 5,
 IA 19 6 17 18,
 OP 20 (.loadN 6 (.t 19)),
 MV 21 1,
 MV 22 5,
 IA 23 6 21 22,
 OP 24 (.loadN 6 (.t 23)),
 OP 25 (.call 89 [.t 20, .t 24]),
 OP 26 (.un .not (.t 25))] [])
(.cond (.t 26) ((.seq (.reg [] [MF 4])
(.ret))) (.skip)))))
(.reg [] [MV 15 5,
 OP 16 (.bin .add (.t 15) (KI 1)),
 MV 5 16]))))
def claws_eqGiveBoxS : ACode := (.seq (.reg [] [MF 4])
((.seq ((.seq (.reg [] [MV 6 0,
 LE 7 6,
 MV 8 1,
 LE 9 8,
 OP 10 (.bin .neq (.t 7) (.t 9))])
(.cond (.t 10) ((.seq (.reg [] [MF 4])
(.ret))) (.skip))))
((.seq ((.seq (.reg [] [OP 5 (.mov (KI 0))])
(.block 0 (.loop claws_eqGiveBoxS_L0))))
((.seq (.reg [] [OP 4 (.mov KT)])
(.ret))))))))
noncomputable def elaws_eqGiveBoxS : Env := envL [(89, Flaws_eqGiveBox)]
noncomputable def Flaws_eqGiveBoxS : Fun := runF elaws_eqGiveBoxS claws_eqGiveBoxS [.t 4]
theorem elaws_eqGiveBoxS_laws_eqGiveBox : elaws_eqGiveBoxS 89 = some Flaws_eqGiveBox := by simp [elaws_eqGiveBoxS, envL_cons]

/-! ### laws_FnExactGiveNear: function 4 -/
def claws_FnExactGiveNear : ACode := (.seq (.reg [] [MF 4])
((.seq (.reg [] [OP 5 (.mov (KI 1048576))])
((.seq (.reg [] [MV 10 0,
 MV 11 5,
 OP 12 (.call 23 [.t 10, .t 11]),
 MV 5 12])
((.seq ((.seq (.reg [] [MV 13 5,
 OP 14 (.bin .lss (.t 13) (KI 0))])
(.cond (.t 14) ((.seq (.reg [] [OP 4 (.mov KT)])
(.ret))) (.skip))))
((.seq (.reg [] [MV 15 1,
 MV 16 5,
 OP 17 (.call 23 [.t 15, .t 16]),
 MV 5 17])
((.seq ((.seq (.reg [] [MV 18 5,
 OP 19 (.bin .lss (.t 18) (KI 0))])
(.cond (.t 19) ((.seq (.reg [] [OP 4 (.mov KT)])
(.ret))) (.skip))))
((.seq (.reg [] [MV 20 0,
 OP 21 (.call 25 [.t 20]),
 MV 22 1,
 OP 23 (.call 25 [.t 22]),
 OP 24 (.call 24 [.t 21, .t 23]),
 MV 6 24])
((.seq (.reg [] [MV 25 0,
 OP 26 (.call 25 [.t 25]),
 MV 7 26])
((.seq (.reg [] [MV 27 1,
 OP 28 (.call 25 [.t 27]),
 MV 8 28])
((.seq (.reg [] [MV 29 7,
 MV 30 8,
 OP 31 (.call 26 [.t 29, .t 30]),
 MV 9 31])
((.seq ((.seq (.reg [] [MV 32 9,
 MV 33 6,
 OP 34 (.binB true (.t 32) (.t 33))])
(.cond (.t 34) ((.seq (.reg [] [MF 4])
(.ret))) (.skip))))
((.seq ((.seq (.reg [] [MV 35 7,
 MV 36 0,
 OP 37 (.call 25 [.t 36]),
 OP 38 (.call 27 [.t 35, .t 37]),
 OP 39 (.un .not (.t 38))])
(.cond (.t 39) ((.seq (.reg [] [MF 4])
(.ret))) (.skip))))
((.seq ((.seq (.reg [] [MV 40 8,
 MV 41 1,
 OP 42 (.call 25 [.t 41]),
 OP 43 (.call 27 [.t 40, .t 42]),
 OP 44 (.un .not (.t 43))])
(.cond (.t 44) ((.seq (.reg [] [MF 4])
(.ret))) (.skip))))
((.seq (.reg [] [OP 4 (.mov KT)])
(.ret))))))))))))))))))))))))))))
noncomputable def elaws_FnExactGiveNear : Env := envL [(23, Flaws_szGiveBoxS), (24, Fspec_GiveNear), (25, Flaws_toGiveBoxS), (26, Fimpl_GiveNear), (27, Flaws_eqGiveBoxS)]
noncomputable def Flaws_FnExactGiveNear : Fun := runF elaws_FnExactGiveNear claws_FnExactGiveNear [.t 4]
theorem elaws_FnExactGiveNear_laws_szGiveBoxS : elaws_FnExactGiveNear 23 = some Flaws_szGiveBoxS := by simp [elaws_FnExactGiveNear, envL_cons]
theorem elaws_FnExactGiveNear_spec_GiveNear : elaws_FnExactGiveNear 24 = some Fspec_GiveNear := by simp [elaws_FnExactGiveNear, envL_cons]
theorem elaws_FnExactGiveNear_laws_toGiveBoxS : elaws_FnExactGiveNear 25 = some Flaws_toGiveBoxS := by simp [elaws_FnExactGiveNear, envL_cons]
theorem elaws_FnExactGiveNear_impl_GiveNear : elaws_FnExactGiveNear 26 = some Fimpl_GiveNear := by simp [elaws_FnExactGiveNear, envL_cons]
theorem elaws_FnExactGiveNear_laws_eqGiveBoxS : elaws_FnExactGiveNear 27 = some Flaws_eqGiveBoxS := by simp [elaws_FnExactGiveNear, envL_cons]

/-! ### spec_GiveCut: function 28 -/
def cspec_GiveCut_L0 : ACode := (.seq ((.seq (.reg [] [MV 9 6,
 MV 10 0,
 LE 11 10,
 OP 12 (.bin .lss (.t 9) (.t 11))])
(.cond (.t 12) (.skip) (.exit 0))))
((.seq (.block 1 ((.seq (.reg [7] [MV 15 0,
 MV 16 6,
 IA 17 6 15 16,
 OP 18 (.loadN 6 (.t 17)),
 OP 7 (.allocL 6 Z6),
 OX (.store 6 (.t 7) (.t 18))])
((.seq ((.seq (.reg [] [FA 19 5 7,
 LD 20 19,
 MV 21 1,
 OP 22 (.bin .lss (.t 20) (.t 21))])
(.cond (.t 22) (.exit 1) (.skip))))
((.seq ((.seq (.reg [] [FA 23 4 7,
 LD 24 23,
 MV 25 1,
 OP 26 (.bin .lss (.t 24) (.t 25))])
(.cond (.t 26) (.reg [] [MV 27 1,
 FA 28 4 7,
 OX (.store 1 (.t 28) (.t 27))]) (.skip))))
(.reg [31] [MV 29 5,
 OP 30 (.loadN 6 (.t 7)),
 OP 31 (.mkSlL 6 1 Z6 [(0, 6, .t 30)]),
 OP 32 (.append 6 (.t 29) (.t 31)),
 MV 5 32]))))))))
(.reg [] [MV 13 6,
 OP 14 (.bin .add (.t 13) (KI 1)),
 MV 6 14]))))
def cspec_GiveCut : ACode := (.seq (.reg [] [OP 4 (.mov KN)])
((.seq (.reg [] [OP 8 (.mkSlH 6 0 Z6 []),
 MV 5 8])
((.seq ((.seq (.reg [] [OP 6 (.mov (KI 0))])
(.block 0 (.loop cspec_GiveCut_L0))))
((.seq (.reg [] [MV 33 5,
 MV 4 33])
(.ret))))))))
noncomputable def espec_GiveCut : Env := envL []
noncomputable def Fspec_GiveCut : Fun := runF espec_GiveCut cspec_GiveCut [.t 4]

/-! ### impl_GiveCut: function 29 -/
def cimpl_GiveCut_L0 : ACode := (.seq (.reg [] [OP 12 (.bin .lss (.t 11) (.t 10))])
((.seq (.cond (.t 12) (.skip) (.exit 0))
((.seq (.block 1 ((.seq (.reg [7] [IA 13 6 9 11,
 OP 14 (.loadN 6 (.t 13)),
 OP 7 (.allocL 6 Z6),
 OX (.store 6 (.t 7) (.t 14))])
((.seq (.reg [] [FA 15 5 7,
 LD 16 15,
 MV 17 1,
 OP 18 (.bin .geq (.t 16) (.t 17))])
(.cond (.t 18) ((.seq (.reg [] [FA 19 4 7,
 LD 20 19,
 MV 21 1,
 OP 22 (.maxs [.t 20, .t 21]),
 FA 23 4 7,
 OX (.store 1 (.t 23) (.t 22))])
(.reg [26] [MV 24 5,
 OP 25 (.loadN 6 (.t 7)),
 OP 26 (.mkSlL 6 1 Z6 [(0, 6, .t 25)]),
 OP 27 (.append 6 (.t 24) (.t 26)),
 MV 5 27]))) (.skip)))))))
(.reg [] [OP 28 (.bin .add (.t 11) (KI 1)),
 MV 11 28]))))))
def cimpl_GiveCut : ACode := (.seq (.reg [] [OP 4 (.mov KN)])
((.seq (.reg [] [OP 8 (.mkSlH 6 0 Z6 []),
 MV 5 8])
((.seq ((.seq (.reg [] [MV 9 0,
 LE 10 9,
 OP 11 (.mov (KI 0))])
(.block 0 (.loop cimpl_GiveCut_L0))))
((.seq (.reg [] [MV 29 5,
 MV 4 29])
(.ret))))))))
noncomputable def eimpl_GiveCut : Env := envL []
noncomputable def Fimpl_GiveCut : Fun := runF eimpl_GiveCut cimpl_GiveCut [.t 4]

/-! ### laws_markGiveBoxS: function 30 -/
def claws_markGiveBoxS_L0 : ACode := (.seq ((.seq (.reg [] [MV 6 5,
 MV 7 0,
 LE 8 7,
 OP 9 (.bin .lss (.t 6) (.t 8))])
(.cond (.t 9) (.skip) (.exit 0))))
((.seq (.block 1 ((.seq (.reg [] [MV 12 0,
 MV 13 5,
 MV 14 1,
 IA 15 6 12 13,
 FA 16 0 15,
 OX (.store 1 (.t 16) (.t 14))])
((.seq (.reg [] [MV 17 1,
 OP 18 (.bin .add (.t 17) (KI 1)),
 MV 1 18])
((.seq (.reg [] [MV 19 0,
 MV 20 5,
 MV 21 1,
 IA 22 6 19 20,
 FA 23 1 22,
 OX (.store 1 (.t 23) (.t 21))])
((.seq (.reg [] [MV 24 1,
 OP 25 (.bin .add (.t 24) (KI 1)),
 MV 1 25])
((.seq (.reg [] [MV 26 0,
 MV 27 5,
 MV 28 1,
 IA 29 6 26 27,
 FA 30 2 29,
 OX (.store 1 (.t 30) (.t 28))])
((.seq (.reg [] [MV 31 1,
 OP 32 (.bin .add (.t 31) (KI 1)),
 MV 1 32])
((.seq (.reg [] [MV 33 0,
 MV 34 5,
 MV 35 1,
 IA 36 6 33 34,
 FA 37 3 36,
 OX (.store 1 (.t 37) (.t 35))])
((.seq (.reg [] [MV 38 1,
 OP 39 (.bin .add (.t 38) (KI 1)),
 MV 1 39])
((.seq (.reg [] [MV 40 0,
 MV 41 5,
 MV 42 1,
 IA 43 6 40 41,
 FA 44 4 43,
 OX (.store 1 (.t 44) (.t 42))])
((.seq (.reg [] [MV 45 1,
 OP 46 (.bin .add (.t 45) (KI 1)),
 MV 1 46])
((.seq (.reg [] [MV 47 0,
 MV 48 5,
 MV 49 1,
 IA 50 6 47 48,
 FA 51 5 50,
 OX (.store 1 (.t 51) (.t 49))])
(.reg [] [MV 52 1,
 OP 53 (.bin .add (.t 52) (KI 1)),
 MV 1 53]))))))))))))))))))))))))
(.reg [] [MV 10 5,
 OP 11 (.bin .add (.t 10) (KI 1)),
 MV 5 11]))))
def claws_markGiveBoxS : ACode := (.seq (.reg [] [OP 4 (.mov (KI 0))])
((.seq ((.seq (.reg [] [OP 5 (.mov (KI 0))])
(.block 0 (.loop claws_markGiveBoxS_L0))))
((.seq (.reg [] [MV 54 1,
 MV 4 54])
(.ret))))))
noncomputable def elaws_markGiveBoxS : Env := envL []
noncomputable def Flaws_markGiveBoxS : Fun := runF elaws_markGiveBoxS claws_markGiveBoxS [.t 4]

/-! ### laws_heldGiveBoxS: function 31 -/
def claws_heldGiveBoxS_L0 : ACode := (.seq ((.seq (.reg [] [MV 6 5,
 MV 7 0,
 LE 8 7,
 OP 9 (.bin .lss (.t 6) (.t 8))])
(.cond (.t 9) (.skip) (.exit 0))))
((.seq (.block 1 ((.seq ((.seq (.reg [] [MV 12 0,
 MV 13 5,
 IA 14 6 12 13,
 FA 15 0 14,
 LD 16 15,
 MV 17 1,
 OP 18 (.bin .neq (.t 16) (.t 17))])
(.cond (.t 18) ((.seq (.reg [] [OP 4 (.mov (KI (-1)))])
(.ret))) (.skip))))
((.seq (.reg [] [MV 19 1,
 OP 20 (.bin .add (.t 19) (KI 1)),
 MV 1 20])
((.seq ((.seq (.reg [] [MV 21 0,
 MV 22 5,
 IA 23 6 21 22,
 FA 24 1 23,
 LD 25 24,
 MV 26 1,
 OP 27 (.bin .neq (.t 25) (.t 26))])
(.cond (.t 27) ((.seq (.reg [] [OP 4 (.mov (KI (-1)))])
(.ret))) (.skip))))
((.seq (.reg [] [MV 28 1,
 OP 29 (.bin .add (.t 28) (KI 1)),
 MV 1 29])
((.seq ((.seq (.reg [] [MV 30 0,
 MV 31 5,
 IA 32 6 30 31,
 FA 33 2 32,
 LD 34 33,
 MV 35 1,
 OP 36 (.bin .neq (.t 34) (.t 35))])
(.cond (.t 36) ((.seq (.reg [] [OP 4 (.mov (KI (-1)))])
(.ret))) (.skip))))
((.seq (.reg [] [MV 37 1,
 OP 38 (.bin .add (.t 37) (KI 1)),
 MV 1 38])
((.seq ((.seq (.reg [] [MV 39 0,
 MV 40 5,
 IA 41 6 39 40,
 FA 42 3 41,
 LD 43 42,
 MV 44 1,
 OP 45 (.bin .neq (.t 43) (.t 44))])
(.cond (.t 45) ((.seq (.reg [] [OP 4 (.mov (KI (-1)))])
(.ret))) (.skip))))
((.seq (.reg [] [MV 46 1,
 OP 47 (.bin .add (.t 46) (KI 1)),
 MV 1 47])
((.seq ((.seq (.reg [] [MV 48 0,
 MV 49 5,
 IA 50 6 48 49,
 FA 51 4 50,
 LD 52 51,
 MV 53 1,
 OP 54 (.bin .neq (.t 52) (.t 53))])
(.cond (.t 54) ((.seq (.reg [] [OP 4 (.mov (KI (-1)))])
(.ret))) (.skip))))
((.seq (.reg [] [MV 55 1,
 OP 56 (.bin .add (.t 55) (KI 1)),
 MV 1 56])
((.seq ((.seq (.reg [] [MV 57 0,
 MV 58 5,
 IA 59 6 57 58,
 FA 60 5 59,
 LD 61 60,
 MV 62 1,
 OP 63 (.bin .neq (.t 61) (.t 62))])
(.cond (.t 63) ((.seq (.reg [] [OP 4 (.mov (KI (-1)))])
(.ret))) (.skip))))
(.reg [] [MV 64 1,
 OP 65 (.bin .add (.t 64) (KI 1)),
 MV 1 65]))))))))))))))))))))))))
(.reg [] [MV 10 5,
 OP 11 (.bin .add (.t 10) (KI 1)),
 MV 5 11]))))
def claws_heldGiveBoxS : ACode := (.seq (.reg [] [OP 4 (.mov (KI 0))])
((.seq ((.seq (.reg [] [OP 5 (.mov (KI 0))])
(.block 0 (.loop claws_heldGiveBoxS_L0))))
((.seq (.reg [] [MV 66 1,
 MV 4 66])
(.ret))))))
noncomputable def elaws_heldGiveBoxS : Env := envL []
noncomputable def Flaws_heldGiveBoxS : Fun := runF elaws_heldGiveBoxS claws_heldGiveBoxS [.t 4]

/-! ### laws_FnExactGiveCut: function 5 -/
def claws_FnExactGiveCut : ACode := (.seq (.reg [] [MF 4])
((.seq (.reg [] [OP 5 (.mov (KI 1048576))])
((.seq (.reg [] [MV 13 0,
 MV 14 5,
 OP 15 (.call 23 [.t 13, .t 14]),
 MV 5 15])
((.seq ((.seq (.reg [] [MV 16 5,
 OP 17 (.bin .lss (.t 16) (KI 0))])
(.cond (.t 17) ((.seq (.reg [] [OP 4 (.mov KT)])
(.ret))) (.skip))))
((.seq (.reg [] [MV 18 0,
 OP 19 (.call 25 [.t 18]),
 MV 20 1,
 OP 21 (.call 28 [.t 19, .t 20]),
 MV 6 21])
((.seq (.reg [] [MV 22 0,
 OP 23 (.call 25 [.t 22]),
 MV 7 23])
((.seq (.reg [] [MV 24 7,
 MV 25 1,
 OP 26 (.call 29 [.t 24, .t 25]),
 MV 8 26])
((.seq ((.seq (.reg [] [MV 27 8,
 MV 28 6,
 OP 29 (.call 27 [.t 27, .t 28]),
 OP 30 (.un .not (.t 29))])
(.cond (.t 30) ((.seq (.reg [] [MF 4])
(.ret))) (.skip))))
((.seq ((.seq (.reg [] [MV 31 7,
 MV 32 0,
 OP 33 (.call 25 [.t 32]),
 OP 34 (.call 27 [.t 31, .t 33]),
 OP 35 (.un .not (.t 34))])
(.cond (.t 35) ((.seq (.reg [] [MF 4])
(.ret))) (.skip))))
((.seq (.reg [] [OP 9 (.mov (KI 1))])
((.seq (.reg [] [MV 36 7,
 MV 37 9,
 OP 38 (.call 30 [.t 36, .t 37]),
 MV 9 38])
((.seq ((.seq (.reg [] [MV 39 9,
 OP 40 (.bin .lss (.t 39) (KI 0)),
 MV 41 40,
 OF 42 41 (.mov (.t 8)),
 OF 43 41 (.mov (.t 6)),
 OF 44 41 (.call 27 [.t 42, .t 43]),
 OF 45 41 (.un .not (.t 44)),
 OP 46 (.pick (.t 41) KT (.t 45))])
(.cond (.t 46) ((.seq (.reg [] [MF 4])
(.ret))) (.skip))))
((.seq (.reg [] [OP 10 (.mov (KI 1))])
((.seq (.reg [] [MV 47 8,
 MV 48 10,
 OP 49 (.call 30 [.t 47, .t 48]),
 MV 10 49])
((.seq (.reg [] [OP 11 (.mov (KI 1))])
((.seq (.reg [] [MV 50 8,
 MV 51 11,
 OP 52 (.call 31 [.t 50, .t 51]),
 MV 11 52])
((.seq ((.seq (.reg [] [MV 53 11,
 OP 54 (.bin .lss (.t 53) (KI 0))])
(.cond (.t 54) ((.seq (.reg [] [MF 4])
(.ret))) (.skip))))
((.seq ((.seq (.reg [] [MV 55 11,
 MV 56 10,
 OP 57 (.bin .neq (.t 55) (.t 56))])
(.cond (.t 57) ((.seq (.reg [] [MF 4])
(.ret))) (.skip))))
((.seq (.reg [] [MV 58 0,
 OP 59 (.call 25 [.t 58]),
 MV 60 1,
 OP 61 (.call 29 [.t 59, .t 60]),
 MV 12 61])
((.seq ((.seq (.reg [] [MV 62 12,
 MV 63 6,
 OP 64 (.call 27 [.t 62, .t 63]),
 OP 65 (.un .not (.t 64))])
(.cond (.t 65) ((.seq (.reg [] [MF 4])
(.ret))) (.skip))))
((.seq (.reg [] [OP 11 (.mov (KI 1))])
((.seq (.reg [] [MV 66 8,
 MV 67 11,
 OP 68 (.call 31 [.t 66, .t 67]),
 MV 11 68])
((.seq ((.seq (.reg [] [MV 69 11,
 OP 70 (.bin .lss (.t 69) (KI 0))])
(.cond (.t 70) ((.seq (.reg [] [MF 4])
(.ret))) (.skip))))
((.seq ((.seq (.reg [] [MV 71 11,
 MV 72 10,
 OP 73 (.bin .neq (.t 71) (.t 72))])
(.cond (.t 73) ((.seq (.reg [] [MF 4])
(.ret))) (.skip))))
((.seq (.reg [] [OP 4 (.mov KT)])
(.ret))))))))))))))))))))))))))))))))))))))))))))))))))
noncomputable def elaws_FnExactGiveCut : Env := envL [(23, Flaws_szGiveBoxS), (25, Flaws_toGiveBoxS), (27, Flaws_eqGiveBoxS), (28, Fspec_GiveCut), (29, Fimpl_GiveCut), (30, Flaws_markGiveBoxS), (31, Flaws_heldGiveBoxS)]
noncomputable def Flaws_FnExactGiveCut : Fun := runF elaws_FnExactGiveCut claws_FnExactGiveCut [.t 4]
theorem elaws_FnExactGiveCut_laws_szGiveBoxS : elaws_FnExactGiveCut 23 = some Flaws_szGiveBoxS := by simp [elaws_FnExactGiveCut, envL_cons]
theorem elaws_FnExactGiveCut_laws_toGiveBoxS : elaws_FnExactGiveCut 25 = some Flaws_toGiveBoxS := by simp [elaws_FnExactGiveCut, envL_cons]
theorem elaws_FnExactGiveCut_laws_eqGiveBoxS : elaws_FnExactGiveCut 27 = some Flaws_eqGiveBoxS := by simp [elaws_FnExactGiveCut, envL_cons]
theorem elaws_FnExactGiveCut_spec_GiveCut : elaws_FnExactGiveCut 28 = some Fspec_GiveCut := by simp [elaws_FnExactGiveCut, envL_cons]
theorem elaws_FnExactGiveCut_impl_GiveCut : elaws_FnExactGiveCut 29 = some Fimpl_GiveCut := by simp [elaws_FnExactGiveCut, envL_cons]
theorem elaws_FnExactGiveCut_laws_markGiveBoxS : elaws_FnExactGiveCut 30 = some Flaws_markGiveBoxS := by simp [elaws_FnExactGiveCut, envL_cons]
theorem elaws_FnExactGiveCut_laws_heldGiveBoxS : elaws_FnExactGiveCut 31 = some Flaws_heldGiveBoxS := by simp [elaws_FnExactGiveCut, envL_cons]

end Go.Abs

/-
  What the codes tell is what the program's functions do (printed by wip/tools/gen3.py).
-/

namespace Go.Abs
open Go.Proofs
set_option maxRecDepth 100000

theorem mixed : Try.prog.follows .mixedOrders = true := Try.checked.mixed
theorem slaws_szGiveBoxS : Sound Try.prog 23 Flaws_szGiveBoxS := sound_of (envL_ok (fun p hp => by simp at hp)) mixed [] Try.func23 (by kernel_rfl) (by kernel_rfl) (by kernel_rfl)
theorem sspec_l1In : Sound Try.prog 91 Fspec_l1In := sound_of (envL_ok (fun p hp => by simp at hp)) mixed [] Try.func91 (by kernel_rfl) (by kernel_rfl) (by kernel_rfl)
theorem sspec_l1BoxOk : Sound Try.prog 92 Fspec_l1BoxOk := sound_of (envL_ok (by simp only [List.forall_mem_cons, List.not_mem_nil, false_implies, implies_true, and_true]; exact sspec_l1In)) mixed [1] Try.func92 (by kernel_rfl) (by kernel_rfl) (by kernel_rfl)
theorem sspec_l1Close : Sound Try.prog 86 Fspec_l1Close := sound_of (envL_ok (by simp only [List.forall_mem_cons, List.not_mem_nil, false_implies, implies_true, and_true]; exact ⟨sspec_l1In, sspec_l1BoxOk⟩)) mixed [2, 3] Try.func86 (by kernel_rfl) (by kernel_rfl) (by kernel_rfl)
theorem sspec_GiveNear : Sound Try.prog 24 Fspec_GiveNear := sound_of (envL_ok (by simp only [List.forall_mem_cons, List.not_mem_nil, false_implies, implies_true, and_true]; exact sspec_l1Close)) mixed [] Try.func24 (by kernel_rfl) (by kernel_rfl) (by kernel_rfl)
theorem slaws_toGiveBox : Sound Try.prog 87 Flaws_toGiveBox := sound_of (envL_ok (fun p hp => by simp at hp)) mixed [1, 2, 3] Try.func87 (by kernel_rfl) (by kernel_rfl) (by kernel_rfl)
theorem slaws_toGiveBoxS : Sound Try.prog 25 Flaws_toGiveBoxS := sound_of (envL_ok (by simp only [List.forall_mem_cons, List.not_mem_nil, false_implies, implies_true, and_true]; exact slaws_toGiveBox)) mixed [] Try.func25 (by kernel_rfl) (by kernel_rfl) (by kernel_rfl)
theorem simpl_in : Sound Try.prog 96 Fimpl_in := sound_of (envL_ok (fun p hp => by simp at hp)) mixed [] Try.func96 (by kernel_rfl) (by kernel_rfl) (by kernel_rfl)
theorem simpl_boxOk : Sound Try.prog 97 Fimpl_boxOk := sound_of (envL_ok (by simp only [List.forall_mem_cons, List.not_mem_nil, false_implies, implies_true, and_true]; exact simpl_in)) mixed [1] Try.func97 (by kernel_rfl) (by kernel_rfl) (by kernel_rfl)
theorem simpl_beside : Sound Try.prog 88 Fimpl_beside := sound_of (envL_ok (by simp only [List.forall_mem_cons, List.not_mem_nil, false_implies, implies_true, and_true]; exact ⟨simpl_in, simpl_boxOk⟩)) mixed [2, 3] Try.func88 (by kernel_rfl) (by kernel_rfl) (by kernel_rfl)
theorem simpl_GiveNear : Sound Try.prog 26 Fimpl_GiveNear := sound_of (envL_ok (by simp only [List.forall_mem_cons, List.not_mem_nil, false_implies, implies_true, and_true]; exact simpl_beside)) mixed [6, 8] Try.func26 (by kernel_rfl) (by kernel_rfl) (by kernel_rfl)
theorem slaws_eqGiveBox : Sound Try.prog 89 Flaws_eqGiveBox := sound_of (envL_ok (fun p hp => by simp at hp)) mixed [2, 3] Try.func89 (by kernel_rfl) (by kernel_rfl) (by kernel_rfl)
theorem slaws_eqGiveBoxS : Sound Try.prog 27 Flaws_eqGiveBoxS := sound_of (envL_ok (by simp only [List.forall_mem_cons, List.not_mem_nil, false_implies, implies_true, and_true]; exact slaws_eqGiveBox)) mixed [] Try.func27 (by kernel_rfl) (by kernel_rfl) (by kernel_rfl)
theorem slaws_FnExactGiveNear : Sound Try.prog 4 Flaws_FnExactGiveNear := sound_of (envL_ok (by simp only [List.forall_mem_cons, List.not_mem_nil, false_implies, implies_true, and_true]; exact ⟨slaws_szGiveBoxS, sspec_GiveNear, slaws_toGiveBoxS, simpl_GiveNear, slaws_eqGiveBoxS⟩)) mixed [] Try.func4 (by kernel_rfl) (by kernel_rfl) (by kernel_rfl)
theorem sspec_GiveCut : Sound Try.prog 28 Fspec_GiveCut := sound_of (envL_ok (fun p hp => by simp at hp)) mixed [7, 31] Try.func28 (by kernel_rfl) (by kernel_rfl) (by kernel_rfl)
theorem simpl_GiveCut : Sound Try.prog 29 Fimpl_GiveCut := sound_of (envL_ok (fun p hp => by simp at hp)) mixed [7, 26] Try.func29 (by kernel_rfl) (by kernel_rfl) (by kernel_rfl)
theorem slaws_markGiveBoxS : Sound Try.prog 30 Flaws_markGiveBoxS := sound_of (envL_ok (fun p hp => by simp at hp)) mixed [] Try.func30 (by kernel_rfl) (by kernel_rfl) (by kernel_rfl)
theorem slaws_heldGiveBoxS : Sound Try.prog 31 Flaws_heldGiveBoxS := sound_of (envL_ok (fun p hp => by simp at hp)) mixed [] Try.func31 (by kernel_rfl) (by kernel_rfl) (by kernel_rfl)
theorem slaws_FnExactGiveCut : Sound Try.prog 5 Flaws_FnExactGiveCut := sound_of (envL_ok (by simp only [List.forall_mem_cons, List.not_mem_nil, false_implies, implies_true, and_true]; exact ⟨slaws_szGiveBoxS, slaws_toGiveBoxS, slaws_eqGiveBoxS, sspec_GiveCut, simpl_GiveCut, slaws_markGiveBoxS, slaws_heldGiveBoxS⟩)) mixed [] Try.func5 (by kernel_rfl) (by kernel_rfl) (by kernel_rfl)

end Go.Abs

/-
  The arguments of the laws, as the abstract machine has them.
-/

namespace Go.Proofs.Ytenccnpdaldkfaa.Open
open Go.ChangeShapes Go.WideShapes Go.ChangeAt Go.RowKit Go.Abs
set_option linter.unusedVariables false
theorem own : ownKnob Try.prog.godebug = none := by kernel_rfl
theorem laidOut : laidOutB Try.prog = true := by kernel_rfl

def cInt : Cod Try.prog 3 Int := Cod.int Try.underlying3 (by kernel_rfl)
def cBool : Cod Try.prog 4 Bool := Cod.bool Try.underlying4 (by kernel_rfl)
def cStr : Cod Try.prog 9 ByteArray := Cod.str Try.underlying9 (by kernel_rfl)
def cBox : Cod Try.prog 114 Box := Cod.struct Try.underlying114 (.cons rfl cInt (.cons rfl cInt (.cons rfl cInt (.cons rfl cInt (.cons rfl cInt (.cons rfl cInt .nil)))))) (by kernel_rfl) (by decide) (fun a => ⟨a.1, a.2.1, a.2.2.1, a.2.2.2.1, a.2.2.2.2.1, a.2.2.2.2.2.1⟩) (fun b => (b.x, b.y, b.low, b.high, b.tin, b.tout, ())) (fun _ => rfl)
def cBoxS : Cod Try.prog 23 (List Box) := Cod.slice Try.underlying23 (by kernel_rfl) cBox
theorem cBox_rel {h : Heap} {l : List Ce} {b : Box} (hr : cBox.rel h l b) : l = fBox.ces b := by
  obtain ⟨x1, y1, rfl, ⟨e1, _⟩, x2, y2, rfl, ⟨e2, _⟩, x3, y3, rfl, ⟨e3, _⟩, x4, y4, rfl, ⟨e4, _⟩, x5, y5, rfl, ⟨e5, _⟩, x6, y6, rfl, ⟨e6, _⟩, e7⟩ := hr
  subst e1 e2 e3 e4 e5 e6 e7
  rfl
theorem cBoxS_rd {h : Heap} {c : Ce} {l : List Box} (ho : HOk h) (hr : RdSl cBox.toElt h c l) : RdF fBox (fun b => b < h.nx) h c l := RdSl.toSame fBox ho rfl (fun _ _ => cBox_rel) hr
def cField : Cod Try.prog 117 Fld := Cod.struct Try.underlying117 (.cons rfl cStr (.cons rfl cInt (.cons rfl cInt .nil))) (by kernel_rfl) (by decide) (fun a => ⟨a.1, a.2.1, a.2.2.1⟩) (fun b => (b.name, b.x, b.y, ())) (fun _ => rfl)
def cFieldS : Cod Try.prog 32 (List Fld) := Cod.slice Try.underlying32 (by kernel_rfl) cField
theorem cField_rel {h : Heap} {l : List Ce} {b : Fld} (hr : cField.rel h l b) : l = fField.ces b ∧ SzS b.name := by
  obtain ⟨x1, y1, rfl, ⟨e1, es⟩, x2, y2, rfl, ⟨e2, _⟩, x3, y3, rfl, ⟨e3, _⟩, e7⟩ := hr
  subst e1 e2 e3 e7
  exact ⟨rfl, es⟩
theorem cFieldS_rd {h : Heap} {c : Ce} {l : List Fld} (ho : HOk h) (hr : RdSl cField.toElt h c l) : RdF fField (fun b => b < h.nx) h c l ∧ FieldsWf l := RdSl.toSameP fField ho rfl (fun _ _ => cField_rel) hr
def cHeld : Cod Try.prog 186 Held := Cod.struct Try.underlying186 (.cons rfl cStr (.cons rfl cBoxS (.cons rfl cBoxS .nil))) (by kernel_rfl) (by decide) (fun a => ⟨a.1, a.2.1, a.2.2.1⟩) (fun b => (b.name, b.tube, b.next, ())) (fun _ => rfl)
def cHeldS : Cod Try.prog 60 (List Held) := Cod.slice Try.underlying60 (by kernel_rfl) cHeld
theorem cHeld_rel {h : Heap} (ho : HOk h) {l : List Ce} {b : Held} (hr : cHeld.rel h l b) : ∃ a : HeldC, l = fHeld.ces a ∧ RdHeld (fun b => b < h.nx) h a b ∧ b.name.size ≤ 9223372036854775807 := by
  obtain ⟨x1, y1, rfl, ⟨e1, es⟩, x2, y2, rfl, ⟨c2, e2, r2⟩, x3, y3, rfl, ⟨c3, e3, r3⟩, e7⟩ := hr
  subst e1 e2 e3 e7
  exact ⟨⟨b.name, c2, c3⟩, rfl, ⟨rfl, cBoxS_rd ho r2, cBoxS_rd ho r3⟩, es⟩
def cBook : Cod Try.prog 62 Book := Cod.struct Try.underlying62 (.cons rfl cInt (.cons rfl cFieldS (.cons rfl cHeldS .nil))) (by kernel_rfl) (by decide) (fun a => ⟨a.1, a.2.1, a.2.2.1⟩) (fun b => (b.now, b.fields, b.held, ())) (fun _ => rfl)
theorem cBook_rel {h : Heap} (ho : HOk h) {l : List Ce} {b : Book} (hr : cBook.rel h l b) : ∃ a : BookC, l = a.ces ∧ RdBook (fun b => b < h.nx) h a b ∧ BookWf b := by
  obtain ⟨x1, y1, rfl, ⟨e1, es⟩, x2, y2, rfl, ⟨c2, e2, r2⟩, x3, y3, rfl, ⟨c3, e3, r3⟩, e7⟩ := hr
  subst e1 e2 e3 e7
  obtain ⟨bs, k1, k2, k3⟩ := RdSl.to fHeld ho rfl (fun cs a k => cHeld_rel ho k) r3
  obtain ⟨r2, w2⟩ := cFieldS_rd ho r2
  refine ⟨⟨b.now, c2, c3⟩, rfl, ⟨rfl, r2, bs, k1, k2, fun i hi hi' => (k3 i hi hi').1⟩, w2, fun a ha => ?_⟩
  obtain ⟨i, hi, rfl⟩ := List.getElem_of_mem ha
  exact (k3 i (Nat.lt_of_lt_of_le hi (Nat.le_of_eq k2.symm)) hi).2
def cCell : Cod Try.prog 209 Cell := Cod.struct Try.underlying209 (.cons rfl cInt (.cons rfl cInt .nil)) (by kernel_rfl) (by decide) (fun a => ⟨a.1, a.2.1⟩) (fun b => (b.x, b.y, ())) (fun _ => rfl)
def cCellS : Cod Try.prog 177 (List Cell) := Cod.slice Try.underlying177 (by kernel_rfl) cCell
theorem cCell_rel {h : Heap} {l : List Ce} {b : Cell} (hr : cCell.rel h l b) : l = fCell.ces b := by
  obtain ⟨x1, y1, rfl, ⟨e1, _⟩, x2, y2, rfl, ⟨e2, _⟩, e7⟩ := hr
  subst e1 e2 e7
  rfl
theorem cCellS_rd {h : Heap} {c : Ce} {l : List Cell} (ho : HOk h) (hr : RdSl cCell.toElt h c l) : RdF fCell (fun b => b < h.nx) h c l := RdSl.toSame fCell ho rfl (fun _ _ => cCell_rel) hr
def cWay : Cod Try.prog 179 (List Cell) := Cod.struct Try.underlying179 (.cons rfl cCellS .nil) (by kernel_rfl) (by decide) (fun a => a.1) (fun b => (b, ())) (fun _ => rfl)
def cWayS : Cod Try.prog 45 (List (List Cell)) := Cod.slice Try.underlying45 (by kernel_rfl) cWay
theorem cWay_rel {h : Heap} (ho : HOk h) {l : List Ce} {b : List Cell} (hr : cWay.rel h l b) : ∃ a : Ce, l = fCe.ces a ∧ RdF fCell (fun b => b < h.nx) h a b := by
  obtain ⟨x1, y1, rfl, ⟨c2, e2, r2⟩, e7⟩ := hr
  subst e2 e7
  exact ⟨c2, rfl, cCellS_rd ho r2⟩
def cIntS : Cod Try.prog 46 (List Int) := Cod.slice Try.underlying46 (by kernel_rfl) cInt
theorem cIntS_rd {h : Heap} {c : Ce} {l : List Int} (ho : HOk h) (hr : RdSl cInt.toElt h c l) : RdF fInt (fun b => b < h.nx) h c l := RdSl.toSame fInt ho rfl (fun cs a k => by obtain ⟨e, _⟩ := k; exact e) hr
def cWish : Cod Try.prog 48 Wish := Cod.struct Try.underlying48 (.cons rfl cStr (.cons rfl cInt (.cons rfl cInt (.cons rfl cInt (.cons rfl cInt (.cons rfl cInt (.cons rfl cWayS (.cons rfl cIntS .nil)))))))) (by kernel_rfl) (by decide) (fun a => ⟨a.1, a.2.1, a.2.2.1, a.2.2.2.1, a.2.2.2.2.1, a.2.2.2.2.2.1, a.2.2.2.2.2.2.1, a.2.2.2.2.2.2.2.1⟩) (fun b => (b.name, b.quick, b.slow, b.from_, b.by_, b.late, b.ways, b.levels, ())) (fun _ => rfl)
theorem cWish_rel {h : Heap} (ho : HOk h) {l : List Ce} {b : Wish} (hr : cWish.rel h l b) : ∃ a : WishC, l = a.ces ∧ RdWish (fun b => b < h.nx) h a b ∧ SzS b.name := by
  obtain ⟨x1, y1, rfl, ⟨e1, es⟩, x2, y2, rfl, ⟨e2, _⟩, x3, y3, rfl, ⟨e3, _⟩, x4, y4, rfl, ⟨e4, _⟩, x5, y5, rfl, ⟨e5, _⟩, x6, y6, rfl, ⟨e6, _⟩, x8, y8, rfl, ⟨c8, e8, r8⟩, x9, y9, rfl, ⟨c9, e9, r9⟩, e7⟩ := hr
  subst e1 e2 e3 e4 e5 e6 e8 e9 e7
  obtain ⟨bs, k1, k2, k3⟩ := RdSl.to fCe ho rfl (fun cs a k => cWay_rel ho k) r8
  exact ⟨⟨b.name, b.quick, b.slow, b.from_, b.by_, b.late, c8, c9⟩, rfl, ⟨rfl, rfl, rfl, rfl, rfl, rfl, ⟨bs, k1, k2, fun i hi hi' => k3 i hi hi'⟩, cIntS_rd ho r9⟩, es⟩
def cByte : Cod Try.prog 5 UInt8 where
  sz := 1
  rel := fun _ l n => l = [.int .u8 n.toNat]
  szok := by kernel_rfl
  pos := by decide
  opn := by
    intro H enc w base spare held fuel cs x M _ h
    obtain ⟨n, rfl, _, hw⟩ := DataW.trod_int Try.underlying5 h
    have hb : 0 ≤ n ∧ n ≤ 255 := by
      have h0 : IntKind.u8.min ≤ n ∧ n ≤ IntKind.u8.max := by simpa [Lit.wf] using hw
      have h1 : IntKind.u8.min = 0 := rfl
      have h2 : IntKind.u8.max = 255 := rfl
      rwa [h1, h2] at h0
    refine ⟨[.int .u8 n], UInt8.ofNat n.toNat, rfl, rfl, ?_⟩
    have : ((UInt8.ofNat n.toNat).toNat : Int) = n := by
      rw [UInt8.toNat_ofNat']
      omega
    rw [this]
def cByteS : Cod Try.prog 39 (List UInt8) := Cod.slice Try.underlying39 (by kernel_rfl) cByte
theorem cByteS_rd {h : Heap} {c : Ce} {l : List UInt8} (ho : HOk h) (hr : RdSl cByte.toElt h c l) : RdF fByte (fun b => b < h.nx) h c l := RdSl.toSame fByte ho rfl (fun _ _ k => k) hr

section
variable {H : Type} {enc : TypeId × Value → H} {W : World} {base : Nat} {spare : Nat → Bool} {held : Bool} {v : Value} {d : DataW H} {ps : List MemPlace} {M : Nat}
theorem openInt (hM : Big W M) (hv : ∃ n, v = .int .i64 n) (h : DataW.Trod enc Try.prog W base spare held 3 v d ps) :
    ∃ n, ConA (mapOf M) (.v (.c (.int .i64 n))) v ∧ -9223372036854775808 ≤ n ∧ n ≤ 9223372036854775807 := by
  obtain ⟨n, rfl⟩ := hv
  obtain ⟨x, l, hx, c, rfl, e, hc⟩ := open_one cInt rfl hM rfl h
  simp only [List.cons.injEq, and_true] at e
  subst e
  exact ⟨l, hx, hc⟩
theorem openBool (hM : Big W M) (hv : ∃ n, v = .bool n) (h : DataW.Trod enc Try.prog W base spare held 4 v d ps) :
    ∃ n, ConA (mapOf M) (.v (.c (.bool n))) v := by
  obtain ⟨n, rfl⟩ := hv
  exact ⟨n, rfl⟩
theorem openStr (hM : Big W M) (hv : ∃ n, v = .string n) (h : DataW.Trod enc Try.prog W base spare held 9 v d ps) :
    ∃ n, ConA (mapOf M) (.v (.c (.str n))) v ∧ n.size ≤ 9223372036854775807 := by
  obtain ⟨n, rfl⟩ := hv
  obtain ⟨x, l, hx, c, rfl, e, hc⟩ := open_one cStr rfl hM rfl h
  simp only [List.cons.injEq, and_true] at e
  subst e
  exact ⟨l, hx, hc⟩
theorem openBoxes (hM : Big W M) (hv : ∃ a n k, v = .slice a n k) (h : DataW.Trod enc Try.prog W base spare held 23 v d ps) :
    ∃ c l, ConA (mapOf M) (.v (.c c)) v ∧ RdF fBox (fun b => b < (heapOf W M).nx) (heapOf W M) c l := by
  obtain ⟨a, n, k, rfl⟩ := hv
  obtain ⟨x, l, hx, c, rfl, c', e, hr⟩ := open_one cBoxS rfl hM rfl h
  simp only [List.cons.injEq, and_true] at e
  subst e
  exact ⟨c, l, hx, cBoxS_rd (heapOf_ok W M) hr⟩
theorem openFields (hM : Big W M) (hv : ∃ a n k, v = .slice a n k) (h : DataW.Trod enc Try.prog W base spare held 32 v d ps) :
    ∃ c l, ConA (mapOf M) (.v (.c c)) v ∧ RdF fField (fun b => b < (heapOf W M).nx) (heapOf W M) c l ∧ FieldsWf l := by
  obtain ⟨a, n, k, rfl⟩ := hv
  obtain ⟨x, l, hx, c, rfl, c', e, hr⟩ := open_one cFieldS rfl hM rfl h
  simp only [List.cons.injEq, and_true] at e
  subst e
  exact ⟨c, l, hx, cFieldS_rd (heapOf_ok W M) hr⟩
theorem openBytes (hM : Big W M) (hv : ∃ a n k, v = .slice a n k) (h : DataW.Trod enc Try.prog W base spare held 39 v d ps) :
    ∃ c l, ConA (mapOf M) (.v (.c c)) v ∧ RdF fByte (fun b => b < (heapOf W M).nx) (heapOf W M) c l := by
  obtain ⟨a, n, k, rfl⟩ := hv
  obtain ⟨x, l, hx, c, rfl, c', e, hr⟩ := open_one cByteS rfl hM rfl h
  simp only [List.cons.injEq, and_true] at e
  subst e
  exact ⟨c, l, hx, cByteS_rd (heapOf_ok W M) hr⟩
theorem openBook (hM : Big W M) (hv : ∃ cs, v = .agg cs ∧ cs.size = Try.prog.cellsOf 62) (h : DataW.Trod enc Try.prog W base spare held 62 v d ps) :
    ∃ (c : BookC) (b : Book), ConA (mapOf M) (.v (.agg c.ces)) v ∧ RdBook (fun b => b < (heapOf W M).nx) (heapOf W M) c b ∧ BookWf b := by
  obtain ⟨cs, hv, _⟩ := hv
  obtain ⟨x, b, hx, l, rfl, hr⟩ := open_many cBook hM ⟨cs, hv⟩ h
  obtain ⟨c, rfl, hc⟩ := cBook_rel (heapOf_ok W M) hr
  exact ⟨c, b, hx, hc⟩
theorem openWish (hM : Big W M) (hv : ∃ cs, v = .agg cs ∧ cs.size = Try.prog.cellsOf 48) (h : DataW.Trod enc Try.prog W base spare held 48 v d ps) :
    ∃ (c : WishC) (b : Wish), ConA (mapOf M) (.v (.agg c.ces)) v ∧ RdWish (fun b => b < (heapOf W M).nx) (heapOf W M) c b ∧ SzS b.name := by
  obtain ⟨cs, hv, _⟩ := hv
  obtain ⟨x, b, hx, l, rfl, hr⟩ := open_many cWish hM ⟨cs, hv⟩ h
  obtain ⟨c, rfl, hc⟩ := cWish_rel (heapOf_ok W M) hr
  exact ⟨c, b, hx, hc⟩
end
end Go.Proofs.Ytenccnpdaldkfaa.Open
