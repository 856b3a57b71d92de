/-
  More tools for walks: guarded operations without branches; loops; slices of plain values, read and owned.
-/
import Derived.Test.YtenccnpdaldkfaaAbs24
namespace Go.Abs

section
variable {env : Env} {Q : Ex → X → Prop} {x : X} {T : Nat → Av} {s : St} {l : List AO} {d : Option Nat} {a b : ACode} {op : AOp}

/-- A guarded operation whose guard says y: its value, or none. -/
def GY (env : Env) (y : Bool) (d : Option Nat) (l : List AO) (Q : Ex → X → Prop) (T : Nat → Av) (s : St) (r : Option (Av × St)) : Prop :=
  if y = true then SW env d l Q T r else RW env l Q (upo T d (.tup []), s)
/-- A value under a guard. -/
def gd (y : Bool) (v : Av) : Av := if y = true then v else .tup []
def pk (y : Bool) (v u : Av) : Av := if y = true then v else u

theorem GW_t {y : Bool} : GW env d op true l Q T s (.v (.c (.bool y))) = GY env y d l Q T s (aop env d T s op) := by
  cases y <;> rfl
theorem GW_f {y : Bool} : GW env d op false l Q T s (.v (.c (.bool y))) = GY env (!y) d l Q T s (aop env d T s op) := by
  cases y <;> rfl
theorem GW_gt {y z : Bool} : GW env d op true l Q T s (gd y (.v (.c (.bool z)))) = GY env (y && z) d l Q T s (aop env d T s op) := by
  cases y <;> cases z <;> rfl
theorem GW_gf {y z : Bool} : GW env d op false l Q T s (gd y (.v (.c (.bool z)))) = GY env (y && !z) d l Q T s (aop env d T s op) := by
  cases y <;> cases z <;> rfl
theorem GY_some {y : Bool} {v : Av} : GY env y d l Q T s (some (v, s)) = RW env l Q (upo T d (gd y v), s) := by
  cases y
  · rfl
  · exact SW_some
theorem GY_tt {r : Option (Av × St)} : GY env true d l Q T s r = SW env d l Q T r := rfl
theorem GY_ff {r : Option (Av × St)} : GY env false d l Q T s r = RW env l Q (upo T d (.tup []), s) := rfl
theorem GY_congr {y : Bool} {r r' : Option (Av × St)} (h : y = true → r = r') : GY env y d l Q T s r = GY env y d l Q T s r' := by
  cases y
  · rfl
  · rw [h rfl]
theorem gd_t {v : Av} : gd true v = v := rfl
theorem gd_f {v : Av} : gd false v = .tup [] := rfl
theorem pk_t {v u : Av} : pk true v u = v := rfl
theorem pk_f {v u : Av} : pk false v u = u := rfl
theorem pk_and {y z : Bool} : pk y (gd y (.v (.c (.bool z)))) (.v (.c (.bool false))) = .v (.c (.bool (y && z))) := by
  cases y <;> rfl
theorem pk_or {y z : Bool} : pk y (.v (.c (.bool true))) (gd (!y) (.v (.c (.bool z)))) = .v (.c (.bool (y || z))) := by
  cases y <;> rfl
theorem pk_bool {y z w : Bool} : pk y (.v (.c (.bool z))) (.v (.c (.bool w))) = .v (.c (.bool (if y = true then z else w))) := by
  cases y <;> rfl
theorem gd_gd {y z : Bool} {v : Av} : gd y (gd z v) = gd (y && z) v := by
  cases y <;> rfl
theorem aop_pick {c u v : Opd} : aop env d T s (.pick c u v) = (ev T c).bool?.map fun t => (pk t (ev T u) (ev T v), s) := by
  simp only [aop]
  cases (ev T c).bool? with
  | none => rfl
  | some t => cases t <;> rfl
theorem CW_ite {y : Bool} : CW env Q x a b (some y) = ((y = true → AW env a Q x) ∧ (y = false → AW env b Q x)) := by
  cases y <;> simp [CW]

/-- A loop of n rounds at most, each of which goes on or leaves. -/
theorem AW_for (n : Nat) (stop : Nat → Bool) (I : Nat → X → Prop) (h0 : I 0 x)
    (go : ∀ i x, i < n → stop i = false → (∀ j, j < i → stop j = false) → I i x → AW env a (fun e y => e = .normal ∧ I (i + 1) y) x)
    (brk : ∀ i x, i < n → stop i = true → (∀ j, j < i → stop j = false) → I i x → AW env a (fun e y => e ≠ .normal ∧ Q e y) x)
    (done : ∀ x, (∀ j, j < n → stop j = false) → I n x → AW env a (fun e y => e ≠ .normal ∧ Q e y) x) : AW env (.loop a) Q x := by
  refine AW_loop (fun i x => i ≤ n ∧ (∀ j, j < i → stop j = false) ∧ I i x) n ⟨by omega, fun j hj => by omega, h0⟩ ?_
  rintro i x hi ⟨_, hs, hI⟩
  by_cases hin : i < n
  · cases hst : stop i with
    | false =>
      obtain ⟨e, y, h1, rfl, h2⟩ := go i x hin hst hs hI
      refine ⟨.normal, y, h1, .inl ⟨rfl, hin, by omega, fun j hj => ?_, h2⟩⟩
      by_cases hji : j = i
      · rw [hji]; exact hst
      · exact hs j (by omega)
    | true =>
      obtain ⟨e, y, h1, h2⟩ := brk i x hin hst hs hI
      exact ⟨e, y, h1, .inr h2⟩
  · obtain rfl : i = n := by omega
    obtain ⟨e, y, h1, h2⟩ := done x hs hI
    exact ⟨e, y, h1, .inr h2⟩

/-- What is shown of a part of the code is shown of the whole, if the rest follows. -/
theorem AW_mono {Q' : Ex → X → Prop} (h : AW env a Q' x) (hq : ∀ e y, Q' e y → Q e y) : AW env a Q x :=
  let ⟨e, y, h1, h2⟩ := h; ⟨e, y, h1, hq e y h2⟩
end

theorem wrap1 {i : Nat} (h : i < 9223372036854775807) : IntKind.i64.wrap ((i : Int) + 1) = ((i + 1 : Nat) : Int) := by
  rw [wrap_i64 (by omega) (by omega)]; rfl

/-! ### plain values in cells -/
structure Fl (α : Type) where
  sz : Nat
  ces : α → List Ce
  len : ∀ a, (ces a).length = sz
  pos : 0 < sz

variable {α : Type} (F : Fl α)

def Fl.all (l : List α) : List Ce := l.flatMap F.ces
theorem Fl.all_nil : F.all [] = [] := rfl
theorem Fl.all_cons (a : α) (l : List α) : F.all (a :: l) = F.ces a ++ F.all l := rfl
theorem Fl.all_append (a b : List α) : F.all (a ++ b) = F.all a ++ F.all b := by simp [Fl.all]
theorem Fl.all_one (a : α) : F.all [a] = F.ces a := by simp [Fl.all]
theorem Fl.all_length (l : List α) : (F.all l).length = l.length * F.sz := by
  induction l with
  | nil => simp [Fl.all]
  | cons b l ih => rw [F.all_cons, List.length_append, ih, F.len, List.length_cons, Nat.succ_mul, Nat.add_comm]
theorem Fl.all_repl (n : Nat) (a : α) : repl n (F.ces a) = F.all (List.replicate n a) := by simp [repl, Fl.all, List.flatMap]
theorem Fl.all_at (l : List α) {i : Nat} (hi : i < l.length) : ((F.all l).drop (i * F.sz)).take F.sz = F.ces l[i] := by
  have e : l = l.take i ++ l[i] :: l.drop (i + 1) := by simp
  conv => lhs; rw [e]
  rw [F.all_append]
  have hl : (F.all (l.take i)).length = i * F.sz := by rw [F.all_length, List.length_take, Nat.min_eq_left (by omega)]
  rw [← hl, List.drop_left, F.all_cons, List.take_append_of_le_length (by rw [F.len]; exact Nat.le_refl _)]
  exact List.take_of_length_le (by rw [F.len]; exact Nat.le_refl _)
theorem Fl.all_put (l : List α) {i : Nat} (hi : i < l.length) (b : α) : (F.all l).take (i * F.sz) ++ (F.ces b ++ (F.all l).drop (i * F.sz + F.sz)) = F.all (l.set i b) := by
  have e : l = l.take i ++ l[i] :: l.drop (i + 1) := by simp
  have hl : (F.all (l.take i)).length = i * F.sz := by rw [F.all_length, List.length_take, Nat.min_eq_left (by omega)]
  have e1 : (F.all l).take (i * F.sz) = F.all (l.take i) := by
    conv => lhs; rw [e]
    rw [F.all_append, ← hl, List.take_left]
  have e2 : (F.all l).drop (i * F.sz + F.sz) = F.all (l.drop (i + 1)) := by
    conv => lhs; rw [e]
    rw [F.all_append, F.all_cons, ← List.append_assoc]
    have : (F.all (l.take i) ++ F.ces l[i]).length = i * F.sz + F.sz := by rw [List.length_append, hl, F.len]
    rw [← this, List.drop_left]
  rw [e1, e2, List.set_eq_take_append_cons_drop, if_pos hi, F.all_append, F.all_cons]
theorem Fl.all_cell (l : List α) {i k : Nat} (hi : i < l.length) (hk : k < F.sz) : (F.all l)[i * F.sz + k]? = (F.ces l[i])[k]? := by
  rw [← F.all_at l hi, List.getElem?_take, if_pos hk, List.getElem?_drop]
theorem take_set_drop {β : Type} (A M B : List β) (p k : Nat) (v : β) (hp : p = A.length) (hk : k < M.length) :
    (A ++ (M ++ B)).take (p + k) ++ v :: (A ++ (M ++ B)).drop (p + k + 1) = A ++ (M.set k v ++ B) := by
  subst hp
  rw [List.take_length_add_append, List.append_assoc, Nat.add_assoc, List.drop_length_add_append, List.take_append_of_le_length (by omega), List.drop_append_of_le_length (by omega)]
  rw [List.set_eq_take_append_cons_drop, if_pos hk]
  simp
/-- One cell of an element is written. -/
theorem Fl.all_set (l : List α) {i k : Nat} (hi : i < l.length) (hk : k < F.sz) {b : α} {v : Ce} (hb : F.ces b = (F.ces l[i]).set k v) :
    (F.all l).take (i * F.sz + k) ++ v :: (F.all l).drop (i * F.sz + k + 1) = F.all (l.set i b) := by
  have e : l = l.take i ++ l[i] :: l.drop (i + 1) := by simp
  have hl : i * F.sz = (F.all (l.take i)).length := by rw [F.all_length, List.length_take, Nat.min_eq_left (by omega)]
  have h := take_set_drop (F.all (l.take i)) (F.ces l[i]) (F.all (l.drop (i + 1))) (i * F.sz) k v hl (by rw [F.len]; exact hk)
  have e2 : F.all l = F.all (l.take i) ++ (F.ces l[i] ++ F.all (l.drop (i + 1))) := by
    conv => lhs; rw [e]
    rw [F.all_append, F.all_cons]
  rw [e2, h, ← hb, List.set_eq_take_append_cons_drop, if_pos hi, F.all_append, F.all_cons]

/-- What a slice's cell stands for: plain values, in a block of S. -/
def RdF (S : Nat → Prop) (h : Heap) (c : Ce) (l : List α) : Prop :=
  l.length ≤ 9223372036854775807 ∧ ((c = .nils ∧ l = []) ∨ (c = .sl (.inr 0) 0 0 .any ∧ l = []) ∨
    ∃ b o m r, c = .sl (.inr b) o l.length m ∧ S b ∧ h.hp b = some r ∧ o + l.length * F.sz ≤ r.cs.length ∧ (r.cs.drop o).take (l.length * F.sz) = F.all l)
/-- A slice of one's own: the whole block, from its first cell on. -/
def OwnF (h : Heap) (c : Ce) (l : List α) (fp : List Nat) : Prop :=
  (c = .nils ∧ l = [] ∧ fp = []) ∨ ∃ b, c = .sl (.inr b) 0 l.length .own ∧ h.hp b = some ⟨F.all l, F.sz, true⟩ ∧ fp = [b]

/-- What was there is there as before; nothing stands above the top. -/
structure Fr (h h' : Heap) : Prop where
  nx : h.nx ≤ h'.nx
  hp : ∀ b, b < h.nx → h'.hp b = h.hp b
  ok : HOk h'

theorem Fr.refl {h : Heap} (ho : HOk h) : Fr h h := ⟨Nat.le_refl _, fun _ _ => rfl, ho⟩
theorem Fr.trans {a b c : Heap} (h : Fr a b) (k : Fr b c) : Fr a c := ⟨Nat.le_trans h.nx k.nx, fun x hx => (k.hp x (Nat.lt_of_lt_of_le hx h.nx)).trans (h.hp x hx), k.ok⟩
theorem Fr.push {h : Heap} (ho : HOk h) (r : Row) : Fr h (h.push r) := by
  refine ⟨Nat.le_succ _, fun b hb => ?_, fun b hb => ?_⟩
  · simp only [Heap.push, upd]
    rw [if_neg (by omega)]
  · simp only [Heap.push, upd] at hb ⊢
    rw [if_neg (by omega)]
    exact ho b (by omega)
theorem push_at (h : Heap) (r : Row) : (h.push r).hp h.nx = some r := by simp [Heap.push, upd]
theorem push_nx (h : Heap) (r : Row) : (h.push r).nx = h.nx + 1 := rfl
theorem Fr.some {h h' : Heap} (f : Fr h h') (ho : HOk h) {b : Nat} {r : Row} (hr : h.hp b = some r) : h'.hp b = some r := by
  rw [f.hp b (ho.lt hr)]; exact hr

section
variable {F}
variable {S : Nat → Prop} {h h' : Heap} {c : Ce} {l : List α}
theorem RdF.slen (hr : RdF F S h c l) : c.slen = some l.length := by
  rcases hr with ⟨_, ⟨rfl, rfl⟩ | ⟨rfl, rfl⟩ | ⟨b, o, m, r, rfl, _⟩⟩ <;> rfl
theorem RdF.noLoc (hr : RdF F S h c l) : c.noLoc = true := by
  rcases hr with ⟨_, ⟨rfl, rfl⟩ | ⟨rfl, rfl⟩ | ⟨b, o, m, r, rfl, _⟩⟩ <;> rfl
theorem RdF.le (hr : RdF F S h c l) : l.length ≤ 9223372036854775807 := hr.1
theorem RdF.frame (hf : ∀ b, S b → h'.hp b = h.hp b) (hr : RdF F S h c l) : RdF F S h' c l := by
  obtain ⟨h0, h1 | h1 | ⟨b, o, m, r, h1, h2, h3, h4, h5⟩⟩ := hr
  · exact ⟨h0, .inl h1⟩
  · exact ⟨h0, .inr (.inl h1)⟩
  · exact ⟨h0, .inr (.inr ⟨b, o, m, r, h1, h2, (hf b h2).trans h3, h4, h5⟩)⟩
theorem RdF.mono {S' : Nat → Prop} (hf : ∀ b, S b → S' b) (hr : RdF F S h c l) : RdF F S' h c l := by
  obtain ⟨h0, h1 | h1 | ⟨b, o, m, r, h1, h2, h3, h4, h5⟩⟩ := hr
  · exact ⟨h0, .inl h1⟩
  · exact ⟨h0, .inr (.inl h1)⟩
  · exact ⟨h0, .inr (.inr ⟨b, o, m, r, h1, hf b h2, h3, h4, h5⟩)⟩
theorem RdF.fr (hr : RdF F S h c l) (f : Fr h h') (hs : ∀ b, S b → b < h.nx) : RdF F S h' c l := hr.frame fun b hb => f.hp b (hs b hb)
/-- An element. -/
theorem RdF.at (hr : RdF F S h c l) {i : Nat} (hi : i < l.length) :
    ∃ b p r, c.eltAt F.sz i = some (.inr b, p) ∧ S b ∧ h.hp b = some r ∧ p + F.sz ≤ r.cs.length ∧ (r.cs.drop p).take F.sz = F.ces l[i] ∧ ∀ k, k < F.sz → r.cs[p + k]? = (F.ces l[i])[k]? := by
  obtain ⟨h0, h1 | h1 | ⟨b, o, m, r, rfl, h2, h3, h4, h5⟩⟩ := hr
  · obtain ⟨_, rfl⟩ := h1; simp at hi
  · obtain ⟨_, rfl⟩ := h1; simp at hi
  · have hm : i * F.sz + F.sz ≤ l.length * F.sz := by
      have := Nat.mul_le_mul_right F.sz (show i + 1 ≤ l.length from hi)
      rwa [Nat.succ_mul] at this
    have he : (r.cs.drop (o + i * F.sz)).take F.sz = F.ces l[i] := by
      rw [← F.all_at l hi, ← h5, List.drop_take, List.take_take, List.drop_drop, Nat.min_eq_left (by omega)]
    refine ⟨b, o + i * F.sz, r, ?_, h2, h3, by omega, he, fun k hk => ?_⟩
    · simp only [Ce.eltAt]
      rw [if_pos ⟨by omega, by omega⟩]
      simp
    · rw [← he, List.getElem?_take, if_pos hk, List.getElem?_drop]
theorem RdF.elems (hr : RdF F S h c l) (hc : c ≠ .sl (.inr 0) 0 0 .any) (lc : Nat → Option Row) : St.elems ⟨h, lc⟩ F.sz c = some (F.all l) := by
  obtain ⟨h0, h1 | h1 | ⟨b, o, m, r, rfl, h2, h3, h4, h5⟩⟩ := hr
  · obtain ⟨rfl, rfl⟩ := h1; rfl
  · exact (hc h1.1).elim
  · simp only [St.elems, St.get, h3]
    rw [if_pos h4, h5]
/-- A part of a slice. -/
theorem RdF.part {b o m : Nat} {r : Row} {md : Md} (hb : S b) (hr : h.hp b = some r) (hl : o + l.length * F.sz ≤ r.cs.length) (hn : l.length ≤ 9223372036854775807) (hm : m = l.length) (he : (r.cs.drop o).take (l.length * F.sz) = F.all l) : RdF F S h (.sl (.inr b) o m md) l :=
  ⟨hn, .inr (.inr ⟨b, o, md, r, by rw [hm], hb, hr, hl, he⟩)⟩

theorem OwnF.nil : OwnF F h .nils [] [] := .inl ⟨rfl, rfl, rfl⟩
theorem OwnF.noLoc {fp : List Nat} (hr : OwnF F h c l fp) : c.noLoc = true := by
  rcases hr with ⟨rfl, rfl, _⟩ | ⟨b, rfl, _⟩ <;> rfl
theorem OwnF.slen {fp : List Nat} (hr : OwnF F h c l fp) : c.slen = some l.length := by
  rcases hr with ⟨rfl, rfl, _⟩ | ⟨b, rfl, _⟩ <;> rfl
theorem OwnF.rd {fp : List Nat} (hr : OwnF F h c l fp) (hn : l.length ≤ 9223372036854775807) (hS : ∀ b, b ∈ fp → S b) : RdF F S h c l := by
  rcases hr with ⟨rfl, rfl, _⟩ | ⟨b, rfl, h1, rfl⟩
  · exact ⟨by simp, .inl ⟨rfl, rfl⟩⟩
  · exact ⟨hn, .inr (.inr ⟨b, 0, .own, _, rfl, hS b (by simp), h1, by simp [F.all_length], by simp [← F.all_length]⟩)⟩
theorem OwnF.frame {fp : List Nat} (hf : ∀ b, b ∈ fp → h'.hp b = h.hp b) (hr : OwnF F h c l fp) : OwnF F h' c l fp := by
  rcases hr with h1 | ⟨b, h1, h2, rfl⟩
  · exact .inl h1
  · exact .inr ⟨b, h1, (hf b (by simp)).trans h2, rfl⟩
theorem OwnF.fr {fp : List Nat} (hr : OwnF F h c l fp) (f : Fr h h') (hs : ∀ b, b ∈ fp → b < h.nx) : OwnF F h' c l fp := hr.frame fun b hb => f.hp b (hs b hb)
theorem OwnF.lt {fp : List Nat} (hr : OwnF F h c l fp) (ho : HOk h) {b : Nat} (hb : b ∈ fp) : b < h.nx := by
  rcases hr with ⟨_, _, rfl⟩ | ⟨b', _, h2, rfl⟩
  · simp at hb
  · simp at hb; subst hb; exact ho.lt h2
theorem OwnF.nodup {fp : List Nat} (hr : OwnF F h c l fp) : fp.Nodup := by
  rcases hr with ⟨_, _, rfl⟩ | ⟨b', _, h2, rfl⟩ <;> simp
/-- A new slice. -/
theorem OwnF.new (h : Heap) (l : List α) (n : Nat) (hn : n = l.length) : OwnF F (h.push ⟨F.all l, F.sz, true⟩) (.sl (.inr h.nx) 0 n .own) l [h.nx] := .inr ⟨h.nx, by rw [hn], push_at _ _, rfl⟩

/-- Values put behind a slice of one's own: the new heap has the old block no more. -/
theorem OwnF.appends {fp : List Nat} (hr : OwnF F h c l fp) (ho : HOk h) (l' : List α) (hn : l.length + l'.length ≤ lim) :
    ∃ c' h' fp', OwnF F h' c' (l ++ l') fp' ∧ h.nx ≤ h'.nx ∧ HOk h' ∧ (∀ b, b < h.nx → b ∉ fp → h'.hp b = h.hp b) ∧ (∀ b, b ∈ fp' → b < h'.nx ∧ h.nx ≤ b) ∧
      ∀ lc y, St.elems ⟨h, lc⟩ F.sz y = some (F.all l') → y.slen = some l'.length → appendA ⟨h, lc⟩ F.sz c y = some (c', ⟨h', lc⟩) := by
  rcases hr with ⟨rfl, rfl, rfl⟩ | ⟨b, rfl, h2, rfl⟩
  · by_cases h0 : l'.length = 0
    · have : l' = [] := List.length_eq_zero_iff.1 h0
      subst this
      refine ⟨.nils, h, [], .inl ⟨rfl, rfl, rfl⟩, Nat.le_refl _, ho, fun _ _ _ => rfl, by simp, fun lc y h1 h2 => ?_⟩
      simp only [appendA, h1, h2]
      simp
    · have f := Fr.push ho ⟨F.all l', F.sz, true⟩
      refine ⟨.sl (.inr h.nx) 0 l'.length .own, _, [h.nx], OwnF.new h _ _ (by simp), f.nx, f.ok, fun b hb _ => f.hp b hb, by simp [push_nx], fun lc y h1 h2 => ?_⟩
      simp only [appendA, h1, h2]
      rw [if_neg h0, if_pos (by simpa using hn)]
      simp [St.push]
  · have hbl := ho.lt h2
    refine ⟨.sl (.inr h.nx) 0 (l.length + l'.length) .own, ⟨h.nx + 1, upd (upd h.hp b none) h.nx (some ⟨F.all l ++ F.all l', F.sz, true⟩)⟩, [h.nx], .inr ⟨h.nx, by simp, ?_, rfl⟩, Nat.le_succ _, ?_, ?_, by simp, fun lc y h1 h2' => ?_⟩
    · simp [upd, F.all_append]
    · intro b' hb'
      simp only at hb'
      simp only [upd]
      rw [if_neg (by omega)]
      split
      · rfl
      · exact ho b' (by omega)
    · intro b' hb' hne
      simp only [upd]
      rw [if_neg (by omega), if_neg (by simpa using hne)]
    · simp only [appendA, h1, h2', St.get, h2]
      rw [if_pos ⟨trivial, trivial, trivial, F.all_length l, hn, rfl⟩]
      simp [St.set, St.push, Heap.push]
theorem OwnF.append1 {fp : List Nat} (hr : OwnF F h c l fp) (ho : HOk h) (a : α) (hn : l.length + 1 ≤ lim) :
    ∃ c' h' fp', OwnF F h' c' (l ++ [a]) fp' ∧ h.nx ≤ h'.nx ∧ HOk h' ∧ (∀ b, b < h.nx → b ∉ fp → h'.hp b = h.hp b) ∧ (∀ b, b ∈ fp' → b < h'.nx ∧ h.nx ≤ b) ∧
      ∀ lc k m, lc k = some ⟨F.ces a, F.sz, true⟩ → appendA ⟨h, lc⟩ F.sz c (.sl (.inl k) 0 1 m) = some (c', ⟨h', lc⟩) := by
  obtain ⟨c', h', fp', h1, h2, h3, h4, h5, h6⟩ := hr.appends ho [a] (by simpa using hn)
  refine ⟨c', h', fp', h1, h2, h3, h4, h5, fun lc k m hk => h6 lc _ ?_ rfl⟩
  simp only [St.elems, St.get, hk, F.all_one]
  have hl := F.len a
  rw [if_pos (by omega), List.drop_zero, List.take_of_length_le (by omega)]
end

end Go.Abs
