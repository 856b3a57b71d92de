/-
  Tools for walks: loops in one step; elements of slices, kind by kind.
-/
import Derived.Test.YtenccnpdaldkfaaAbs27
namespace Go.Abs

section
variable {env : Env} {Q : Ex → X → Prop} {x : X} {a : ACode}
/-- A loop of n rounds at most: each goes on, or leaves, as its own test says. -/
theorem AW_for1 (n : Nat) (stop : Nat → Bool) (I : Nat → X → Prop) (h0 : I 0 x)
    (step : ∀ i x, i < n → (∀ j, j < i → stop j = false) → I i x → AW env a (fun e y => (stop i = false ∧ e = .normal ∧ I (i + 1) y) ∨ (stop i = true ∧ e ≠ .normal ∧ Q e y)) x)
    (done : ∀ x, (∀ j, j < n → stop j = false) → I n x → AW env a (fun e y => e ≠ .normal ∧ Q e y) x) : AW env (.loop a) Q x := by
  refine AW_loop (fun i x => i ≤ n ∧ (∀ j, j < i → stop j = false) ∧ I i x) n ⟨by omega, fun j hj => by omega, h0⟩ ?_
  rintro i x hi ⟨_, hs, hI⟩
  by_cases hin : i < n
  · obtain ⟨e, y, h1, h2 | h2⟩ := step i x hin hs hI
    · obtain ⟨h3, rfl, h4⟩ := h2
      refine ⟨.normal, y, h1, .inl ⟨rfl, hin, by omega, fun j hj => ?_, h4⟩⟩
      by_cases hji : j = i
      · rw [hji]; exact h3
      · exact hs j (by omega)
    · exact ⟨e, y, h1, .inr h2.2⟩
  · obtain rfl : i = n := by omega
    obtain ⟨e, y, h1, h2⟩ := done x hs hI
    exact ⟨e, y, h1, .inr h2⟩
/-- A loop of n rounds, none of which leaves early. -/
theorem AW_each (n : Nat) (I : Nat → X → Prop) (h0 : I 0 x)
    (step : ∀ i x, i < n → I i x → AW env a (fun e y => e = .normal ∧ I (i + 1) y) x)
    (done : ∀ x, I n x → AW env a (fun e y => e ≠ .normal ∧ Q e y) x) : AW env (.loop a) Q x := by
  refine AW_for1 n (fun _ => false) I h0 ?_ (fun x _ h => done x h)
  intro i x hi _ h
  obtain ⟨e, y, h1, h2⟩ := step i x hi h
  exact ⟨e, y, h1, .inl ⟨rfl, h2⟩⟩
end

section
variable {α : Type} {l : List α} {p : α → Bool}
theorem any_of {i : Nat} (hi : i < l.length) (h : p l[i] = true) : l.any p = true := List.any_eq_true.2 ⟨l[i], List.getElem_mem hi, h⟩
theorem any_no (h : ∀ i (hi : i < l.length), p l[i] = false) : l.any p = false := by
  rw [List.any_eq_false]
  intro x hx
  obtain ⟨i, hi, rfl⟩ := List.getElem_of_mem hx
  simp [h i hi]
theorem all_of (h : ∀ i (hi : i < l.length), p l[i] = true) : l.all p = true := by
  rw [List.all_eq_true]
  intro x hx
  obtain ⟨i, hi, rfl⟩ := List.getElem_of_mem hx
  exact h i hi
theorem all_no {i : Nat} (hi : i < l.length) (h : p l[i] = false) : l.all p = false := by
  cases hb : l.all p
  · rfl
  · rw [List.all_eq_true] at hb
    rw [hb _ (List.getElem_mem hi)] at h
    cases h
end

/-- All below n. -/
def allN (n : Nat) (p : Nat → Bool) : Bool := (List.range n).all p
def anyN (n : Nat) (p : Nat → Bool) : Bool := (List.range n).any p
theorem allN_of {n : Nat} {p : Nat → Bool} (h : ∀ j, j < n → p j = true) : allN n p = true := by
  simp only [allN, List.all_eq_true, List.mem_range]; exact h
theorem allN_no {n i : Nat} {p : Nat → Bool} (hi : i < n) (h : p i = false) : allN n p = false := by
  cases hb : allN n p
  · rfl
  · simp only [allN, List.all_eq_true, List.mem_range] at hb
    rw [hb i hi] at h; cases h
theorem allN_iff {n : Nat} {p : Nat → Bool} : allN n p = true ↔ ∀ j, j < n → p j = true := by simp [allN]
theorem anyN_of {n i : Nat} {p : Nat → Bool} (hi : i < n) (h : p i = true) : anyN n p = true := by
  simp only [anyN, List.any_eq_true, List.mem_range]; exact ⟨i, hi, h⟩
theorem anyN_no {n : Nat} {p : Nat → Bool} (h : ∀ j, j < n → p j = false) : anyN n p = false := by
  cases hb : anyN n p
  · rfl
  · simp only [anyN, List.any_eq_true, List.mem_range] at hb
    obtain ⟨j, hj, hp⟩ := hb
    rw [h j hj] at hp; cases hp
theorem anyN_iff {n : Nat} {p : Nat → Bool} : anyN n p = true ↔ ∃ j, j < n ∧ p j = true := by simp [anyN]

section
variable {S : Nat → Prop} {h : Heap} {c : Ce}
theorem RdF.box {l : List Box} (hr : RdF fBox S h c l) {i : Nat} (hi : i < l.length) :
    ∃ b p r, c.eltAt 6 i = some (.inr b, p) ∧ S b ∧ h.hp b = some r ∧ p + 6 ≤ r.cs.length ∧ (r.cs.drop p).take 6 = [.int .i64 l[i].x, .int .i64 l[i].y, .int .i64 l[i].low, .int .i64 l[i].high, .int .i64 l[i].tin, .int .i64 l[i].tout] ∧
      r.cs[p]? = some (.int .i64 l[i].x) ∧ r.cs[p + 1]? = some (.int .i64 l[i].y) ∧ r.cs[p + 2]? = some (.int .i64 l[i].low) ∧ r.cs[p + 3]? = some (.int .i64 l[i].high) ∧ r.cs[p + 4]? = some (.int .i64 l[i].tin) ∧ r.cs[p + 5]? = some (.int .i64 l[i].tout) := by
  obtain ⟨b, p, r, h1, h2, h3, h4, h5, h6⟩ := hr.at hi
  exact ⟨b, p, r, h1, h2, h3, h4, h5, h6 0 (by decide), h6 1 (by decide), h6 2 (by decide), h6 3 (by decide), h6 4 (by decide), h6 5 (by decide)⟩
theorem RdF.field {l : List Fld} (hr : RdF fField S h c l) {i : Nat} (hi : i < l.length) :
    ∃ b p r, c.eltAt 3 i = some (.inr b, p) ∧ S b ∧ h.hp b = some r ∧ p + 3 ≤ r.cs.length ∧ (r.cs.drop p).take 3 = [.str l[i].name, .int .i64 l[i].x, .int .i64 l[i].y] ∧
      r.cs[p]? = some (.str l[i].name) ∧ r.cs[p + 1]? = some (.int .i64 l[i].x) ∧ r.cs[p + 2]? = some (.int .i64 l[i].y) := by
  obtain ⟨b, p, r, h1, h2, h3, h4, h5, h6⟩ := hr.at hi
  exact ⟨b, p, r, h1, h2, h3, h4, h5, h6 0 (by decide), h6 1 (by decide), h6 2 (by decide)⟩
theorem RdF.heldc {l : List HeldC} (hr : RdF fHeld S h c l) {i : Nat} (hi : i < l.length) :
    ∃ b p r, c.eltAt 3 i = some (.inr b, p) ∧ S b ∧ h.hp b = some r ∧ p + 3 ≤ r.cs.length ∧ (r.cs.drop p).take 3 = [.str l[i].name, l[i].t, l[i].x] ∧
      r.cs[p]? = some (.str l[i].name) ∧ r.cs[p + 1]? = some l[i].t ∧ r.cs[p + 2]? = some l[i].x := by
  obtain ⟨b, p, r, h1, h2, h3, h4, h5, h6⟩ := hr.at hi
  exact ⟨b, p, r, h1, h2, h3, h4, h5, h6 0 (by decide), h6 1 (by decide), h6 2 (by decide)⟩
theorem RdF.choice {l : List Choice} (hr : RdF fChoice S h c l) {i : Nat} (hi : i < l.length) :
    ∃ b p r, c.eltAt 3 i = some (.inr b, p) ∧ S b ∧ h.hp b = some r ∧ p + 3 ≤ r.cs.length ∧ (r.cs.drop p).take 3 = [.int .i64 l[i].late, .int .i64 l[i].way, .int .i64 l[i].level] ∧
      r.cs[p]? = some (.int .i64 l[i].late) ∧ r.cs[p + 1]? = some (.int .i64 l[i].way) ∧ r.cs[p + 2]? = some (.int .i64 l[i].level) := by
  obtain ⟨b, p, r, h1, h2, h3, h4, h5, h6⟩ := hr.at hi
  exact ⟨b, p, r, h1, h2, h3, h4, h5, h6 0 (by decide), h6 1 (by decide), h6 2 (by decide)⟩
theorem RdF.cell {l : List Cell} (hr : RdF fCell S h c l) {i : Nat} (hi : i < l.length) :
    ∃ b p r, c.eltAt 2 i = some (.inr b, p) ∧ S b ∧ h.hp b = some r ∧ p + 2 ≤ r.cs.length ∧ (r.cs.drop p).take 2 = [.int .i64 l[i].x, .int .i64 l[i].y] ∧
      r.cs[p]? = some (.int .i64 l[i].x) ∧ r.cs[p + 1]? = some (.int .i64 l[i].y) := by
  obtain ⟨b, p, r, h1, h2, h3, h4, h5, h6⟩ := hr.at hi
  exact ⟨b, p, r, h1, h2, h3, h4, h5, h6 0 (by decide), h6 1 (by decide)⟩
theorem RdF.span {l : List Span} (hr : RdF fSpan S h c l) {i : Nat} (hi : i < l.length) :
    ∃ b p r, c.eltAt 2 i = some (.inr b, p) ∧ S b ∧ h.hp b = some r ∧ p + 2 ≤ r.cs.length ∧ (r.cs.drop p).take 2 = [.int .i64 l[i].low, .int .i64 l[i].high] ∧
      r.cs[p]? = some (.int .i64 l[i].low) ∧ r.cs[p + 1]? = some (.int .i64 l[i].high) := by
  obtain ⟨b, p, r, h1, h2, h3, h4, h5, h6⟩ := hr.at hi
  exact ⟨b, p, r, h1, h2, h3, h4, h5, h6 0 (by decide), h6 1 (by decide)⟩
theorem RdF.int1 {l : List Int} (hr : RdF fInt S h c l) {i : Nat} (hi : i < l.length) :
    ∃ b p r, c.eltAt 1 i = some (.inr b, p) ∧ S b ∧ h.hp b = some r ∧ p + 1 ≤ r.cs.length ∧ r.cs[p]? = some (.int .i64 l[i]) := by
  obtain ⟨b, p, r, h1, h2, h3, h4, _, h6⟩ := hr.at hi
  exact ⟨b, p, r, h1, h2, h3, h4, h6 0 (by decide)⟩
theorem RdF.bool1 {l : List Bool} (hr : RdF fBool S h c l) {i : Nat} (hi : i < l.length) :
    ∃ b p r, c.eltAt 1 i = some (.inr b, p) ∧ S b ∧ h.hp b = some r ∧ p + 1 ≤ r.cs.length ∧ r.cs[p]? = some (.bool l[i]) := by
  obtain ⟨b, p, r, h1, h2, h3, h4, _, h6⟩ := hr.at hi
  exact ⟨b, p, r, h1, h2, h3, h4, h6 0 (by decide)⟩
theorem RdF.str1 {l : List ByteArray} (hr : RdF fStr S h c l) {i : Nat} (hi : i < l.length) :
    ∃ b p r, c.eltAt 1 i = some (.inr b, p) ∧ S b ∧ h.hp b = some r ∧ p + 1 ≤ r.cs.length ∧ r.cs[p]? = some (.str l[i]) := by
  obtain ⟨b, p, r, h1, h2, h3, h4, _, h6⟩ := hr.at hi
  exact ⟨b, p, r, h1, h2, h3, h4, h6 0 (by decide)⟩
theorem RdF.byte1 {l : List UInt8} (hr : RdF fByte S h c l) {i : Nat} (hi : i < l.length) :
    ∃ b p r, c.eltAt 1 i = some (.inr b, p) ∧ S b ∧ h.hp b = some r ∧ p + 1 ≤ r.cs.length ∧ r.cs[p]? = some (.int .u8 l[i].toNat) := by
  obtain ⟨b, p, r, h1, h2, h3, h4, _, h6⟩ := hr.at hi
  exact ⟨b, p, r, h1, h2, h3, h4, h6 0 (by decide)⟩
theorem RdF.ce1 {l : List Ce} (hr : RdF fCe S h c l) {i : Nat} (hi : i < l.length) :
    ∃ b p r, c.eltAt 1 i = some (.inr b, p) ∧ S b ∧ h.hp b = some r ∧ p + 1 ≤ r.cs.length ∧ r.cs[p]? = some l[i] ∧ (r.cs.drop p).take 1 = [l[i]] := by
  obtain ⟨b, p, r, h1, h2, h3, h4, h5, h6⟩ := hr.at hi
  exact ⟨b, p, r, h1, h2, h3, h4, h6 0 (by decide), h5⟩
end

def inB (n lo hi : Int) : Bool := decide (lo ≤ n) && decide (n ≤ hi)
def wrap64 (n : Int) : Int := IntKind.i64.wrap n
theorem wrap64_id {n : Int} (h1 : -9223372036854775808 ≤ n) (h2 : n ≤ 9223372036854775807) : wrap64 n = n := wrap_i64 h1 h2
def max2 (x y : Int) : Int := if x < y then y else x
def min2 (x y : Int) : Int := if y < x then y else x
theorem max2_eq (x y : Int) : max2 x y = max x y := by unfold max2; split <;> omega
theorem min2_eq (x y : Int) : min2 x y = min x y := by unfold min2; split <;> omega

theorem ints_one (x : Av) (l : List Av) : ints (x :: l) = x.int64?.bind fun n => (ints l).map (n :: ·) := by
  cases x with
  | v t =>
    cases t with
    | c c =>
      cases c with
      | int k n => cases k <;> first | rfl | simp [ints, Av.int64?]
      | _ => rfl
    | agg l => rfl
  | _ => rfl
theorem aop_maxs2 {env : Env} {d : Option Nat} {T : Nat → Av} {s : St} {x y : Opd} : aop env d T s (.maxs [x, y]) = (ev T x).int64?.bind fun a => (ev T y).int64?.bind fun b => some (.v (.c (.int .i64 (max2 a b))), s) := by
  simp only [aop, evs, ints_one, ints]
  cases (ev T x).int64? <;> cases (ev T y).int64? <;> rfl
theorem aop_mins2 {env : Env} {d : Option Nat} {T : Nat → Av} {s : St} {x y : Opd} : aop env d T s (.mins [x, y]) = (ev T x).int64?.bind fun a => (ev T y).int64?.bind fun b => some (.v (.c (.int .i64 (min2 a b))), s) := by
  simp only [aop, evs, ints_one, ints]
  cases (ev T x).int64? <;> cases (ev T y).int64? <;> rfl
theorem aop_mins3 {env : Env} {d : Option Nat} {T : Nat → Av} {s : St} {x y z : Opd} : aop env d T s (.mins [x, y, z]) = (ev T x).int64?.bind fun a => (ev T y).int64?.bind fun b => (ev T z).int64?.bind fun c => some (.v (.c (.int .i64 (min2 (min2 a b) c))), s) := by
  simp only [aop, evs, ints_one, ints]
  cases (ev T x).int64? <;> cases (ev T y).int64? <;> cases (ev T z).int64? <;> rfl
theorem pk_orc {y y' z : Bool} (h : (!y) = y') : pk y (.v (.c (.bool true))) (gd y' (.v (.c (.bool z)))) = .v (.c (.bool (y || z))) := by
  subst h; cases y <;> rfl
theorem pk_andc {y y' z : Bool} (h : y = y') : pk y (gd y' (.v (.c (.bool z)))) (.v (.c (.bool false))) = .v (.c (.bool (y && z))) := by
  subst h; cases y <;> rfl
def okB (b : Box) : Bool := inB b.x 0 15 && inB b.y 0 15 && inB b.low 0 b.high && decide (b.high ≤ 6) && inB b.tin 0 b.tout && decide (b.tout ≤ 10000)
def closeB (a b : Box) : Bool := okB a && okB b && inB (wrap64 (a.x - b.x)) (-1) 1 && inB (wrap64 (a.y - b.y)) (-1) 1 && decide (a.low ≤ b.high) && decide (b.low ≤ a.high) && decide (a.tin ≤ b.tout) && decide (b.tin ≤ a.tout)
/-- Two tubes come too near. -/
def nearL (l l' : List Box) : Bool := l.any fun a => l'.any fun b => closeB a b
def cut1 (k : Int) (b : Box) : Option Box := if b.tout < k then none else some { b with tin := if b.tin < k then k else b.tin }
/-- A tube from a tick on. -/
def cutB (k : Int) (l : List Box) : List Box := l.filterMap (cut1 k)
theorem cutB_le (k : Int) (l : List Box) : (cutB k l).length ≤ l.length := List.length_filterMap_le _ _
theorem cutB_take (k : Int) (l : List Box) {i : Nat} (hi : i < l.length) : cutB k (l.take (i + 1)) = cutB k (l.take i) ++ (cut1 k l[i]).toList := by
  have e : l.take (i + 1) = l.take i ++ [l[i]] := by rw [List.take_add_one, List.getElem?_eq_getElem hi]; rfl
  rw [e]
  unfold cutB
  rw [List.filterMap_append]
  cases hc : cut1 k l[i] <;> simp [hc]

section
variable {α : Type} {F : Fl α} {S : Nat → Prop} {h h' : Heap} {c : Ce} {l : List α}
theorem RdF.keep (hr : RdF F S h c l) (ho : HOk h) (f : Fr h h') : RdF F S h' c l := by
  obtain ⟨h0, h1 | h1 | ⟨b, o, m, r, h1, h2, h3, h4, h5⟩⟩ := hr
  · exact ⟨h0, .inl h1⟩
  · exact ⟨h0, .inr (.inl h1)⟩
  · exact ⟨h0, .inr (.inr ⟨b, o, m, r, h1, h2, (f.hp b (ho.lt h3)).trans h3, h4, h5⟩)⟩
theorem RdHeld.keep {c : HeldC} {a : Held} (hr : RdHeld S h c a) (ho : HOk h) (f : Fr h h') : RdHeld S h' c a := ⟨hr.name, hr.t.keep ho f, hr.x.keep ho f⟩
theorem RdBook.keep {c : BookC} {a : Book} (hr : RdBook S h c a) (ho : HOk h) (f : Fr h h') : RdBook S h' c a := by
  obtain ⟨hs, h1, h2, h3⟩ := hr.hd
  exact ⟨hr.now, hr.f.keep ho f, hs, h1.keep ho f, h2, fun i hi hi' => (h3 i hi hi').keep ho f⟩
theorem RdWish.keep {c : WishC} {a : Wish} (hr : RdWish S h c a) (ho : HOk h) (f : Fr h h') : RdWish S h' c a := by
  obtain ⟨hs, h1, h2, h3⟩ := hr.ws
  exact ⟨hr.name, hr.quick, hr.slow, hr.from_, hr.by_, hr.late, ⟨hs, h1.keep ho f, h2, fun i hi hi' => (h3 i hi hi').keep ho f⟩, hr.ls.keep ho f⟩
end

/-- A slice made since h, and nothing of h turned. -/
structure NewF {α : Type} (F : Fl α) (h h' : Heap) (c : Ce) (l : List α) (fp : List Nat) : Prop where
  own : OwnF F h' c l fp
  fr : Fr h h'
  ge : ∀ b, b ∈ fp → h.nx ≤ b
section
variable {α : Type} {F : Fl α} {h h' : Heap} {c : Ce} {l : List α} {fp : List Nat}
theorem NewF.nil (ho : HOk h) : NewF F h h .nils [] [] := ⟨OwnF.nil, Fr.refl ho, by simp⟩
theorem NewF.push (ho : HOk h) (l : List α) (n : Nat) (hn : n = l.length) : NewF F h (h.push ⟨F.all l, F.sz, true⟩) (.sl (.inr h.nx) 0 n .own) l [h.nx] := ⟨OwnF.new h l n hn, Fr.push ho _, by simp⟩
theorem NewF.appends (n : NewF F h h' c l fp) (l' : List α) (hn : l.length + l'.length ≤ lim) :
    ∃ c'' h'' fp'', NewF F h h'' c'' (l ++ l') fp'' ∧ h'.nx ≤ h''.nx ∧ (∀ b, b < h'.nx → b ∉ fp → h''.hp b = h'.hp b) ∧ (∀ b, b ∈ fp'' → h'.nx ≤ b) ∧ ∀ lc y, St.elems ⟨h', lc⟩ F.sz y = some (F.all l') → y.slen = some l'.length → appendA ⟨h', lc⟩ F.sz c y = some (c'', ⟨h'', lc⟩) := by
  obtain ⟨c'', h'', fp'', h1, h2, h3, h4, h5, h6⟩ := n.own.appends n.fr.ok l' hn
  refine ⟨c'', h'', fp'', ⟨h1, ⟨Nat.le_trans n.fr.nx h2, fun b hb => ?_, h3⟩, fun b hb => Nat.le_trans n.fr.nx (h5 b hb).2⟩, h2, h4, fun b hb => (h5 b hb).2, h6⟩
  rw [h4 b (Nat.lt_of_lt_of_le hb n.fr.nx) (fun hm => by have := n.ge b hm; omega)]
  exact n.fr.hp b hb
theorem NewF.append1 (n : NewF F h h' c l fp) (a : α) (hn : l.length + 1 ≤ lim) :
    ∃ c'' h'' fp'', NewF F h h'' c'' (l ++ [a]) fp'' ∧ h'.nx ≤ h''.nx ∧ (∀ b, b < h'.nx → b ∉ fp → h''.hp b = h'.hp b) ∧ (∀ b, b ∈ fp'' → h'.nx ≤ b) ∧ ∀ lc k m, lc k = some ⟨F.ces a, F.sz, true⟩ → appendA ⟨h', lc⟩ F.sz c (.sl (.inl k) 0 1 m) = some (c'', ⟨h'', lc⟩) := by
  obtain ⟨c'', h'', fp'', h1, h2, h3, h4, h5⟩ := n.appends [a] (by simpa using hn)
  refine ⟨c'', h'', fp'', h1, h2, h3, h4, fun lc k m hk => h5 lc _ ?_ rfl⟩
  simp only [St.elems, St.get, hk, F.all_one]
  have hl := F.len a
  rw [if_pos (by omega), List.drop_zero, List.take_of_length_le (by omega)]
end

/-- Nothing turns but the blocks fp. -/
structure Chg (fp : List Nat) (h h' : Heap) : Prop where
  nx : h.nx ≤ h'.nx
  hp : ∀ b, b < h.nx → b ∉ fp → h'.hp b = h.hp b
  ok : HOk h'
theorem Chg.refl {h : Heap} (ho : HOk h) {fp : List Nat} : Chg fp h h := ⟨Nat.le_refl _, fun _ _ _ => rfl, ho⟩
theorem Chg.trans {fp fp' fq : List Nat} {a b c : Heap} (x : Chg fp a b) (y : Chg fp' b c) (h1 : ∀ t, t ∈ fp → t ∈ fq) (h2 : ∀ t, t ∈ fp' → t ∈ fq) : Chg fq a c :=
  ⟨Nat.le_trans x.nx y.nx, fun t ht hn => (y.hp t (Nat.lt_of_lt_of_le ht x.nx) fun k => hn (h2 t k)).trans (x.hp t ht fun k => hn (h1 t k)), y.ok⟩
theorem Chg.mono {fp fq : List Nat} {a b : Heap} (x : Chg fp a b) (h1 : ∀ t, t ∈ fp → t ∈ fq) : Chg fq a b := ⟨x.nx, fun t ht hn => x.hp t ht fun k => hn (h1 t k), x.ok⟩
theorem Fr.chg {fp : List Nat} {a b : Heap} (x : Fr a b) : Chg fp a b := ⟨x.nx, fun t ht _ => x.hp t ht, x.ok⟩
theorem Chg.fr {a b : Heap} (x : Chg [] a b) : Fr a b := ⟨x.nx, fun t ht => x.hp t ht (by simp), x.ok⟩
theorem upd_same {α : Type} {f : Nat → α} {i : Nat} {v : α} (h : f i = v) : upd f i v = f := by
  funext j
  simp only [upd]
  split
  · rename_i e; rw [e, h]
  · rfl
theorem Chg.one {h : Heap} (ho : HOk h) {b : Nat} (hb : b < h.nx) (r : Option Row) : Chg [b] h ⟨h.nx, upd h.hp b r⟩ := by
  refine ⟨Nat.le_refl _, fun t _ hn => ?_, fun t ht => ?_⟩
  · simp only [upd]
    rw [if_neg (by simpa using hn)]
  · simp only at ht
    simp only [upd]
    rw [if_neg (by omega)]
    exact ho t ht
theorem RdF.chg {α : Type} {F : Fl α} {S : Nat → Prop} {h h' : Heap} {c : Ce} {l : List α} {fp : List Nat} (hr : RdF F S h c l) (ho : HOk h) (f : Chg fp h h') (hS : ∀ b, S b → b ∉ fp) : RdF F S h' c l := by
  obtain ⟨h0, h1 | h1 | ⟨b, o, m, r, h1, h2, h3, h4, h5⟩⟩ := hr
  · exact ⟨h0, .inl h1⟩
  · exact ⟨h0, .inr (.inl h1)⟩
  · exact ⟨h0, .inr (.inr ⟨b, o, m, r, h1, h2, (f.hp b (ho.lt h3) (hS b h2)).trans h3, h4, h5⟩)⟩
theorem OwnF.chg {α : Type} {F : Fl α} {h h' : Heap} {c : Ce} {l : List α} {fp fq : List Nat} (hr : OwnF F h c l fq) (ho : HOk h) (f : Chg fp h h') (hS : ∀ b, b ∈ fq → b ∉ fp) : OwnF F h' c l fq := by
  rcases hr with h1 | ⟨b, h1, h2, rfl⟩
  · exact .inl h1
  · exact .inr ⟨b, h1, (f.hp b (ho.lt h2) (hS b (by simp))).trans h2, rfl⟩
theorem take_drop_set {α : Type} (a l : List α) {i : Nat} (hi : i < l.length) (hi' : i < a.length) : (a.take i ++ l.drop i).set i a[i] = a.take (i + 1) ++ l.drop (i + 1) := by
  have e1 : l.drop i = l[i] :: l.drop (i + 1) := by simp
  have e2 : a.take (i + 1) = a.take i ++ [a[i]] := by rw [List.take_add_one, List.getElem?_eq_getElem hi']; rfl
  rw [List.set_append_right _ _ (by rw [List.length_take]; omega), e1, e2, List.append_assoc, List.length_take, Nat.min_eq_left (by omega), Nat.sub_self]
  rfl

theorem bytes_eq {a b : ByteArray} : a.toList = b.toList ↔ a = b := by
  rw [ByteArray.toList_eq, ByteArray.toList_eq]
  constructor
  · intro h
    cases a; cases b
    simp only [ByteArray.mk.injEq]
    exact Array.toList_inj.1 h
  · intro h; rw [h]
theorem bytes_beq {a b : ByteArray} : (a.toList == b.toList) = decide (a = b) := by
  rw [Bool.eq_iff_iff]; simp [bytes_eq]
def SzS (s : ByteArray) : Prop := s.size ≤ 9223372036854775807
def FieldsWf (l : List Fld) : Prop := ∀ f, f ∈ l → SzS f.name
def HeldWf (l : List Held) : Prop := ∀ f, f ∈ l → SzS f.name
structure BookWf (b : Book) : Prop where
  f : FieldsWf b.fields
  h : HeldWf b.held
/-- What is counted is not too much. -/
def Left (k r : Int) : Prop := r = -1 ∨ (0 ≤ r ∧ r ≤ k)
theorem sub_left {k : Int} {n : Nat} (hk : 0 ≤ k ∧ k ≤ 1048576) (hn : n ≤ 9223372036854775807) : IntKind.i64.wrap (k - n) = k - n := wrap_i64 (by omega) (by omega)

/-- The cell of a runway? -/
def isFieldB (l : List Fld) (x y : Int) : Bool := l.any fun f => f.x == x && f.y == y
def nextB (a b : Box) : Bool := inB (wrap64 (a.x - b.x)) (-1) 1 && inB (wrap64 (a.y - b.y)) (-1) 1 && decide (a.low ≤ b.high) && decide (b.low ≤ a.high) && decide (a.tin ≤ b.tin) && decide (a.tout ≤ b.tout) && decide (b.tin ≤ wrap64 (a.tout + 1))
def groundB (l : List Fld) (b : Box) : Bool := l.any fun f => f.x == b.x && f.y == b.y && b.low == 0
/-- Box i of a tube is ok, and behind the one ahead of it. -/
def stepB (t : List Box) (i : Nat) : Bool := okB (t.getD i default) && (i == 0 || nextB (t.getD (i - 1) default) (t.getD i default))
def tubeOkB (fs : List Fld) (t : List Box) : Bool := decide (1 ≤ t.length) && decide (t.length ≤ 40) && allN t.length (stepB t) && groundB fs (t.getD (t.length - 1) default)

end Go.Abs
