/-
  The operations that only reckon: what the model's run of each gives.
-/
import Derived.Test.YtenccnpdaldkfaaAbs3
import Derived.WalkKit
import Derived.Laws.Cover1
import Derived.Laws.Concat
import Derived.Laws.StructEq
import Derived.Laws.BytesString
namespace Go.Abs

variable {P : Program} {μ : Mp} {T : Nat → Av} {ρ : Operand → Value} {w : World}

theorem ev_ce {x : Av} {c : Ce} (h : x.ce? = some c) : x = .v (.c c) := by
  cases x with
  | v t => cases t <;> simp_all [Av.ce?]
  | _ => simp [Av.ce?] at h
theorem ev_bool {x : Av} {b : Bool} (h : x.bool? = some b) : x = .v (.c (.bool b)) := by
  cases x with
  | v t => cases t with
    | c y => cases y <;> simp_all [Av.bool?]
    | _ => simp [Av.bool?] at h
  | _ => simp [Av.bool?] at h
theorem ev_int {x : Av} {n : Int} (h : x.int? = some n) : ∃ k, x = .v (.c (.int k n)) := by
  cases x with
  | v t => cases t with
    | c y => cases y <;> simp_all [Av.int?]
    | _ => simp [Av.int?] at h
  | _ => simp [Av.int?] at h
theorem ev_int64 {x : Av} {n : Int} (h : x.int64? = some n) : x = .v (.c (.int .i64 n)) := by
  cases x with
  | v t => cases t with
    | c y => cases y with
      | int k m => cases k <;> simp_all [Av.int64?]
      | _ => simp [Av.int64?] at h
    | _ => simp [Av.int64?] at h
  | _ => simp [Av.int64?] at h
theorem ev_ptr {x : Av} {p : Key × Nat} (h : x.ptr? = some p) : x = .v (.c (.ptr p.1 p.2)) := by
  cases x with
  | v t => cases t with
    | c y => cases y <;> simp_all [Av.ptr?]
             subst h; simp
    | _ => simp [Av.ptr?] at h
  | _ => simp [Av.ptr?] at h
theorem ev_str {x : Av} {n : ByteArray} (h : x.str? = some n) : x = .v (.c (.str n)) := by
  cases x with
  | v t => cases t with
    | c y => cases y <;> simp_all [Av.str?]
    | _ => simp [Av.str?] at h
  | _ => simp [Av.str?] at h
theorem ev_agg {x : Av} {l : List Ce} (h : x.agg? = some l) : x = .v (.agg l) := by
  cases x with
  | v t => cases t <;> simp_all [Av.agg?]
  | _ => simp [Av.agg?] at h
theorem ev_tv {x : Av} {t : Tv} (h : x.tv? = some t) : x = .v t := by
  cases x <;> simp_all [Av.tv?]

/-- What is known of an operand's value. -/
theorem con_bool {x : Opd} {v : Value} {b : Bool} (h : ConA μ (ev T x) v) (k : (ev T x).bool? = some b) : v = .bool b := by rw [ev_bool k] at h; exact h
theorem con_int {x : Opd} {v : Value} {b : Int} (h : ConA μ (ev T x) v) (k : (ev T x).int? = some b) : ∃ q, v = .int q b := by
  obtain ⟨q, e⟩ := ev_int k; rw [e] at h; exact ⟨q, h⟩
theorem con_str {x : Opd} {v : Value} {b : ByteArray} (h : ConA μ (ev T x) v) (k : (ev T x).str? = some b) : v = .string b := by rw [ev_str k] at h; exact h
theorem con_ptr {x : Opd} {v : Value} {p : Key × Nat} (h : ConA μ (ev T x) v) (k : (ev T x).ptr? = some p) : ConP μ p v := by rw [ev_ptr k] at h; exact h

/-- The pure result of an operation: a value, the world as it was. -/
def Gives (P : Program) (ρ : Operand → Value) (o : Oper) (w : World) (μ : Mp) (v : Av) : Prop :=
  ∃ v', (execOp ρ o).run P w = .ok (.value v') w ∧ ConA μ v v'

theorem g_mov {o : Oper} {x : Operand} (ho : o.op = .move x ∨ o.op = .assign x) (h : ConA μ (ev T (opdOf x)) (ρ x)) : Gives P ρ o w μ (ev T (opdOf x)) := by
  refine ⟨ρ x, ?_, h⟩
  rcases ho with e | e <;> simp [execOp, e]

theorem g_pick {o : Oper} {c a b : Operand} (ho : o.op = .pick c a b) {t : Bool} (hc : ConA μ (ev T (opdOf c)) (ρ c)) (ht : (ev T (opdOf c)).bool? = some t)
    (ha : ConA μ (ev T (opdOf a)) (ρ a)) (hb : ConA μ (ev T (opdOf b)) (ρ b)) : Gives P ρ o w μ (if t then ev T (opdOf a) else ev T (opdOf b)) := by
  have e := con_bool hc ht
  refine ⟨if t then ρ a else ρ b, ?_, ?_⟩
  · cases t <;> simp [execOp, ho, e, asBool]
  · cases t
    · exact hb
    · exact ha

theorem g_nilchk {o : Oper} {x : Operand} (ho : o.op = .nilCheck x) {p : Key × Nat} (h : ConA μ (ev T (opdOf x)) (ρ x)) (k : (ev T (opdOf x)).ptr? = some p) : Gives P ρ o w μ (ev T (opdOf x)) := by
  obtain ⟨pl, _, e⟩ := con_ptr h k
  exact ⟨ρ x, by simp [execOp, ho, e], h⟩

theorem binCe_run {op : BinOp} {a b r : Ce} {t : TypeId} {va vb : Value} (h : binCe op a b = some r) (ha : ConC μ a va) (hb : ConC μ b vb) (X Y : Operand) :
    ∃ v', (do eqGuard op t X Y va vb; binOp op t va vb : Sem Value).run P w = .ok v' w ∧ ConC μ r v' := by
  unfold binCe at h
  split at h
  · rename_i k n k' m
    obtain rfl : va = .int k n := ha
    obtain rfl : vb = .int k' m := hb
    split at h
    · rename_i hk
      subst hk
      cases op <;> simp only [Option.some.injEq, reduceCtorEq] at h
      case quo =>
        split at h
        · exact absurd h (by simp)
        · rename_i h0
          simp only [Option.some.injEq] at h
          subst h
          exact ⟨_, by simp [go_sem, Op.intDiv, h0], rfl⟩
      case rem =>
        split at h
        · exact absurd h (by simp)
        · rename_i h0
          simp only [Option.some.injEq] at h
          subst h
          exact ⟨_, by simp [go_sem, Op.intDiv, h0], rfl⟩
      all_goals (subst h; exact ⟨_, by simp [go_sem, Op.intArith, Op.intBits], rfl⟩)
    · exact absurd h (by simp)
  · rename_i x y
    obtain rfl : va = .string x := ha
    obtain rfl : vb = .string y := hb
    cases op <;> simp only [Option.some.injEq, reduceCtorEq] at h
    case add =>
      split at h
      · rename_i hs
        simp only [Option.some.injEq] at h
        subst h
        exact ⟨_, by simp [go_sem, binOp, run_string_add_sum w x y hs], rfl⟩
      · exact absurd h (by simp)
    all_goals (subst h; exact ⟨_, by simp [go_sem, binOp, Op.stringOp], rfl⟩)
  · exact absurd h (by simp)

theorem g_bin {o : Oper} {op : BinOp} {t t' : TypeId} {x y : Operand} (ho : o.op = .binOp op t x y t') {a b r : Ce} (hx : ConA μ (ev T (opdOf x)) (ρ x)) (hy : ConA μ (ev T (opdOf y)) (ρ y))
    (ka : (ev T (opdOf x)).ce? = some a) (kb : (ev T (opdOf y)).ce? = some b) (h : binCe op a b = some r) : Gives P ρ o w μ (.v (.c r)) := by
  rw [ev_ce ka] at hx
  rw [ev_ce kb] at hy
  obtain ⟨v', hv, hc⟩ := binCe_run (P := P) (w := w) (t := t) h hx hy x y
  refine ⟨v', ?_, hc⟩
  simp only [execOp, ho, Sem.run_bind] at hv ⊢
  rw [hv]
  rfl

theorem equalIn_bool {t : TypeId} (ht : P.underlying t = some .bool) (d : Nat) (a b : Bool) (w : World) : (Op.equalIn (d + 1) t (.bool a) (.bool b)).run P w = .ok (a == b) w := by
  simp [Op.equalIn, underlying, ht]
theorem equalIn_int {t : TypeId} {k0 : IntKind} (ht : P.underlying t = some (.int k0)) (d : Nat) (k : IntKind) (a b : Int) (w : World) : (Op.equalIn (d + 1) t (.int k a) (.int k b)).run P w = .ok (a == b) w := by
  simp [Op.equalIn, underlying, ht]
theorem equalIn_str {t : TypeId} (ht : P.underlying t = some .string) (d : Nat) (a b : ByteArray) (w : World) : (Op.equalIn (d + 1) t (.string a) (.string b)).run P w = .ok (a.toList == b.toList) w := by
  rw [← beq_toListBytes]
  simp [Op.equalIn, underlying, ht]

theorem equal_bool {t : TypeId} (ht : P.underlying t = some .bool) (a b : Bool) (w : World) : (Op.equal t (.bool a) (.bool b)).run P w = .ok (a == b) w := equalIn_bool ht 9999 a b w

theorem g_binB {o : Oper} {op : BinOp} {t t' : TypeId} {x y : Operand} (ho : o.op = .binOp op t x y t') (ht : P.underlying t = some .bool) {a b : Bool} (hx : ConA μ (ev T (opdOf x)) (ρ x)) (hy : ConA μ (ev T (opdOf y)) (ρ y))
    (ka : (ev T (opdOf x)).bool? = some a) (kb : (ev T (opdOf y)).bool? = some b) (neg : Bool) (hop : op = if neg then .neq else .eql) : Gives P ρ o w μ (.v (.c (.bool (if neg then !(a == b) else a == b)))) := by
  have ex := con_bool hx ka
  have ey := con_bool hy kb
  refine ⟨.bool (if neg then !(a == b) else a == b), ?_, rfl⟩
  subst hop
  cases neg <;> simp only [execOp, ho, ex, ey, eqGuard_at_bool, binOp, Sem.run_bind, if_true, Bool.false_eq_true, if_false] <;> simp [equal_bool ht]

theorem eqCes_nil {as bs : List Ce} {r : Bool} (h : eqCes [] as bs = some r) : r = true := by
  cases as <;> cases bs <;> simp_all [eqCes]
theorem eqCes_0 {ks : List Nat} {as bs : List Ce} {r : Bool} (h : eqCes (0 :: ks) as bs = some r) : ∃ k a x b y, as = .int k a :: x ∧ bs = .int k b :: y ∧ ((a == b) = true ∧ eqCes ks x y = some r ∨ (a == b) = false ∧ r = false) := by
  cases as with
  | nil => simp [eqCes] at h
  | cons u as =>
    cases bs with
    | nil => cases u <;> simp [eqCes] at h
    | cons v bs =>
      cases u <;> cases v <;> simp only [eqCes, reduceCtorEq] at h
      rename_i k a k' b
      split at h
      · rename_i hc
        obtain ⟨rfl, _, _⟩ := hc
        refine ⟨k, a, as, b, bs, rfl, rfl, ?_⟩
        split at h
        · rename_i hab; exact .inl ⟨hab, h⟩
        · rename_i hab; exact .inr ⟨by simpa using hab, by simpa using h.symm⟩
      · exact absurd h (by simp)
theorem eqCes_1 {ks : List Nat} {as bs : List Ce} {r : Bool} (h : eqCes (1 :: ks) as bs = some r) : ∃ a x b y, as = .bool a :: x ∧ bs = .bool b :: y ∧ ((a == b) = true ∧ eqCes ks x y = some r ∨ (a == b) = false ∧ r = false) := by
  cases as with
  | nil => simp [eqCes] at h
  | cons u as =>
    cases bs with
    | nil => cases u <;> simp [eqCes] at h
    | cons v bs =>
      cases u <;> cases v <;> simp only [eqCes, reduceCtorEq] at h
      rename_i a b
      split at h
      · refine ⟨a, as, b, bs, rfl, rfl, ?_⟩
        split at h
        · rename_i hab; exact .inl ⟨hab, h⟩
        · rename_i hab; exact .inr ⟨by simpa using hab, by simpa using h.symm⟩
      · exact absurd h (by simp)
theorem eqCes_2 {ks : List Nat} {as bs : List Ce} {r : Bool} (h : eqCes (2 :: ks) as bs = some r) : ∃ a x b y, as = .str a :: x ∧ bs = .str b :: y ∧ ((a.toList == b.toList) = true ∧ eqCes ks x y = some r ∨ (a.toList == b.toList) = false ∧ r = false) := by
  cases as with
  | nil => simp [eqCes] at h
  | cons u as =>
    cases bs with
    | nil => cases u <;> simp [eqCes] at h
    | cons v bs =>
      cases u <;> cases v <;> simp only [eqCes, reduceCtorEq] at h
      rename_i a b
      split at h
      · refine ⟨a, as, b, bs, rfl, rfl, ?_⟩
        split at h
        · rename_i hab; exact .inl ⟨hab, h⟩
        · rename_i hab; exact .inr ⟨by simpa using hab, by simpa using h.symm⟩
      · exact absurd h (by simp)

theorem part_at {f : Field} {i : Nat} (hoff : f.offset = i) {u : TypeDesc} (hu : P.underlying f.type = some u) (h1 : ∀ q, u ≠ .struct q) (h2 : ∀ q q', u ≠ .array q q') (zs : Array Value) (c : Ce) (cs : List Ce) (w : World)
    (hc : ConL μ (c :: cs) (zs.toList.drop i)) : ∃ v, (part f.type zs f.offset).run P w = .ok v w ∧ ConC μ c v ∧ ConL μ cs (zs.toList.drop (i + 1)) := by
  cases hd : zs.toList.drop i with
  | nil => rw [hd] at hc; exact hc.elim
  | cons v vs =>
    rw [hd] at hc
    have hv : zs.toList[i]? = some v := by
      have := congrArg (·[0]?) hd
      simpa using this
    have hvs : zs.toList.drop (i + 1) = vs := by
      have := congrArg (·.drop 1) hd
      simpa [Nat.add_comm] using this
    refine ⟨v, ?_, hc.1, hvs ▸ hc.2⟩
    have hz : zs[i]? = some v := by simpa using hv
    have hagg : (isAgg f.type).run P w = .ok false w := by
      cases u <;> simp_all [isAgg, underlying]
    simp [part, hagg, hoff, hz]

theorem eqCes_run (d : Nat) (xs ys : Array Value) (w : World) : ∀ (fs : List Field) (ks : List Nat) (i : Nat) (as bs : List Ce) (r : Bool), flatKs P i fs = some ks →
    ConL μ as (xs.toList.drop i) → ConL μ bs (ys.toList.drop i) → eqCes ks as bs = some r → (Op.eqFields (d + 1) xs ys fs).run P w = .ok r w := by
  intro fs
  induction fs with
  | nil =>
    intro ks i as bs r hk ha hb h
    simp only [flatKs, Option.some.injEq] at hk
    subst hk
    obtain rfl := eqCes_nil h
    simp [Op.eqFields]
  | cons f fs ih =>
    intro ks i as bs r hk ha hb h
    simp only [flatKs] at hk
    split at hk
    · rename_i hf
      obtain ⟨hoff, hn⟩ := hf
      have hn' : f.name ≠ "_" := by simpa using hn
      have step : ∀ (va vb : Value) (q : Bool), (part f.type xs f.offset).run P w = .ok va w → (part f.type ys f.offset).run P w = .ok vb w → (Op.equalIn (d + 1) f.type va vb).run P w = .ok q w →
          (q = true → (Op.eqFields (d + 1) xs ys fs).run P w = .ok r w) → (q = false → r = false) → (Op.eqFields (d + 1) xs ys (f :: fs)).run P w = .ok r w := by
        intro va vb q h1 h2 h3 h4 h5
        rw [Op.eqFields, if_pos hn']
        simp only [Sem.run_bind, h1, h2, h3, Result.andThen_ok]
        cases q with
        | true => simpa using h4 rfl
        | false => rw [h5 rfl]; simp
      split at hk
      · rename_i kk hu
        cases hks : flatKs P (i + 1) fs with
        | none => rw [hks] at hk; simp at hk
        | some ks' =>
          rw [hks] at hk
          obtain rfl := Option.some.inj hk
          obtain ⟨k, a, x, b, y, rfl, rfl, hcase⟩ := eqCes_0 h
          obtain ⟨va, p1, c1, r1⟩ := part_at hoff hu (by simp) (by simp) xs _ _ w ha
          obtain ⟨vb, p2, c2, r2⟩ := part_at hoff hu (by simp) (by simp) ys _ _ w hb
          obtain rfl : va = .int _ a := c1
          obtain rfl : vb = .int _ b := c2
          refine step _ _ (a == b) p1 p2 (equalIn_int hu d k a b w) ?_ ?_
          · intro hq
            rcases hcase with ⟨_, h'⟩ | ⟨hq', _⟩
            · exact ih _ _ _ _ _ hks r1 r2 h'
            · rw [hq'] at hq; cases hq
          · intro hq
            rcases hcase with ⟨hq', _⟩ | ⟨_, h'⟩
            · rw [hq'] at hq; cases hq
            · exact h'
      · rename_i hu
        cases hks : flatKs P (i + 1) fs with
        | none => rw [hks] at hk; simp at hk
        | some ks' =>
          rw [hks] at hk
          obtain rfl := Option.some.inj hk
          obtain ⟨a, x, b, y, rfl, rfl, hcase⟩ := eqCes_1 h
          obtain ⟨va, p1, c1, r1⟩ := part_at hoff hu (by simp) (by simp) xs _ _ w ha
          obtain ⟨vb, p2, c2, r2⟩ := part_at hoff hu (by simp) (by simp) ys _ _ w hb
          obtain rfl : va = .bool a := c1
          obtain rfl : vb = .bool b := c2
          refine step _ _ (a == b) p1 p2 (equalIn_bool hu d a b w) ?_ ?_
          · intro hq
            rcases hcase with ⟨_, h'⟩ | ⟨hq', _⟩
            · exact ih _ _ _ _ _ hks r1 r2 h'
            · rw [hq'] at hq; cases hq
          · intro hq
            rcases hcase with ⟨hq', _⟩ | ⟨_, h'⟩
            · rw [hq'] at hq; cases hq
            · exact h'
      · rename_i hu
        cases hks : flatKs P (i + 1) fs with
        | none => rw [hks] at hk; simp at hk
        | some ks' =>
          rw [hks] at hk
          obtain rfl := Option.some.inj hk
          obtain ⟨a, x, b, y, rfl, rfl, hcase⟩ := eqCes_2 h
          obtain ⟨va, p1, c1, r1⟩ := part_at hoff hu (by simp) (by simp) xs _ _ w ha
          obtain ⟨vb, p2, c2, r2⟩ := part_at hoff hu (by simp) (by simp) ys _ _ w hb
          obtain rfl : va = .string a := c1
          obtain rfl : vb = .string b := c2
          refine step _ _ (a.toList == b.toList) p1 p2 (equalIn_str hu d a b w) ?_ ?_
          · intro hq
            rcases hcase with ⟨_, h'⟩ | ⟨hq', _⟩
            · exact ih _ _ _ _ _ hks r1 r2 h'
            · rw [hq'] at hq; cases hq
          · intro hq
            rcases hcase with ⟨hq', _⟩ | ⟨_, h'⟩
            · rw [hq'] at hq; cases hq
            · exact h'
      · exact absurd hk (by simp)
    · exact absurd hk (by simp)

theorem g_binS {o : Oper} {op : BinOp} {t t' : TypeId} {x y : Operand} (ho : o.op = .binOp op t x y t') {fs : Array Field} (ht : P.underlying t = some (.struct fs)) {ks : List Nat} (hk : flatKs P 0 fs.toList = some ks)
    (hs : P.stoodInHeld t = false) (hg : P.eqGuardType P.depth t = false) {a b : List Ce} {r : Bool} (hx : ConA μ (ev T (opdOf x)) (ρ x)) (hy : ConA μ (ev T (opdOf y)) (ρ y))
    (ka : (ev T (opdOf x)).agg? = some a) (kb : (ev T (opdOf y)).agg? = some b) (h : eqCes ks a b = some r) (neg : Bool) (hop : op = if neg then .neq else .eql) :
    Gives P ρ o w μ (.v (.c (.bool (if neg then !r else r)))) := by
  rw [ev_agg ka] at hx
  rw [ev_agg kb] at hy
  obtain ⟨vs, ex, hvs, _⟩ := hx
  obtain ⟨us, ey, hus, _⟩ := hy
  have he : (Op.equal t (.agg vs.toArray) (.agg us.toArray)).run P w = .ok r w := by
    have hf : P.fieldsOf t = fs := by simp [Program.fieldsOf, ht]
    show (Op.equalIn (9999 + 1) t _ _).run P w = _
    rw [run_equalIn_struct (P := P) w 9999 t vs.toArray us.toArray (by rw [hf]; exact ht) hs, hf]
    exact eqCes_run (P := P) (μ := μ) 9998 _ _ w _ _ 0 _ _ _ hk (by simpa using hvs) (by simpa using hus) h
  have hgu : ∀ (op : BinOp) (X Y : Operand), (op = .eql ∨ op = .neq) → (eqGuard op t X Y (.agg vs.toArray) (.agg us.toArray)).run P w = .ok () w := by
    intro op X Y hop
    rcases hop with rfl | rfl <;> simp [eqGuard, program, Sem.run, hg]
  refine ⟨.bool (if neg then !r else r), ?_, rfl⟩
  subst hop
  cases neg
  · simp only [execOp, ho, ex, ey, Sem.run_bind, if_true, Bool.false_eq_true, if_false, hgu .eql x y (.inl rfl), Result.andThen_ok, binOp, he]
    simp
  · simp only [execOp, ho, ex, ey, Sem.run_bind, if_true, hgu .neq x y (.inr rfl), Result.andThen_ok, binOp, he]
    simp

end Go.Abs
