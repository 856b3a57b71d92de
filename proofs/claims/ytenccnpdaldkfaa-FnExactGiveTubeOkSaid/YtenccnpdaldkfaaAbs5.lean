/-
  The operations that only reckon, second part: addresses, slices, texts, tuples, structs put together.
-/
import Derived.Test.YtenccnpdaldkfaaAbs4
namespace Go.Abs

variable {P : Program} {μ : Mp} {T : Nat → Av} {ρ : Operand → Value} {w : World}

theorem g_un {o : Oper} {op : UnOp} {t : TypeId} {x : Operand} (ho : o.op = .unOp op t x) {r : Av} (hx : ConA μ (ev T (opdOf x)) (ρ x)) (h : unAv op (ev T (opdOf x)) = some r) : Gives P ρ o w μ r := by
  unfold unAv at h
  split at h
  · rename_i k n he
    rw [he] at hx
    have e : ρ x = .int k n := hx
    cases op <;> simp only [Option.some.injEq, reduceCtorEq] at h
    subst h
    exact ⟨_, by simp [execOp, ho, e, Op.unary, Op.intArith], rfl⟩
  · rename_i b he
    rw [he] at hx
    have e : ρ x = .bool b := hx
    cases op <;> simp only [Option.some.injEq, reduceCtorEq] at h
    subst h
    exact ⟨_, by simp [execOp, ho, e, Op.unary], rfl⟩
  · exact absurd h (by simp)

theorem g_conv {o : Oper} {s d : TypeId} {x : Operand} (ho : o.op = .convert s d x) {k0 k : IntKind} (hs : P.underlying s = some (.int k0)) (hd : P.underlying d = some (.int k)) {n : Int} (hx : ConA μ (ev T (opdOf x)) (ρ x)) (h : (ev T (opdOf x)).int? = some n) :
    Gives P ρ o w μ (.v (.c (.int k (k.wrap n)))) := by
  obtain ⟨q, e⟩ := con_int hx h
  exact ⟨_, by simp [execOp, ho, e, convert, underlying, hs, hd, Conv.intToInt], rfl⟩

theorem opds_con {xs : List Operand} (h : ∀ X ∈ xs, ConA μ (ev T (opdOf X)) (ρ X)) : ∀ (i : Nat) (x : Av), (evs T (opdsOf xs))[i]? = some x → ∃ X, xs[i]? = some X ∧ ConA μ x (ρ X) := by
  induction xs with
  | nil => intro i x hx; simp [opdsOf, evs] at hx
  | cons X xs ih =>
    intro i x hx
    cases i with
    | zero =>
      simp only [opdsOf, evs, List.getElem?_cons_zero, Option.some.injEq] at hx
      exact ⟨X, by simp, hx ▸ h X (by simp)⟩
    | succ i =>
      simp only [opdsOf, evs, List.getElem?_cons_succ] at hx ⊢
      exact ih (fun Y hY => h Y (by simp [hY])) i x hx

theorem ptrs_con {xs : List Operand} : (∀ X ∈ xs, ConA μ (ev T (opdOf X)) (ρ X)) → ∀ {l : List (Key × Nat)}, ptrs (evs T (opdsOf xs)) = some l → ConPs μ l (xs.map ρ) := by
  induction xs with
  | nil => intro _ l hl; simp only [opdsOf, evs, ptrs, Option.some.injEq] at hl; subst hl; trivial
  | cons X xs ih =>
    intro h l hl
    simp only [opdsOf, evs] at hl
    unfold ptrs at hl
    split at hl
    · rename_i heq; exact absurd heq (by simp)
    · rename_i q o r heq
      injection heq with h1 h2
      split at hl
      · rename_i hk
        cases hp : ptrs r with
        | none => rw [hp] at hl; simp at hl
        | some l' =>
          rw [hp] at hl
          obtain rfl := Option.some.inj hl
          have hX := h X (by simp)
          rw [h1] at hX
          exact ⟨hX, ih (fun Y hY => h Y (by simp [hY])) (h2 ▸ hp)⟩
      · exact absurd hl (by simp)
    · exact absurd hl (by simp)

theorem g_mkfn {o : Oper} {f : FuncId} {first captured : Array Operand} (ho : o.op = .makeFunc (.func f) first captured) (hf : first.size = 0) {l : List (Key × Nat)} (h : ∀ X ∈ captured.toList, ConA μ (ev T (opdOf X)) (ρ X))
    (hl : ptrs (evs T (opdsOf captured.toList)) = some l) : Gives P ρ o w μ (.v (.c (.fn f l))) := by
  have h0 : first = #[] := Array.eq_empty_of_size_eq_zero hf
  refine ⟨.func (.func f) #[] (captured.map ρ), by simp [execOp, ho, Instr.makeFunc, h0], (captured.toList.map ρ), ?_, ptrs_con h hl⟩
  rw [← Array.toList_map]

theorem g_faddr {o : Oper} {s : TypeId} {x : Operand} {f : Nat} (ho : o.op = .fieldAddr s x f) {fs : Array Field} {fd : Field} {n : Nat} (hs : P.underlying s = some (.struct fs)) (hf : fs[f]? = some fd) (hz : szOf P fd.type = some n) (hn : n ≠ 0)
    {p : Key × Nat} (hx : ConA μ (ev T (opdOf x)) (ρ x)) (h : (ev T (opdOf x)).ptr? = some p) : Gives P ρ o w μ (.v (.c (.ptr p.1 (p.2 + fd.offset)))) := by
  obtain ⟨pl, hp, e⟩ := con_ptr hx h
  simp only [szOf, Option.map_eq_some_iff] at hz
  obtain ⟨i, hi, rfl⟩ := hz
  refine ⟨.pointer (some ⟨pl.B, pl.O + (p.2 + fd.offset), none⟩), ?_, pl, hp, rfl⟩
  simp [execOp, ho, e, Instr.fieldAt, underlying, hs, hf, Instr.sureAddr, fieldPlace, sizeOf, typeInfo, program, Sem.run, hi, hn, Addr.add_lit, Nat.add_assoc]

theorem g_iaddr {o : Oper} {t : TypeId} {x i : Operand} (ho : o.op = .indexAddr t x i) {e : TypeId} {n : Nat} (ht : P.underlying t = some (.slice e)) (hz : szOf P e = some n) {q : Key} {off len : Nat} {m : Md} {j : Int}
    (hx : ConA μ (ev T (opdOf x)) (ρ x)) (hi : ConA μ (ev T (opdOf i)) (ρ i)) (kx : ev T (opdOf x) = .v (.c (.sl q off len m))) (ki : (ev T (opdOf i)).int? = some j) (h0 : 0 ≤ j) (h1 : j < len) :
    Gives P ρ o w μ (.v (.c (.ptr q (off + j.toNat * n)))) := by
  obtain ⟨k, ei⟩ := con_int hi ki
  rw [kx] at hx
  obtain ⟨a, c, ex, hc, pl, hp, hm⟩ := hx
  simp only [szOf, Option.map_eq_some_iff] at hz
  obtain ⟨ii, hii, rfl⟩ := hz
  have ha : a = some ⟨pl.B, pl.O + off, none⟩ := by
    cases m with
    | own => obtain ⟨h1, h2, _⟩ := hm; rw [h1, h2]; simp
    | exact => exact hm.1 (by omega)
    | any => exact hm (by omega)
  subst ha
  refine ⟨.pointer (some ⟨pl.B, pl.O + (off + j.toNat * ii.size), none⟩), ?_, pl, hp, rfl⟩
  simp [execOp, ho, ex, ei, Instr.indexAt, asIntOf, underlying, ht, sizeOf, typeInfo, program, Sem.run, hii, h0, h1, Addr.add_lit, Nat.add_assoc]

theorem g_indexS {o : Oper} {t : TypeId} {x i : Operand} (ho : o.op = .index t x i) (ht : P.underlying t = some .string) {s : ByteArray} {j : Int} {b : UInt8}
    (hx : ConA μ (ev T (opdOf x)) (ρ x)) (hi : ConA μ (ev T (opdOf i)) (ρ i)) (kx : (ev T (opdOf x)).str? = some s) (ki : (ev T (opdOf i)).int? = some j) (h0 : 0 ≤ j) (h1 : s[j.toNat]? = some b) :
    Gives P ρ o w μ (.v (.c (.int .u8 b.toNat))) := by
  obtain ⟨k, ei⟩ := con_int hi ki
  have ex := con_str hx kx
  refine ⟨_, ?_, rfl⟩
  simp [execOp, ho, ex, ei, Instr.index, asIntOf, underlying, ht, h0, h1]

theorem ConTs.get {μ : Mp} : ∀ {xs : List Tv} {vs : List Value} (_ : ConTs μ xs vs) (i : Nat) (x : Tv), xs[i]? = some x → ∃ v, vs[i]? = some v ∧ ConT μ x v
  | [], [], _, i, x, h => by simp at h
  | a :: _, b :: _, k, 0, x, h => by
    simp only [List.getElem?_cons_zero, Option.some.injEq] at h
    exact ⟨b, by simp, h ▸ k.1⟩
  | a :: _, b :: _, k, i + 1, x, h => by
    simp only [List.getElem?_cons_succ] at h ⊢
    exact ConTs.get k.2 i x h
  | [], _ :: _, k, _, _, _ => k.elim
  | _ :: _, [], k, _, _, _ => k.elim

theorem g_extract {o : Oper} {x : Operand} {i : Nat} (ho : o.op = .extract x i) {l : List Tv} {t : Tv} (hx : ConA μ (ev T (opdOf x)) (ρ x)) (kx : ev T (opdOf x) = .tup l) (ht : l[i]? = some t) : Gives P ρ o w μ (.v t) := by
  rw [kx] at hx
  obtain ⟨vs, ex, hvs⟩ := hx
  obtain ⟨v, hv, hc⟩ := hvs.get i t ht
  refine ⟨v, ?_, hc⟩
  simp [execOp, ho, ex, Instr.extract, hv]

theorem g_len {o : Oper} {c : Call} {x : Operand} {t : TypeId} (ho : o.op = .call c) (hc : c.callee = .builtin .len) (hx : c.args.toList = [x]) (ht : c.argTypes.toList = [t]) {e : TypeId} (hu : P.underlying t = some (.slice e)) {n : Nat}
    (h : ConA μ (ev T (opdOf x)) (ρ x)) (k : ev T (opdOf x) = .v (.c .nils) ∧ n = 0 ∨ ∃ q o m, ev T (opdOf x) = .v (.c (.sl q o n m))) : Gives P ρ o w μ (.v (.c (.int .i64 n))) := by
  have e1 : c.args = #[x] := by rw [← hx]
  have e2 : c.argTypes = #[t] := by rw [← ht]
  refine ⟨.int .i64 n, ?_, rfl⟩
  rcases k with ⟨k, rfl⟩ | ⟨q, off, m, k⟩
  · rw [k] at h
    have ev' : ρ x = .slice none 0 0 := h
    simp [execOp, ho, hc, resolve, invoke, builtin, Builtin.len_, e1, e2, underlying, hu, ev', goInt]
  · rw [k] at h
    obtain ⟨a, cc, ev', _⟩ := h
    simp [execOp, ho, hc, resolve, invoke, builtin, Builtin.len_, e1, e2, underlying, hu, ev', goInt]

theorem g_lenS {o : Oper} {c : Call} {x : Operand} {t : TypeId} (ho : o.op = .call c) (hc : c.callee = .builtin .len) (hx : c.args.toList = [x]) (ht : c.argTypes.toList = [t]) (hu : P.underlying t = some .string) {s : ByteArray}
    (h : ConA μ (ev T (opdOf x)) (ρ x)) (k : (ev T (opdOf x)).str? = some s) : Gives P ρ o w μ (.v (.c (.int .i64 s.size))) := by
  have e1 : c.args = #[x] := by rw [← hx]
  have e2 : c.argTypes = #[t] := by rw [← ht]
  have ev' := con_str h k
  exact ⟨_, by simp [execOp, ho, hc, resolve, invoke, builtin, Builtin.len_, e1, e2, underlying, hu, ev', goInt], rfl⟩

theorem ints_con {xs : List Operand} : (∀ X ∈ xs, ConA μ (ev T (opdOf X)) (ρ X)) → ∀ {l : List Int}, ints (evs T (opdsOf xs)) = some l → xs.map ρ = l.map (Value.int .i64) := by
  induction xs with
  | nil => intro _ l hl; simp only [opdsOf, evs, ints, Option.some.injEq] at hl; subst hl; rfl
  | cons X xs ih =>
    intro h l hl
    simp only [opdsOf, evs] at hl
    unfold ints at hl
    split at hl
    · rename_i heq; exact absurd heq (by simp)
    · rename_i n r heq
      injection heq with h1 h2
      cases hp : ints r with
      | none => rw [hp] at hl; simp at hl
      | some l' =>
        rw [hp] at hl
        obtain rfl := Option.some.inj hl
        have hX := h X (by simp)
        rw [h1] at hX
        have eX : ρ X = .int .i64 n := hX
        simp only [List.map_cons, eX, ih (fun Y hY => h Y (by simp [hY])) (h2 ▸ hp)]
    · exact absurd hl (by simp)

theorem fold_max (w : World) : ∀ (l : List Int) (a : Int), ((l.map (Value.int .i64)).foldlM Builtin.max2 (.int .i64 a)).run P w = .ok (.int .i64 (l.foldl (fun x y => if y > x then y else x) a)) w
  | [], a => by simp
  | b :: l, a => by
    simp only [List.map_cons, List.foldlM_cons, List.foldl_cons, Sem.run_bind]
    have : (Builtin.max2 (.int .i64 a) (.int .i64 b)).run P w = .ok (.int .i64 (if b > a then b else a)) w := by simp [Builtin.max2]
    rw [this]
    exact fold_max w l _
theorem fold_min (w : World) : ∀ (l : List Int) (a : Int), ((l.map (Value.int .i64)).foldlM Builtin.min2 (.int .i64 a)).run P w = .ok (.int .i64 (l.foldl (fun x y => if y < x then y else x) a)) w
  | [], a => by simp
  | b :: l, a => by
    simp only [List.map_cons, List.foldlM_cons, List.foldl_cons, Sem.run_bind]
    have : (Builtin.min2 (.int .i64 a) (.int .i64 b)).run P w = .ok (.int .i64 (if b < a then b else a)) w := by simp [Builtin.min2]
    rw [this]
    exact fold_min w l _

theorem g_maxs {o : Oper} {c : Call} (ho : o.op = .call c) (hc : c.callee = .builtin .max) {a : Int} {l : List Int} (h : ∀ X ∈ c.args.toList, ConA μ (ev T (opdOf X)) (ρ X)) (k : ints (evs T (opdsOf c.args.toList)) = some (a :: l)) :
    Gives P ρ o w μ (.v (.c (.int .i64 (l.foldl (fun x y => if y > x then y else x) a)))) := by
  have e := ints_con h k
  refine ⟨_, ?_, rfl⟩
  have e' : (c.args.map ρ).toList = (a :: l).map (Value.int .i64) := by simpa using e
  simp only [execOp, ho, hc, resolve, invoke, builtin, Builtin.max_, Sem.run_bind, Sem.run_pure, Result.andThen_ok]
  rw [e']
  simp only [List.map_cons]
  rw [fold_max]
  simp
theorem g_mins {o : Oper} {c : Call} (ho : o.op = .call c) (hc : c.callee = .builtin .min) {a : Int} {l : List Int} (h : ∀ X ∈ c.args.toList, ConA μ (ev T (opdOf X)) (ρ X)) (k : ints (evs T (opdsOf c.args.toList)) = some (a :: l)) :
    Gives P ρ o w μ (.v (.c (.int .i64 (l.foldl (fun x y => if y < x then y else x) a)))) := by
  have e := ints_con h k
  refine ⟨_, ?_, rfl⟩
  have e' : (c.args.map ρ).toList = (a :: l).map (Value.int .i64) := by simpa using e
  simp only [execOp, ho, hc, resolve, invoke, builtin, Builtin.min_, Sem.run_bind, Sem.run_pure, Result.andThen_ok]
  rw [e']
  simp only [List.map_cons]
  rw [fold_min]
  simp

end Go.Abs
