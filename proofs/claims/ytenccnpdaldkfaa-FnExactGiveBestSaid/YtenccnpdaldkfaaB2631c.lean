/-
  The heavy operations: a store, an append, a call.
-/
import Derived.Test.YtenccnpdaldkfaaB15481
import Derived.Laws.CopyRow
import Derived.Laws.AppendOwn
set_option linter.unusedSimpArgs false
set_option linter.unusedVariables false
namespace Go.Abs

variable {P : Program} {μ : Mp} {T : Nat → Av} {ρ : Operand → Value} {w : World} {g : Mem}

structure Post (μ : Mp) (g g' : Mem) (w : World) (μ' : Mp) (w' : World) (isNew : Key → Prop) : Prop where
  le : Le μ μ'
  sim : Sim μ' g' w'
  frm : Frm μ g w w'
  new : ∀ q pl, μ' q = some pl → μ q = some pl ∨ (isNew q ∧ (w.heap.size ≤ pl.B ∨ ∃ q0 pl0 r0, μ q0 = some pl0 ∧ g q0 = some r0 ∧ r0.rw = true ∧ pl0.B = pl.B))

theorem one_cell {x : Ce} {v : Value} (h : ConC μ x v) : v.oneCell' = true := by
  cases x with
  | int k n => obtain rfl : v = .int k n := h; rfl
  | bool b => obtain rfl : v = .bool b := h; rfl
  | str s => obtain rfl : v = .string s := h; rfl
  | nils => obtain rfl : v = .slice none 0 0 := h; rfl
  | nilp => obtain rfl : v = .pointer none := h; rfl
  | ptr q o => obtain ⟨pl, _, rfl⟩ := h; rfl
  | fn f ps => obtain ⟨l, rfl, _⟩ := h; rfl
  | sl q o n m => obtain ⟨a, c, rfl, _⟩ := h; rfl
theorem one_cells : ∀ {xs : List Ce} {vs : List Value}, ConL μ xs vs → ∀ v ∈ vs, v.oneCell' = true
  | [], [], _, v, hv => by simp at hv
  | x :: xs, u :: us, h, v, hv => by
    rcases List.mem_cons.1 hv with rfl | hv
    · exact one_cell h.1
    · exact one_cells h.2 v hv
  | [], _ :: _, h, _, _ => h.elim
  | _ :: _, [], h, _, _ => h.elim

theorem Sim.drop {g' : Mem} (hs : Sim μ g w) (h : ∀ q r, g' q = some r → g q = some r) : Sim μ g' w :=
  ⟨fun q pl r hp hr => hs.row q pl r hp (h q r hr), fun q q' pl pl' r r' hne hp hp' hr hr' => hs.apart q q' pl pl' r r' hne hp hp' (h q r hr) (h q' r' hr')⟩

theorem Sim.heap {w' : World} (hs : Sim μ g w) (h : w'.heap = w.heap) : Sim μ g w' :=
  ⟨fun q pl r hp hr => by
    obtain ⟨cs, e, fr, h1, rest⟩ := hs.row q pl r hp hr
    exact ⟨cs, e, fr, by rw [h]; exact h1, rest⟩, hs.apart⟩

theorem setRow_far (w : World) (g : Nat) (c : Array Value) (k : Nat) (h : k ≠ g) : (w.setRow g c).heap[k]? = w.heap[k]? := by
  unfold World.setRow
  simp [Array.getElem?_modify, Ne.symm h]
theorem setRow_size (w : World) (g : Nat) (c : Array Value) : (w.setRow g c).heap.size = w.heap.size := by
  unfold World.setRow
  simp

theorem size_run {t : TypeId} {n : Nat} (h : szOf P t = some n) (w : World) : (sizeOf t).run P w = .ok n w := by
  obtain ⟨i, hi, rfl⟩ := info_size h
  simp [sizeOf, typeInfo, hi]

theorem h_store {o : Oper} {t : TypeId} {a x : Operand} (ho : o.op = .store t a x) {n : Nat} (hz : szOf P t = some n) {p : Key × Nat} {r : Row} {tv : Tv} (hs : Sim μ g w) (ha : ConA μ (ev T (opdOf a)) (ρ a)) (hx : ConA μ (ev T (opdOf x)) (ρ x))
    (ka : (ev T (opdOf a)).ptr? = some p) (kx : (ev T (opdOf x)).tv? = some tv) (kr : g p.1 = some r) (hrw : r.rw = true) (hl : tv.noLoc = true) (hn : tv.cells.length = n) (hfit : p.2 + n ≤ r.cs.length) :
    ∃ w', (execOp ρ o).run P w = .ok .skip w' ∧ Post μ g (upg g p.1 { r with cs := r.cs.take p.2 ++ tv.cells ++ r.cs.drop (p.2 + n) }) w μ w' (fun _ => False) := by
  obtain ⟨pl, hp, e⟩ := con_ptr ha ka
  rw [ev_tv kx] at hx
  obtain ⟨hc, hnl⟩ := con_cells hx hl
  have hrow := hs.row _ _ _ hp kr
  obtain ⟨cs, et, fr, hb, hsz, hcs, hncs, hrest⟩ := hrow
  obtain ⟨hO, hfr, hcap⟩ := hrest hrw
  subst hfr
  have hvl : (ρ x).cells.toList.length = n := by rw [← hn, hc.length]
  rw [hO] at hsz hcs
  have hst := run_storeCells_at P pl.B p.2 et (ρ x).cells.toList 0 cs w hb (by rw [hvl]; omega) (one_cells hc)
  refine ⟨w.setRow pl.B (cs.toList.take (p.2 + 0) ++ (ρ x).cells.toList ++ cs.toList.drop (p.2 + 0 + (ρ x).cells.toList.length)).toArray, ?_, Le.refl μ, ?_, ?_, fun q pl' h => .inl h⟩
  · have hvs : (ρ x).cells.size = n := by simpa using hvl
    simp only [execOp, ho, Instr.storeAt, Instr.sureAddr, e, storeVar, Sem.run_bind, Sem.run_pure, Result.andThen_ok, size_run hz, hvs, hO, Nat.zero_add]
    simp [hst]
  · have hlist : (cs.toList.take (p.2 + 0) ++ (ρ x).cells.toList ++ cs.toList.drop (p.2 + 0 + (ρ x).cells.toList.length)) = setsL cs.toList p.2 (ρ x).cells.toList := by
      rw [setsL_eq _ _ _ (by simp at hvl ⊢; omega)]
      simp
    rw [hlist]
    constructor
    · intro q pl' r' hq hr'
      unfold upg at hr'
      split at hr'
      · rename_i heq
        subst heq
        rw [hp] at hq
        obtain rfl := Option.some.inj hq
        obtain rfl := Option.some.inj hr'
        have hlen : (r.cs.take p.2 ++ tv.cells ++ r.cs.drop (p.2 + n)).length = r.cs.length := by simp; omega
        refine ⟨(setsL cs.toList p.2 (ρ x).cells.toList).toArray, et, (0, 0), setRow_heap w _ _ _ _ _ hb, ?_, ?_, hncs.sets hnl, fun _ => ⟨hO, rfl, by simp [setsL_length]; simpa using hcap⟩⟩
        · rw [hO]; simp only [hlen]; simp [setsL_length]; omega
        · rw [hO]
          simp only [hlen, List.drop_zero]
          have h1 := hcs.sets hc (off := p.2) (by rw [hn]; exact hfit)
          rw [hn] at h1
          have h2 : (setsL cs.toList p.2 (ρ x).cells.toList).take r.cs.length = setsL (cs.toList.take r.cs.length) p.2 (ρ x).cells.toList := by
            rw [setsL_eq _ _ _ (by simp at hvl ⊢; omega), setsL_eq _ _ _ (by simp at hvl ⊢; omega), hvl]
            apply List.ext_getElem?
            intro i
            simp only [List.getElem?_append, List.getElem?_take, List.getElem?_drop, List.length_append, List.length_take, hvl, Array.length_toList]
            by_cases hi : i < r.cs.length
            · simp only [hi, if_true]
              repeat' split
              all_goals first
                | rfl
                | omega
                | (congr 1; omega)
            · simp only [hi, if_false]
              repeat' split
              all_goals first
                | rfl
                | omega
                | (symm; apply List.getElem?_eq_none; omega)
          rw [h2]
          simpa using h1
      · rename_i hne
        have hrow' := hs.row q pl' r' hq hr'
        refine hrow'.le (Le.refl μ) (setRow_far w _ _ _ ?_)
        exact fun hB => hs.apart p.1 q pl pl' r r' (fun h => hne h.symm) hp hq kr hr' hrw hB.symm
    · intro q q' pl1 pl2 r1 r2 hne h1 h2 hr1 hr2 hrw1
      have low : ∀ k r0, upg g p.1 { r with cs := r.cs.take p.2 ++ tv.cells ++ r.cs.drop (p.2 + n) } k = some r0 → ∃ r3, g k = some r3 ∧ r3.rw = r0.rw := by
        intro k r0 hk
        unfold upg at hk
        split at hk
        · rename_i he; subst he; obtain rfl := Option.some.inj hk; exact ⟨r, kr, rfl⟩
        · exact ⟨r0, hk, rfl⟩
      obtain ⟨r3, hr3, e3⟩ := low _ _ hr1
      obtain ⟨r4, hr4, _⟩ := low _ _ hr2
      exact hs.apart q q' pl1 pl2 r3 r4 hne h1 h2 hr3 hr4 (e3.trans hrw1)
  · exact ⟨rfl, rfl, rfl, by rw [setRow_size]; exact Nat.le_refl _, fun B hB hne => setRow_far w _ _ _ (fun h => hne p.1 pl r hp kr hrw h.symm)⟩

def kilm (g : Mem) (q : Key) : Mem := fun k => if k = q then none else g k
theorem kilm_some {q k : Key} {r : Row} (h : kilm g q k = some r) : k ≠ q ∧ g k = some r := by
  unfold kilm at h
  split at h
  · cases h
  · rename_i hne; exact ⟨hne, h⟩

/-- What an append comes to, its operands read. -/
theorem append_run {t u ty e e' : TypeId} {i : TypeInfo} {z : Value} (ht : P.underlying t = some (.slice e)) (hu : P.underlying u = some (.slice e')) (hi : P.info? e = some i) (hz : i.zero = some z) (base : Option Addr) (sLen sCap : Nat) (xa : Option Addr) (n c : Nat) (news : List Value)
    (hn : ∀ w' : World, w'.heap = w.heap → (Builtin.firstCells i.size n (.slice xa n c)).run P w' = .ok news.toArray w') :
    (sLen + n ≤ sCap → (Builtin.append_ #[t, u] ty #[.slice base sLen sCap, .slice xa n c]).run P w =
      match (match base with | some a => storeCells (a.add (sLen * i.size)) news | none => pure () : Sem Unit).run P w with
      | .ok _ w' => .ok (.slice base (sLen + n) sCap) w'
      | .halt h w' => .halt h w') ∧
    (∀ olds : List Value, sCap < sLen + n → ((sLen + n : Nat) : Int) ≤ 9223372036854775807 → Builtin.nextslicecap (sLen + n) sCap * i.bytes ≤ 281474976710656 → 0 < i.bytes →
      (∀ w' : World, w'.heap = w.heap → (Builtin.firstCells i.size sLen (.slice base sLen sCap)).run P w' = .ok olds.toArray w') →
      (Builtin.append_ #[t, u] ty #[.slice base sLen sCap, .slice xa n c]).run P w =
        .ok (.slice (some ⟨w.heap.size, 0, none⟩) (sLen + n) (grownCap w (sLen + n) sCap e)) (w.drew.alloc (.cells ((olds ++ news).toArray ++ Builtin.zeroCells z.cells (grownCap w (sLen + n) sCap e - (sLen + n))) e))) := by
  constructor
  · intro hfit
    have h1 := hn w rfl
    cases base with
    | none => simp [Builtin.append_, run_underlying ht, run_underlying hu, sizeOf, typeInfo, hi, Builtin.lenOf, hfit, h1]
    | some a =>
      simp [Builtin.append_, run_underlying ht, run_underlying hu, sizeOf, typeInfo, hi, Builtin.lenOf, hfit, h1]
      cases (storeCells (a.add (sLen * i.size)) news).run P w <;> rfl
  · intro olds hg h63 h48 hb hold
    have h1 : (Builtin.firstCells i.size n (.slice xa n c)).run P w.drew = .ok news.toArray w.drew := hn w.drew rfl
    have h2 : (Builtin.firstCells i.size sLen (.slice base sLen sCap)).run P w.drew = .ok olds.toArray w.drew := hold w.drew rfl
    have hn' : ¬ (sLen + n ≤ sCap) := by omega
    have h63' : ¬ (9223372036854775807 < ((sLen : Int) + (n : Int))) := by omega
    have h48' : ¬ (281474976710656 < Builtin.nextslicecap (sLen + n) sCap * i.bytes) := by omega
    simp [Builtin.append_, run_underlying ht, run_underlying hu, sizeOf, typeInfo, zeroValue, hi, hz, Builtin.lenOf, hn', h63', h48', Question.forced, h1, h2, newRow, grownCap]
    congr 2
    rw [← Array.append_assoc]
    simp

theorem firstCells_of {sz n c : Nat} {a : Option Addr} {vs : List Value} {w : World} (h0 : a = none → vs = []) (h1 : ∀ A, a = some A → (loadCells A (n * sz)).run P w = .ok vs.toArray w) :
    (Builtin.firstCells sz n (.slice a n c)).run P w = .ok vs.toArray w := by
  cases a with
  | none => rw [h0 rfl]; simp [Builtin.firstCells]
  | some A => simpa [Builtin.firstCells] using h1 A rfl

theorem elems_all {sz : Nat} {c : Ce} {v : Value} {s : St} {l : List Ce} (hs : Sim μ s.get w) (hc : ConC μ c v) (he : s.elems sz c = some l) :
    ∃ (a : Option Addr) (n cap : Nat) (vs : List Value), v = .slice a n cap ∧ n ≤ cap ∧ c.slen = some n ∧ vs.length = n * sz ∧ ConL μ l vs ∧ noLocL l ∧ l.length = n * sz ∧ (∀ w' : World, w'.heap = w.heap → (Builtin.firstCells sz n (.slice a n cap)).run P w' = .ok vs.toArray w') := by
  obtain ⟨a, n, cap, vs, h1, h2, h3, h4, h5, h6, h7, h8, h9⟩ := elems_run (P := P) (fun q r _ h => h) hs hc he
  exact ⟨a, n, cap, vs, h1, h2, h3, h4, h5, h6, h7, fun w' hw' => firstCells_of h8 fun A hA => h9 A hA w' hw'⟩

theorem elems_allA {sz : Nat} {c : Ce} {v : Value} {s : St} {l : List Ce} (hs : Sim μ s.get w) (hc : ConC μ c v) (he : s.elemsA sz c = some l) :
    ∃ (a : Option Addr) (n cap : Nat) (vs : List Value), v = .slice a n cap ∧ n ≤ cap ∧ c.slen = some n ∧ vs.length = n * sz ∧ ConL μ l vs ∧ noLocL l ∧ l.length = n * sz ∧ (∀ w' : World, w'.heap = w.heap → (Builtin.firstCells sz n (.slice a n cap)).run P w' = .ok vs.toArray w') := by
  unfold St.elemsA at he
  split at he
  · rename_i h0
    simp only [Option.some.injEq] at he
    subst he
    have key : ∃ a cap, v = .slice a 0 cap := by
      cases c with
      | nils => exact ⟨none, 0, hc⟩
      | sl q o n m =>
        simp only [Ce.slen, Option.some.injEq] at h0
        subst h0
        obtain ⟨a, cap, rfl, _⟩ := hc
        exact ⟨a, cap, rfl⟩
      | _ => simp [Ce.slen] at h0
    obtain ⟨a, cap, rfl⟩ := key
    refine ⟨a, 0, cap, [], rfl, Nat.zero_le _, h0, by simp, trivial, trivial, by simp, fun w' _ => firstCells_of (fun _ => rfl) fun A _ => ?_⟩
    simp [loadCells, loadCellsFrom]
  · exact elems_all hs hc he

theorem Frm.drew {w' : World} (h : Frm μ g w.drew w') : Frm μ g w w' := ⟨h.os, h.tape, h.output, h.size, h.block⟩

def newOf (n n' : Nat) (q : Key) : Prop := ∃ b, q = .inr b ∧ n ≤ b ∧ b < n'

theorem get_push {s : St} {r : Row} : (s.push r).get = upg s.get (.inr s.h.nx) r := by
  funext q
  cases q with
  | inl k => simp [St.get, St.push, upg]
  | inr b =>
    simp only [St.get, St.push, Heap.push, upg, upd, Sum.inr.injEq]
theorem get_set_none {s : St} {q : Key} : (s.set q none).get = kilm s.get q := by
  funext k
  cases q with
  | inl a =>
    cases k with
    | inl b => simp only [St.get, St.set, kilm, upd, Sum.inl.injEq]
    | inr b => simp [St.get, St.set, kilm]
  | inr a =>
    cases k with
    | inl b => simp [St.get, St.set, kilm]
    | inr b => simp only [St.get, St.set, kilm, upd, Sum.inr.injEq]
theorem get_set {s : St} {q : Key} {r : Row} : (s.set q (some r)).get = upg s.get q r := by
  funext k
  cases q with
  | inl a =>
    cases k with
    | inl b => simp only [St.get, St.set, upg, upd, Sum.inl.injEq]
    | inr b => simp [St.get, St.set, upg]
  | inr a =>
    cases k with
    | inl b => simp [St.get, St.set, upg]
    | inr b => simp only [St.get, St.set, upg, upd, Sum.inr.injEq]
theorem nx_set {s : St} {q : Key} {r : Option Row} : (s.set q r).h.nx = s.h.nx := by
  cases q <;> rfl

/-- A slice that grows into a new block. -/
theorem grow_post {g g' : Mem} (hs : Sim μ g w) (hg : ∀ q r, g' q = some r → g q = some r) {q : Key} {nx : Nat} (hq : q = .inr nx) (hnew : μ q = none) {l : List Ce} {vs : List Value} (hl : ConL μ l vs) (hn : noLocL l) {m cap sz : Nat} (hlen : l.length = m * sz) (hcap : m ≤ cap)
    {z : Array Value} (hz : z.size = sz) (e : TypeId) :
    Post μ g (upg g' q ⟨l, sz, true⟩) w (upm μ q ⟨w.heap.size, 0, cap⟩) (w.drew.alloc (.cells (vs.toArray ++ Builtin.zeroCells z (cap - m)) e (0, 0))) (newOf nx (nx + 1)) := by
  have hsz : (vs.toArray ++ Builtin.zeroCells z (cap - m)).size = cap * sz := by
    have h1 : vs.length = m * sz := by rw [← hl.length, hlen]
    simp only [Array.size_append, List.size_toArray, Builtin.zeroCells, Array.size_map, Array.size_range, hz, h1]
    rw [← Nat.add_mul]
    congr 1
    omega
  have hd : Sim μ g' w.drew := (hs.drop hg).heap rfl
  have hle : m * sz ≤ cap * sz := Nat.mul_le_mul_right _ hcap
  have hvl : vs.length = l.length := hl.length.symm
  have hnewS := hd.new (q := q) hnew (cs := vs.toArray ++ Builtin.zeroCells z (cap - m)) (e := e) (r := ⟨l, sz, true⟩) (cap := cap) (by rw [hsz, hlen]; exact hle)
    (by simp only [Array.toList_append]; rw [List.take_append_of_le_length (by simp [hvl]), List.take_of_length_le (by simp [hvl])]; exact hl) hn (by rw [hsz]; exact Nat.le_refl _)
  refine ⟨upm_le hnew, hnewS, (Frm.alloc μ g w.drew _).drew, ?_⟩
  intro k pl hk
  unfold upm at hk
  split at hk
  · rename_i he
    obtain rfl := Option.some.inj hk
    exact .inr ⟨⟨nx, he.trans hq, Nat.le_refl _, by omega⟩, .inl (Nat.le_refl _)⟩
  · exact .inl hk

theorem h_append {o : Oper} {c : Call} {x y : Operand} {t u e e' : TypeId} (ho : o.op = .call c) (hc : c.callee = .builtin .append) (hx : c.args.toList = [x, y]) (hty : c.argTypes.toList = [t, u]) (ht : P.underlying t = some (.slice e)) (hu : P.underlying u = some (.slice e'))
    {sz : Nat} {z : List Ce} (hsz : szOf P e = some sz) (hz : zeroOf P e = some z) (hzl : z.length = sz) (hsm : smallOf P e = true) {s s' : St} {a b r : Ce} (hs : Sim μ s.get w) (ha : ConA μ (ev T (opdOf x)) (ρ x)) (hb : ConA μ (ev T (opdOf y)) (ρ y))
    (ka : (ev T (opdOf x)).ce? = some a) (kb : (ev T (opdOf y)).ce? = some b) (h : appendA s sz a b = some (r, s')) (hnew' : s'.h.nx = s.h.nx + 1 → μ (.inr s.h.nx) = none) :
    ∃ v' w' μ', (execOp ρ o).run P w = .ok (.value v') w' ∧ ConA μ' (.v (.c r)) v' ∧ Post μ s.get s'.get w μ' w' (newOf s.h.nx s'.h.nx) := by
  rw [ev_ce ka] at ha
  rw [ev_ce kb] at hb
  have e1 : c.args = #[x, y] := by rw [← hx]
  have e2 : c.argTypes = #[t, u] := by rw [← hty]
  have hexec : ∀ v' w', (Builtin.append_ #[t, u] o.type #[ρ x, ρ y]).run P w = .ok v' w' → (execOp ρ o).run P w = .ok (.value v') w' := by
    intro v' w' hr
    simp [execOp, ho, hc, resolve, invoke, builtin, e1, e2, hr]
  obtain ⟨i, zv, hi, hzv, hcz⟩ := zeroOf_some hz
  obtain ⟨hz1, _⟩ := zero_con (μ := μ) hcz
  have hzs : zv.cells.size = sz := by rw [← hzl, hz1.length]; simp
  obtain ⟨i', hi', hsz'⟩ := info_size hsz
  rw [hi] at hi'
  obtain rfl := Option.some.inj hi'
  have hby : i.bytes ≤ 4096 ∧ 0 < i.bytes := by
    unfold smallOf at hsm
    rw [hi] at hsm
    simpa using hsm
  have h48 : ∀ n m cap : Nat, n + m ≤ lim → cap < n + m → Builtin.nextslicecap (n + m) cap * i.bytes ≤ 281474976710656 := by
    intro n m cap h1 h2
    have h3 := nextslicecap_le h2
    have h4 : n + m ≤ 4294967296 := h1
    calc Builtin.nextslicecap (n + m) cap * i.bytes ≤ (2 * (n + m)) * 4096 := Nat.mul_le_mul h3 hby.1
      _ ≤ 281474976710656 := by omega
  have h63 : ∀ n m : Nat, n + m ≤ lim → ((n + m : Nat) : Int) ≤ 9223372036854775807 := by
    intro n m h1
    have h4 : n + m ≤ 4294967296 := h1
    omega
  unfold appendA at h
  split at h
  · rename_i new m hel hm
    obtain ⟨ya, m', cap, vs, hvy, _, hm', hvl, hcon, hnl, hnlen, hfirst⟩ := elems_allA (P := P) hs hb hel
    rw [hm] at hm'
    obtain rfl := Option.some.inj hm'
    split at h
    · -- nil
      have hvx : ρ x = .slice none 0 0 := ha
      split at h
      · rename_i hm0
        subst hm0
        obtain ⟨rfl, rfl⟩ := by simpa using h
        obtain ⟨hr, _⟩ := append_run (P := P) (w := w) (ty := o.type) ht hu hi hzv none 0 0 ya 0 cap vs (by rw [hsz']; exact hfirst)
        refine ⟨.slice none 0 0, w, μ, hexec _ _ ?_, rfl, Le.refl _, hs, Frm.refl _ _ _, fun q pl hq => .inl hq⟩
        rw [hvx, hvy, hr (by omega)]
        simp
      · rename_i hm0
        split at h
        · rename_i hlim
          simp only [Option.some.injEq, Prod.mk.injEq] at h
          obtain ⟨rfl, rfl⟩ := h
          have hnew := hnew' rfl
          obtain ⟨_, hr⟩ := append_run (P := P) (w := w) (ty := o.type) ht hu hi hzv none 0 0 ya m cap vs (by rw [hsz']; exact hfirst)
          have hrun := hr [] (by omega) (h63 0 m (by simpa using hlim)) (h48 0 m 0 (by simpa using hlim) (by omega)) hby.2 (fun w' _ => by simp [Builtin.firstCells])
          simp only [Nat.zero_add, List.nil_append] at hrun
          refine ⟨_, _, upm μ (.inr s.h.nx) ⟨w.heap.size, 0, grownCap w m 0 e⟩, hexec _ _ (by rw [hvx, hvy]; exact hrun), ?_, ?_⟩
          · exact ⟨_, _, rfl, grownCap_ge _ _ _ _, _, upm_self, rfl, rfl, rfl⟩
          · rw [get_push]
            exact grow_post hs (fun q r h => h) rfl hnew hcon hnl hnlen (grownCap_ge _ _ _ _) hzs e
        · exact absurd h (by simp)
    · -- one of the call's own
      rename_i q off n
      split at h
      · rename_i rr hrr
        split at h
        · rename_i hcond
          obtain ⟨ho0, hrw, hrsz, hrlen, hlim, hloc⟩ := hcond
          simp only [Option.some.injEq, Prod.mk.injEq] at h
          obtain ⟨rfl, rfl⟩ := h
          have hnew := hnew' (by show (St.set _ _ _).h.nx + 1 = _; rw [nx_set])
          obtain ⟨xa, xc, hvx, hxn, pl, hp, hxa, _, hxc⟩ := ha
          subst hxa hxc
          have hrow := hs.row q pl rr hp hrr
          have hqn : q ≠ .inr s.h.nx := by rintro rfl; rw [hnew] at hp; cases hp
          obtain ⟨cs, et, fr, hblk, hfit, hcsl, hncs, hrest⟩ := id hrow
          obtain ⟨hO, hfr, hcapsz⟩ := hrest hrw
          subst hfr
          rw [hO] at hfit hcsl
          have hnews : (s.set q none).h.nx = s.h.nx := nx_set
          have hget : ((s.set q none).push ⟨rr.cs ++ new, sz, true⟩).get = upg (kilm s.get q) (.inr s.h.nx) ⟨rr.cs ++ new, sz, true⟩ := by rw [get_push, get_set_none, hnews]
          have hlen2 : (rr.cs ++ new).length = (n + m) * sz := by rw [List.length_append, hrlen, hnlen, Nat.add_mul]
          rw [hget]
          by_cases hroom : n + m ≤ pl.cap
          · obtain ⟨hr, _⟩ := append_run (P := P) (w := w) (ty := o.type) ht hu hi hzv (some ⟨pl.B, pl.O, none⟩) n pl.cap ya m cap vs (by rw [hsz']; exact hfirst)
            have hbig : (n + m) * sz ≤ cs.size := by
              rw [hrsz] at hcapsz
              exact Nat.le_trans (Nat.mul_le_mul_right _ hroom) hcapsz
            rw [Nat.add_mul] at hbig
            have hst := run_storeCells_at P pl.B (n * sz) et vs 0 cs w hblk (by rw [hvl]; omega) (one_cells hcon)
            have hrun := hr hroom
            rw [hsz', hO] at hrun
            simp only [Addr.add_lit, Nat.zero_add, hst] at hrun
            refine ⟨_, _, upm μ (.inr s.h.nx) pl, hexec _ _ (by rw [hvx, hvy, hO]; exact hrun), ?_, ?_⟩
            · exact ⟨_, _, rfl, hroom, pl, upm_self, by rw [hO], rfl, rfl⟩
            · simp only [Nat.add_zero]
              have hfar : ∀ k, k ≠ pl.B → (w.setRow pl.B (cs.toList.take (n * sz) ++ vs ++ cs.toList.drop (n * sz + vs.length)).toArray).heap[k]? = w.heap[k]? := fun k hk => setRow_far w _ _ k hk
              refine ⟨upm_le hnew, ⟨?_, ?_⟩, ?_, ?_⟩
              · intro k pl' r' hk hr'
                unfold upm at hk
                unfold upg at hr'
                split at hk
                · rename_i hke
                  subst hke
                  rw [if_pos rfl] at hr'
                  obtain rfl := Option.some.inj hk
                  obtain rfl := Option.some.inj hr'
                  refine ⟨_, et, (0, 0), setRow_heap w _ _ _ _ _ hblk, ?_, ?_, noLocL.append hncs hnl, fun _ => ⟨hO, rfl, ?_⟩⟩
                  · rw [hO, hlen2, Nat.add_mul]; simp; omega
                  · rw [hO, List.drop_zero]
                    have e3 : (cs.toList.take (n * sz) ++ vs ++ cs.toList.drop (n * sz + vs.length)).take (rr.cs ++ new).length = cs.toList.take rr.cs.length ++ vs := by
                      rw [List.take_append_of_le_length (by rw [hlen2, Nat.add_mul]; simp; omega), List.take_of_length_le (by rw [hlen2, Nat.add_mul]; simp; omega), hrlen]
                    rw [e3]
                    exact ConL.append (by simpa using hcsl.le (upm_le hnew)) (hcon.le (upm_le hnew))
                  · rw [← hrsz]; simp; rw [hvl]; have := hcapsz; omega
                · rename_i hke
                  rw [if_neg hke] at hr'
                  obtain ⟨hkq, hr2⟩ := kilm_some hr'
                  have hrow' := hs.row k pl' r' hk hr2
                  exact hrow'.le (upm_le hnew) (hfar _ (fun hB => hs.apart q k pl pl' rr r' (fun h => hkq h.symm) hp hk hrr hr2 hrw hB.symm))
              · intro k k' pl1 pl2 r1 r2 hne hk hk' hr1 hr2 hrw1
                unfold upm at hk hk'
                unfold upg at hr1 hr2
                split at hk
                · rename_i hke
                  subst hke
                  rw [if_neg (fun h => hne h.symm)] at hk' hr2
                  obtain rfl := Option.some.inj hk
                  obtain ⟨hkq, hr3⟩ := kilm_some hr2
                  exact hs.apart q k' pl pl2 rr r2 (fun h => hkq h.symm) hp hk' hrr hr3 hrw
                · rename_i hke
                  rw [if_neg hke] at hr1
                  obtain ⟨hkq, hr1'⟩ := kilm_some hr1
                  split at hk'
                  · rename_i hke'
                    obtain rfl := Option.some.inj hk'
                    exact hs.apart k q pl1 pl r1 rr hkq hk hp hr1' hrr hrw1
                  · rename_i hke'
                    rw [if_neg hke'] at hr2
                    obtain ⟨_, hr2'⟩ := kilm_some hr2
                    exact hs.apart k k' pl1 pl2 r1 r2 hne hk hk' hr1' hr2' hrw1
              · exact ⟨rfl, rfl, rfl, by rw [setRow_size]; exact Nat.le_refl _, fun B _ hne => hfar B (fun h => hne q pl rr hp hrr hrw h.symm)⟩
              · intro k pl' hk
                unfold upm at hk
                split at hk
                · rename_i hke
                  obtain rfl := Option.some.inj hk
                  exact .inr ⟨⟨s.h.nx, hke, Nat.le_refl _, by simp only [St.push, Heap.push, hnews]; omega⟩, .inr ⟨q, pl, rr, hp, hrr, hrw, rfl⟩⟩
                · exact .inl hk
          · obtain ⟨_, hr⟩ := append_run (P := P) (w := w) (ty := o.type) ht hu hi hzv (some ⟨pl.B, pl.O, none⟩) n pl.cap ya m cap vs (by rw [hsz']; exact hfirst)
            have hold : ∀ w' : World, w'.heap = w.heap → (Builtin.firstCells i.size n (.slice (some ⟨pl.B, pl.O, none⟩) n pl.cap)).run P w' = .ok (cs.toList.take (n * sz)).toArray w' := by
              intro w' hw'
              have hl2 : (cs.toList.take (n * sz)).length = n * i.size := by rw [hsz']; simp; omega
              refine run_firstCells_some w' i.size n ⟨pl.B, pl.O, none⟩ n pl.cap (cs.toList.take (n * sz)) hl2 ?_
              intro j v hv
              rw [Addr.add_lit, hO, Nat.zero_add, cell_row (by rw [hw']; exact hblk)]
              have hj : j < n * sz := by
                have := (List.getElem?_eq_some_iff.1 hv).1
                simp at this
                omega
              rw [List.getElem?_take, if_pos hj] at hv
              simpa using hv
            have hrun := hr (cs.toList.take (n * sz)) (by omega) (h63 n m hlim) (h48 n m pl.cap hlim (by omega)) hby.2 hold
            refine ⟨_, _, upm μ (.inr s.h.nx) ⟨w.heap.size, 0, grownCap w (n + m) pl.cap e⟩, hexec _ _ (by rw [hvx, hvy]; exact hrun), ?_, ?_⟩
            · exact ⟨_, _, rfl, grownCap_ge _ _ _ _, _, upm_self, rfl, rfl, rfl⟩
            · have hpost := grow_post hs (g' := kilm s.get q) (fun k r h => (kilm_some h).2) (nx := s.h.nx) rfl hnew (l := rr.cs ++ new) (vs := cs.toList.take (n * sz) ++ vs) (ConL.append (by simpa [hrlen] using hcsl) hcon) (noLocL.append hncs hnl) hlen2 (grownCap_ge w (n + m) pl.cap e) hzs e
              have hnx2 : ((s.set q none).push ⟨rr.cs ++ new, sz, true⟩).h.nx = s.h.nx + 1 := by simp only [St.push, Heap.push, hnews]
              rw [hnx2]
              exact hpost
        · exact absurd h (by simp)
      · exact absurd h (by simp)
    · -- one whose room is just what it holds
      rename_i q off n
      split at h
      · rename_i rr hrr
        split at h
        · rename_i hcond
          obtain ⟨hm0, hlim, hfit⟩ := hcond
          simp only [Option.some.injEq, Prod.mk.injEq] at h
          obtain ⟨rfl, rfl⟩ := h
          have hnew := hnew' rfl
          have hel2 : s.elems sz (.sl q off n .exact) = some ((rr.cs.drop off).take (n * sz)) := by simp [St.elems, hrr, hfit]
          have hac : ConC μ (.sl q off n .exact) (ρ x) := ha
          obtain ⟨xa, n', xc, us, hvx, _, hn', hul, hcon2, hnl2, hlen2, hfirst2⟩ := elems_all (P := P) hs hac hel2
          simp only [Ce.slen, Option.some.injEq] at hn'
          subst hn'
          obtain ⟨xa', xc', hvx', _, pl, hp, _, hxc⟩ := hac
          have heq := hvx'.symm.trans hvx
          injection heq with e3 e4 e5
          rw [← e3, ← e5, hxc] at hfirst2
          rw [hxc] at hvx'
          obtain ⟨_, hr⟩ := append_run (P := P) (w := w) (ty := o.type) ht hu hi hzv xa' n n ya m cap vs (by rw [hsz']; exact hfirst)
          have hrun := hr us (by omega) (h63 n m hlim) (h48 n m n hlim (by omega)) hby.2 (by rw [hsz']; exact hfirst2)
          refine ⟨_, _, upm μ (.inr s.h.nx) ⟨w.heap.size, 0, grownCap w (n + m) n e⟩, hexec _ _ (by rw [hvx', hvy]; exact hrun), ?_, ?_⟩
          · exact ⟨_, _, rfl, grownCap_ge _ _ _ _, _, upm_self, rfl, rfl, rfl⟩
          · rw [get_push]
            exact grow_post hs (fun q r h => h) rfl hnew (hcon2.append hcon) (noLocL.append hnl2 hnl) (by rw [List.length_append, hlen2, hnlen, Nat.add_mul]) (grownCap_ge _ _ _ _) hzs e
        · exact absurd h (by simp)
      · exact absurd h (by simp)
    · exact absurd h (by simp)
  · exact absurd h (by simp)

end Go.Abs

/-
  What it is for an abstract function to tell what a function of the model does; a call.
-/

namespace Go.Abs

variable {P : Program} {μ : Mp} {T : Nat → Av} {ρ : Operand → Value} {w : World} {g : Mem}

def Enterable (P : Program) (f : FuncId) : Prop := ∃ fn, P.funcs[f]? = some fn ∧ (fn.name == "runtime.NumGoroutine") = false ∧ fn.body.isNone = false

/-- Values one behind the other, for which the abstract ones stand. -/
def ConAs (μ : Mp) : List Av → List Value → Prop
  | [], [] => True
  | x :: xs, v :: vs => ConA μ x v ∧ ConAs μ xs vs
  | _, _ => False

abbrev Fun := List Av → Heap → Option (Av × Heap)

structure Sound (P : Program) (f : FuncId) (F : Fun) : Prop where
  enter : Enterable P f
  nx : ∀ args h v h', F args h = some (v, h') → h.nx ≤ h'.nx
  keeps : ∀ args h v h' b r', F args h = some (v, h') → ¬ (h.nx ≤ b ∧ b < h'.nx) → h'.hp b = some r' → ∃ r, h.hp b = some r ∧ r.rw = r'.rw
  run : ∀ args h v h' μ w vals, F args h = some (v, h') → (∀ k, μ (.inl k) = none) → (∀ b, h.nx ≤ b → b < h'.nx → μ (.inr b) = none) → Sim μ h.get w → ConAs μ args vals → (∀ b, h.nx ≤ b → h.hp b = none) →
    Calls P f vals.toArray w fun e w' => ∃ v' μ', e = .returned v' ∧ ConA μ' v v' ∧ Post μ h.get h'.get w μ' w' (newOf h.nx h'.nx)

def EnvOk (P : Program) (env : Env) : Prop := ∀ f F, env f = some F → Sound P f F

theorem ConAs.hp {μ : Mp} : ∀ {xs : List Av} {vs : List Value}, noLocs xs = true → ConAs μ xs vs → ConAs (hpOnly μ) xs vs
  | [], [], _, _ => trivial
  | x :: xs, v :: vs, hn, h => by
    simp only [noLocs, Bool.and_eq_true] at hn
    exact ⟨ConA.agree (μ := μ) (μ' := hpOnly μ) (fun b => rfl) hn.1 h.1, ConAs.hp hn.2 h.2⟩
  | [], _ :: _, _, h => h.elim
  | _ :: _, [], _, h => h.elim

theorem opds_cons {xs : List Operand} (h : ∀ X ∈ xs, ConA μ (ev T (opdOf X)) (ρ X)) : ConAs μ (evs T (opdsOf xs)) (xs.map ρ) := by
  induction xs with
  | nil => trivial
  | cons X xs ih => exact ⟨h X (by simp), ih (fun Y hY => h Y (by simp [hY]))⟩

theorem ConAs.append {μ : Mp} : ∀ {xs ys : List Av} {vs us : List Value}, ConAs μ xs vs → ConAs μ ys us → ConAs μ (xs ++ ys) (vs ++ us)
  | [], _, [], _, _, k => k
  | _ :: _, _, _ :: _, _, h, k => ⟨h.1, ConAs.append h.2 k⟩
  | [], _, _ :: _, _, h, _ => h.elim
  | _ :: _, _, [], _, h, _ => h.elim

theorem ConPs.as {μ : Mp} : ∀ {ps : List (Key × Nat)} {l : List Value}, ConPs μ ps l → ConAs μ (ps.map fun p => .v (.c (.ptr p.1 p.2))) l
  | [], [], _ => trivial
  | _ :: _, _ :: _, h => ⟨h.1, ConPs.as h.2⟩
  | [], _ :: _, h => h.elim
  | _ :: _, [], h => h.elim

/-- A call, whatever the caller holds besides. -/
theorem call_sound {env : Env} (henv : EnvOk P env) {f : Nat} {xs : List Av} {s s' : St} {v : Av} {vals : List Value} (hs : Sim μ s.get w) (hx : ConAs μ xs vals) (h : callA env f xs s = some (v, s')) (hnew : ∀ b, s.h.nx ≤ b → b < s'.h.nx → μ (.inr b) = none) (hwf : ∀ b, s.h.nx ≤ b → s.h.hp b = none) :
    Enterable P f ∧ Calls P f vals.toArray w fun e w' => ∃ v' μ', e = .returned v' ∧ ConA μ' v v' ∧ Post μ s.get s'.get w μ' w' (newOf s.h.nx s'.h.nx) := by
  unfold callA at h
  split at h
  · rename_i F hF
    split at h
    · rename_i hno
      obtain ⟨⟨v1, h1⟩, hf, he⟩ := Option.map_eq_some_iff.1 h
      simp only [Prod.mk.injEq] at he
      obtain ⟨rfl, rfl⟩ := he
      have hsound := henv f F hF
      refine ⟨hsound.enter, ?_⟩
      have hs0 : Sim (hpOnly μ) s.h.get w := by
        constructor
        · intro q pl r hq hr
          cases q with
          | inl k => simp [Heap.get] at hr
          | inr b =>
            obtain ⟨cs, e, fr, a1, a2, a3, a4, a5⟩ := hs.row (.inr b) pl r hq hr
            exact ⟨cs, e, fr, a1, a2, ConL.agree (μ := μ) (μ' := hpOnly μ) (fun _ => rfl) a4 a3, a4, a5⟩
        · intro q q' pl pl' r r' hne hq hq' hr hr' hrw
          cases q with
          | inl k => simp [Heap.get] at hr
          | inr b =>
            cases q' with
            | inl k => simp [Heap.get] at hr'
            | inr b' => exact hs.apart (.inr b) (.inr b') pl pl' r r' hne hq hq' hr hr' hrw
      refine (hsound.run xs s.h v1 h1 (hpOnly μ) w vals hf (fun k => rfl) hnew hs0 (hx.hp hno) hwf).mono ?_
      rintro e w' ⟨v', μ1, rfl, hcon, hle, hsim, hfrm, hnw⟩
      let μ' : Mp := fun q => match q with | .inl k => μ (.inl k) | .inr b => μ1 (.inr b)
      have hinl : ∀ k, μ1 (.inl k) = none := by
        intro k
        cases hk : μ1 (.inl k) with
        | none => rfl
        | some pl =>
          rcases hnw _ _ hk with h2 | ⟨⟨b, hb, _⟩, _⟩
          · simp [hpOnly] at h2
          · cases hb
      have hle1 : Le μ1 μ' := by
        intro q pl hq
        cases q with
        | inl k => rw [hinl k] at hq; cases hq
        | inr b => exact hq
      have hleμ : Le μ μ' := by
        intro q pl hq
        cases q with
        | inl k => exact hq
        | inr b => exact hle (.inr b) pl hq
      -- the blocks of what a local name stands for are left alone
      have hloc : ∀ k pl r, μ (.inl k) = some pl → s.get (.inl k) = some r → w'.heap[pl.B]? = w.heap[pl.B]? := by
        intro k pl r hk hr
        refine hfrm.block pl.B (hs.row _ _ _ hk hr).lt ?_
        intro q pl2 r2 hq hr2 hrw hB
        cases q with
        | inl j => simp [hpOnly] at hq
        | inr b => exact hs.apart (.inr b) (.inl k) pl2 pl r2 r (by simp) hq hk hr2 hr hrw hB
      refine ⟨v', μ', rfl, hcon.le hle1, hleμ, ⟨?_, ?_⟩, ?_, ?_⟩
      · intro q pl r hq hr
        cases q with
        | inl k => exact (hs.row (.inl k) pl r hq hr).le hleμ (hloc k pl r hq hr)
        | inr b => exact (hsim.row (.inr b) pl r hq hr).le hle1 rfl
      · intro q q' pl pl' r r' hne hq hq' hr hr' hrw hB
        have cross : ∀ k b plk plb rk rb, μ (.inl k) = some plk → μ1 (.inr b) = some plb → s.get (.inl k) = some rk → h1.get (.inr b) = some rb → (rk.rw = true ∨ rb.rw = true) → plk.B ≠ plb.B := by
          intro k b plk plb rk rb hk hb hrk hrb hor hBB
          have hlt := (hs.row _ _ _ hk hrk).lt
          rcases hnw _ _ hb with h2 | ⟨_, h3 | ⟨q0, pl0, r0, hq0, hr0, hrw0, hB0⟩⟩
          · -- an old block
            have h2' : μ (.inr b) = some plb := h2
            have hout : ¬ (s.h.nx ≤ b ∧ b < h1.nx) := by
              rintro ⟨g1, g2⟩
              have := hnew b g1 g2
              rw [this] at h2'
              cases h2'
            obtain ⟨r0, hr0, hrw0⟩ := hsound.keeps xs s.h v1 h1 b rb hf hout hrb
            rcases hor with ho | ho
            · exact hs.apart (.inl k) (.inr b) plk plb rk r0 (by simp) hk h2' hrk hr0 ho hBB
            · exact hs.apart (.inr b) (.inl k) plb plk r0 rk (by simp) h2' hk hr0 hrk (hrw0.trans ho) hBB.symm
          · omega
          · cases q0 with
            | inl j => simp [hpOnly] at hq0
            | inr b0 => exact hs.apart (.inr b0) (.inl k) pl0 plk r0 rk (by simp) hq0 hk hr0 hrk hrw0 (hB0.trans hBB.symm)
        cases q with
        | inl k =>
          cases q' with
          | inl k' => exact hs.apart (.inl k) (.inl k') pl pl' r r' hne hq hq' hr hr' hrw hB
          | inr b => exact cross k b pl pl' r r' hq hq' hr hr' (.inl hrw) hB
        | inr b =>
          cases q' with
          | inl k => exact cross k b pl' pl r' r hq' hq hr' hr (.inr hrw) hB.symm
          | inr b' => exact hsim.apart (.inr b) (.inr b') pl pl' r r' hne hq hq' hr hr' hrw hB
      · refine ⟨hfrm.os, hfrm.tape, hfrm.output, hfrm.size, fun B hB hne => hfrm.block B hB ?_⟩
        intro q pl r hq hr hrw
        cases q with
        | inl k => simp [hpOnly] at hq
        | inr b => exact hne (.inr b) pl r hq hr hrw
      · intro q pl hq
        cases q with
        | inl k => exact .inl hq
        | inr b =>
          rcases hnw (.inr b) pl hq with h2 | ⟨h2, h3⟩
          · exact .inl h2
          · refine .inr ⟨h2, ?_⟩
            rcases h3 with h3 | ⟨q0, pl0, r0, hq0, hr0, hrw0, hB0⟩
            · exact .inl h3
            · cases q0 with
              | inl j => simp [hpOnly] at hq0
              | inr b0 => exact .inr ⟨.inr b0, pl0, r0, hq0, hr0, hrw0, hB0⟩
    · exact absurd h (by simp)
  · exact absurd h (by simp)

end Go.Abs

/-
  Each operation that the abstract machine carries out, the model carries out as well.
-/

namespace Go.Abs

variable {P : Program} {μ : Mp} {T : Nat → Av} {w : World} {g : Mem} {a : Act} {o : Oper} {K : Act → World → Prop} {Q : Exit → Act → World → Prop}

theorem value_wp {v' : Value} {w' : World} (h : (execOp a.eval o).run P w = .ok (.value v') w') (k : K (a.put o.dst v') w') : o.wp P a w K Q := by
  unfold Oper.wp
  rw [h]
  exact k
theorem skip_wp {w' : World} (h : (execOp a.eval o).run P w = .ok .skip w') (k : K (a.put o.dst undef) w') : o.wp P a w K Q := by
  unfold Oper.wp
  rw [h]
  exact k
theorem enter_wp {f : FuncId} {vals : Array Value} (h : (execOp a.eval o).run P w = .ok (.enter f vals) w) (k : Calls P f vals w fun e w' => ∃ v', e = .returned v' ∧ K (a.put o.dst v') w') : o.wp P a w K Q := by
  unfold Oper.wp
  rw [h]
  refine Calls.mono k ?_
  rintro e w' ⟨v', rfl, hk⟩
  exact hk

def newKey (d : Option Nat) (s : St) : AOp → Option Key
  | .allocL .. | .boxL .. | .mkSlL .. => d.map .inl
  | .allocH .. | .boxH .. | .mkSlH .. | .make .. => some (.inr s.h.nx)
  | _ => none

def readKey (T : Nat → Av) : AOp → Option Key
  | .load1 x | .loadN _ x => (ev T x).ptr?.map (·.1)
  | .convSB x =>
    match ev T x with
    | .v (.c (.sl q _ _ _)) => some q
    | _ => none
  | _ => none

def outMem (ao : AOp) (d : Option Nat) (s s' : St) (g : Mem) : Mem :=
  if ao.heavy = true then s'.get else fun q => if newKey d s ao = some q then s'.get q else g q

def isNew (ao : AOp) (d : Option Nat) (s s' : St) (q : Key) : Prop := newOf s.h.nx s'.h.nx q ∨ newKey d s ao = some q

/-- All that an operation leaves behind it. -/
def After (ao : AOp) (d : Option Nat) (s s' : St) (g : Mem) (μ : Mp) (w : World) (v : Av) (v' : Value) (w' : World) : Prop :=
  ∃ μ', ConA μ' v v' ∧ Post μ g (outMem ao d s s' g) w μ' w' (isNew ao d s s')

theorem after_pure {ao : AOp} {d : Option Nat} {s : St} {v : Av} {v' : Value} (hh : ao.heavy = false) (hk : newKey d s ao = none) (hs : Sim μ g w) (hc : ConA μ v v') : After ao d s s g μ w v v' w := by
  refine ⟨μ, hc, Le.refl μ, ?_, Frm.refl _ _ _, fun q pl h => .inl h⟩
  unfold outMem
  simp only [hh, Bool.false_eq_true, if_false, hk, reduceCtorEq]
  exact hs

theorem pure_wp {ao : AOp} {s : St} {v : Av} (hh : ao.heavy = false) (hk : newKey o.dst s ao = none) (hs : Sim μ g w) (hg : Gives P a.eval o w μ v) (k : ∀ v' w', After ao o.dst s s g μ w v v' w' → K (a.put o.dst v') w') : o.wp P a w K Q := by
  obtain ⟨v', hr, hc⟩ := hg
  exact value_wp hr (k v' w (after_pure hh hk hs hc))

theorem makes_wp {ao : AOp} {s s' : St} {v : Av} {q : Key} {r : Row} (hh : ao.heavy = false) (hk : newKey o.dst s ao = some q) (hr' : s'.get q = some r) (hq : μ q = none) (hs : Sim μ g w) (hm : Makes P a.eval o w μ v q r)
    (k : ∀ v' w', After ao o.dst s s' g μ w v v' w' → K (a.put o.dst v') w') : o.wp P a w K Q := by
  obtain ⟨v', cs, e, cap, hr, hl, hc, hn, hcap, hcon⟩ := hm
  refine value_wp hr (k _ _ ⟨_, hcon, upm_le hq, ?_, Frm.alloc _ _ _ _, ?_⟩)
  · have e1 : outMem ao o.dst s s' g = upg g q r := by
      funext k
      unfold outMem upg
      simp only [hh, Bool.false_eq_true, if_false, hk, Option.some.injEq]
      by_cases h : q = k
      · subst h; simp [hr']
      · rw [if_neg h, if_neg (fun h' => h h'.symm)]
    rw [e1]
    exact hs.new hq hl hc hn hcap
  · intro k pl hk'
    unfold upm at hk'
    split at hk'
    · rename_i he
      obtain rfl := Option.some.inj hk'
      subst he
      exact .inr ⟨.inr hk, .inl (Nat.le_refl _)⟩
    · exact .inl hk'

theorem get_push_self {s : St} {r : Row} : (s.push r).get (.inr s.h.nx) = some r := by rw [get_push]; simp [upg]
theorem get_set_self {s : St} {q : Key} {r : Row} : (s.set q (some r)).get q = some r := by rw [get_set]; simp [upg]

theorem opt_con {T : Nat → Av} {ρ : Operand → Value} {x : Option Operand} (h : ∀ X, x = some X → ConA μ (ev T (opdOf X)) (ρ X)) : OptCon μ T ρ x := by
  cases x with
  | none => trivial
  | some X => exact h X rfl

theorem resolve_run {c : Call} {f : FuncId} (hc : c.callee = .value (.func f)) (hen : Enterable P f) (ho : o.op = .call c) : (execOp a.eval o).run P w = .ok (.enter f (c.args.map a.eval)) w := by
  obtain ⟨fn, hf, hn, hb⟩ := hen
  have hn' : ¬ (fn.name = "runtime.NumGoroutine") := by
    intro h
    simp [h] at hn
  have hb' : ¬ (fn.body = none) := by
    intro h
    simp [h] at hb
  simp [execOp, ho, hc, resolve, Act.eval, Deferred.ofValue, invoke, callFunc, program, Sem.run, hf, hn', hb']

theorem call_wp {env : Env} (henv : EnvOk P env) {f : Nat} {xs : List Av} {s s' : St} {v : Av} {vals : List Value} {ao : AOp} (hh : ao.heavy = true) (hs : Sim μ s.get w) (hx : ConAs μ xs vals) (h : callA env f xs s = some (v, s'))
    (hnew : ∀ b, s.h.nx ≤ b → b < s'.h.nx → μ (.inr b) = none) (hwf : ∀ b, s.h.nx ≤ b → s.h.hp b = none) (hrun : Enterable P f → (execOp a.eval o).run P w = .ok (.enter f vals.toArray) w)
    (k : ∀ v' w', After ao o.dst s s' s.get μ w v v' w' → K (a.put o.dst v') w') : o.wp P a w K Q := by
  obtain ⟨hen, hcalls⟩ := call_sound henv hs hx h hnew hwf
  refine enter_wp (hrun hen) (hcalls.mono ?_)
  rintro e w' ⟨v', μ', rfl, hc, hpost⟩
  refine ⟨v', rfl, k v' w' ⟨μ', hc, hpost.le, ?_, hpost.frm, ?_⟩⟩
  · simp only [outMem, hh, if_true]
    exact hpost.sim
  · intro q pl hq
    rcases hpost.new q pl hq with h1 | ⟨h1, h2⟩
    · exact .inl h1
    · exact .inr ⟨.inl h1, h2⟩

theorem appendA_nx {s s' : St} {sz : Nat} {x y r : Ce} (h : appendA s sz x y = some (r, s')) : s'.h.nx = s.h.nx + 1 ∨ (s' = s ∧ r = .nils ∧ x = .nils ∧ y.slen = some 0) := by
  unfold appendA at h
  split at h
  · rename_i new m hel hm
    split at h
    · split at h
      · rename_i h0
        simp only [Option.some.injEq, Prod.mk.injEq] at h
        exact .inr ⟨h.2.symm, h.1.symm, rfl, by rw [hm, h0]⟩
      · split at h
        · simp only [Option.some.injEq, Prod.mk.injEq] at h
          exact .inl (by rw [← h.2]; rfl)
        · simp at h
    · split at h
      · split at h
        · simp only [Option.some.injEq, Prod.mk.injEq] at h
          refine .inl ?_
          rw [← h.2]
          show (St.set _ _ _).h.nx + 1 = _
          rw [nx_set]
        · simp at h
      · simp at h
    · split at h
      · split at h
        · simp only [Option.some.injEq, Prod.mk.injEq] at h
          exact .inl (by rw [← h.2]; rfl)
        · simp at h
      · simp at h
    · simp at h
  · simp at h

theorem op_wp {env : Env} (henv : EnvOk P env) {loc : Bool} {s s' : St} {v : Av} (hs : Sim μ g w) (hops : ∀ X ∈ o.op.operands, ConA μ (ev T (opdOf X)) (a.eval X))
    (h : aop env o.dst T s (stripOp P loc o.op) = some (v, s'))
    (hheavy : (stripOp P loc o.op).heavy = true → g = s.get) (hread : ∀ q, readKey T (stripOp P loc o.op) = some q → g q = s.get q)
    (hnew : ∀ b, s.h.nx ≤ b → b < s'.h.nx → μ (.inr b) = none) (hnewK : ∀ q, newKey o.dst s (stripOp P loc o.op) = some q → μ q = none)
    (hwf : ∀ b, s.h.nx ≤ b → s.h.hp b = none) (k : ∀ v' w', After (stripOp P loc o.op) o.dst s s' g μ w v v' w' → K (a.put o.dst v') w') : o.wp P a w K Q := by
  cases hop : o.op with
  | move x =>
    simp only [hop, stripOp] at h hnewK k
    simp only [aop, Option.some.injEq, Prod.mk.injEq] at h
    obtain ⟨rfl, rfl⟩ := h
    exact pure_wp rfl rfl hs (g_mov (.inl hop) (hops x (by simp [hop, Op.operands]))) k
  | assign x =>
    simp only [hop, stripOp] at h hnewK k
    simp only [aop, Option.some.injEq, Prod.mk.injEq] at h
    obtain ⟨rfl, rfl⟩ := h
    exact pure_wp rfl rfl hs (g_mov (.inr hop) (hops x (by simp [hop, Op.operands]))) k
  | pick c x y =>
    simp only [hop, stripOp] at h hnewK k
    simp only [aop, Option.map_eq_some_iff] at h
    obtain ⟨t, ht, h⟩ := h
    simp only [Prod.mk.injEq] at h
    obtain ⟨rfl, rfl⟩ := h
    exact pure_wp rfl rfl hs (g_pick hop (hops c (by simp [hop, Op.operands])) ht (hops x (by simp [hop, Op.operands])) (hops y (by simp [hop, Op.operands]))) k
  | alloc e =>
    simp only [hop, stripOp] at h hnewK k
    split at h
    · rename_i z n hz hn
      simp only [hz, hn] at hnewK k
      split at h
      · rename_i hl
        simp only [hl, if_true] at hnewK k
        cases loc with
        | true =>
          simp only [if_true] at h hnewK k
          simp only [aop, Option.map_eq_some_iff, Prod.mk.injEq] at h
          obtain ⟨d, hd, rfl, rfl⟩ := h
          have hk : newKey o.dst s (.allocL n z) = some (.inl d) := by simp [newKey, hd]
          exact makes_wp rfl hk get_set_self (hnewK _ hk) hs (m_alloc hop hz hl _) k
        | false =>
          simp only [Bool.false_eq_true, if_false] at h hnewK k
          simp only [aop, Option.some.injEq, Prod.mk.injEq] at h
          obtain ⟨rfl, rfl⟩ := h
          have hk : newKey o.dst s (.allocH n z) = some (.inr s.h.nx) := rfl
          exact makes_wp rfl hk get_push_self (hnewK _ hk) hs (m_alloc hop hz hl _) k
      · simp [aop] at h
    · simp [aop] at h
  | box e x =>
    simp only [hop, stripOp] at h hnewK k
    split at h
    · rename_i n hn
      simp only [hn] at hnewK k
      cases loc with
      | true =>
        simp only [if_true] at h hnewK k
        simp only [aop, Option.bind_eq_some_iff] at h
        obtain ⟨d, hd, t, ht, h⟩ := h
        split at h
        · rename_i hcond
          simp only [Option.some.injEq, Prod.mk.injEq] at h
          obtain ⟨rfl, rfl⟩ := h
          have hk : newKey o.dst s (.boxL n (opdOf x)) = some (.inl d) := by simp [newKey, hd]
          exact makes_wp rfl hk get_set_self (hnewK _ hk) hs (m_box hop (hops x (by simp [hop, Op.operands])) ht hcond.1 hcond.2 _) k
        · simp at h
      | false =>
        simp only [Bool.false_eq_true, if_false] at h hnewK k
        simp only [aop, Option.bind_eq_some_iff] at h
        obtain ⟨t, ht, h⟩ := h
        split at h
        · rename_i hcond
          simp only [Option.some.injEq, Prod.mk.injEq] at h
          obtain ⟨rfl, rfl⟩ := h
          have hk : newKey o.dst s (.boxH n (opdOf x)) = some (.inr s.h.nx) := rfl
          exact makes_wp rfl hk get_push_self (hnewK _ hk) hs (m_box hop (hops x (by simp [hop, Op.operands])) ht hcond.1 hcond.2 _) k
        · simp at h
    · simp [aop] at h
  | build t parts =>
    simp only [hop, stripOp] at h hnewK k
    split at h
    · rename_i fs z ht hz
      simp only [ht, hz] at hnewK k
      split at h
      · rename_i ps hps
        simp only [hps] at hnewK k
        split at h
        · rename_i l hl
          simp only [hl] at hnewK k
          simp only [aop, Option.map_eq_some_iff, Prod.mk.injEq] at h
          obtain ⟨r, hr, rfl, rfl⟩ := h
          exact pure_wp rfl rfl hs (g_build hop ht hz hps hl hr (fun p hp => hops p.2 (by simp only [hop, Op.operands]; simp; exact ⟨p.1, by simpa using hp⟩))) k
        · simp [aop] at h
      · simp [aop] at h
    · simp [aop] at h
  | buildSlice t len parts =>
    simp only [hop, stripOp] at h hnewK k
    split at h
    · rename_i e ht
      simp only [ht] at hnewK k
      split at h
      · rename_i n z hn hz
        simp only [hn, hz] at hnewK k
        split at h
        · rename_i hcond
          obtain ⟨h1, h2, h3⟩ := id hcond
          simp only [hcond, if_true] at hnewK k
          split at h
          · rename_i l hl
            simp only [hl] at hnewK k
            have hpa : ∀ p ∈ parts.toList, ConA μ (ev T (opdOf p.2)) (a.eval p.2) := fun p hp => hops p.2 (by simp only [hop, Op.operands]; simp; exact ⟨p.1, by simpa using hp⟩)
            cases loc with
            | true =>
              simp only [if_true] at h hnewK k
              simp only [aop, Option.bind_eq_some_iff, Option.map_eq_some_iff, Prod.mk.injEq] at h
              obtain ⟨d, hd, r, hr, rfl, rfl⟩ := h
              have hk : newKey o.dst s (.mkSlL n len z l) = some (.inl d) := by simp [newKey, hd]
              exact makes_wp rfl hk get_set_self (hnewK _ hk) hs (m_mkSl hop ht hn hz h1 h2 h3 hl hr hpa _).2 k
            | false =>
              simp only [Bool.false_eq_true, if_false] at h hnewK k
              simp only [aop, Option.map_eq_some_iff, Prod.mk.injEq] at h
              obtain ⟨r, hr, rfl, rfl⟩ := h
              have hk : newKey o.dst s (.mkSlH n len z l) = some (.inr s.h.nx) := rfl
              exact makes_wp rfl hk get_push_self (hnewK _ hk) hs (m_mkSl hop ht hn hz h1 h2 h3 hl hr hpa _).1 k
          · simp [aop] at h
        · simp [aop] at h
      · simp [aop] at h
    · simp [aop] at h
  | load t x =>
    simp only [hop, stripOp] at h hnewK k hread
    split at h
    · rename_i n ht hn
      simp only [ht, hn] at hnewK k hread
      simp only [aop, Option.bind_eq_some_iff] at h
      obtain ⟨p, hp, r, hr, h⟩ := h
      split at h
      · rename_i hfit
        simp only [Option.some.injEq, Prod.mk.injEq] at h
        obtain ⟨rfl, rfl⟩ := h
        refine pure_wp rfl rfl hs (g_loadN hop ht hn hs (hops x (by simp [hop, Op.operands])) hp ?_ hfit) k
        rw [hread p.1 (by simp [readKey, hp])]
        exact hr
      · simp at h
    · rename_i n ht
      simp only [ht] at hnewK k hread
      simp only [aop, Option.bind_eq_some_iff, Option.map_eq_some_iff, Prod.mk.injEq] at h
      obtain ⟨p, hp, r, hr, c, hc, rfl, rfl⟩ := h
      refine pure_wp rfl rfl hs (g_load1 hop ht hs (hops x (by simp [hop, Op.operands])) hp ?_ hc) k
      rw [hread p.1 (by simp [readKey, hp])]
      exact hr
    · simp [aop] at h
  | store t x y =>
    simp only [hop, stripOp] at h hnewK k hheavy
    split at h
    · rename_i n hn
      simp only [hn] at hnewK k hheavy
      obtain rfl := hheavy rfl
      simp only [aop, Option.bind_eq_some_iff] at h
      obtain ⟨p, hp, r, hr, t', ht', h⟩ := h
      split at h
      · rename_i hcond
        obtain ⟨h1, h2, h3, h4⟩ := hcond
        simp only [Option.some.injEq, Prod.mk.injEq] at h
        obtain ⟨rfl, rfl⟩ := h
        obtain ⟨w', hrun, hpost⟩ := h_store hop hn hs (hops x (by simp [hop, Op.operands])) (hops y (by simp [hop, Op.operands])) hp ht' hr h1 h2 h3 h4
        refine skip_wp hrun (k undef w' ⟨μ, ⟨[], rfl, trivial⟩, hpost.le, ?_, hpost.frm, ?_⟩)
        · simp only [outMem, AOp.heavy, if_true, get_set]
          exact hpost.sim
        · intro q pl hq
          rcases hpost.new q pl hq with h5 | ⟨h5, _⟩
          · exact .inl h5
          · exact h5.elim
      · simp at h
    · simp [aop] at h
  | nilCheck x =>
    simp only [hop, stripOp] at h hnewK k
    simp only [aop, Option.map_eq_some_iff, Prod.mk.injEq] at h
    obtain ⟨p, hp, rfl, rfl⟩ := h
    exact pure_wp rfl rfl hs (g_nilchk hop (hops x (by simp [hop, Op.operands])) hp) k
  | binOp op t x y t' =>
    have cx := hops x (by simp [hop, Op.operands])
    have cy := hops y (by simp [hop, Op.operands])
    have hbin : ∀ {s' : St} {v : Av} {ao : AOp}, ao = .bin op (opdOf x) (opdOf y) → aop env o.dst T s ao = some (v, s') → (∀ v' w', After ao o.dst s s' g μ w v v' w' → K (a.put o.dst v') w') → o.wp P a w K Q := by
      intro s' v ao hao h k
      subst hao
      simp only [aop, Option.bind_eq_some_iff, Option.map_eq_some_iff, Prod.mk.injEq] at h
      obtain ⟨ca, hca, cb, hcb, r, hr, rfl, rfl⟩ := h
      exact pure_wp rfl rfl hs (g_bin hop cx cy hca hcb hr) k
    have hB : ∀ (neg : Bool) {s' : St} {v : Av} {ao : AOp}, P.underlying t = some .bool → op = (if neg then .neq else .eql) → ao = .binB neg (opdOf x) (opdOf y) → aop env o.dst T s ao = some (v, s') → (∀ v' w', After ao o.dst s s' g μ w v v' w' → K (a.put o.dst v') w') → o.wp P a w K Q := by
      intro neg s' v ao ht hn hao h k
      subst hao
      simp only [aop, Option.bind_eq_some_iff, Option.map_eq_some_iff, Prod.mk.injEq] at h
      obtain ⟨ca, hca, cb, hcb, rfl, rfl⟩ := h
      exact pure_wp rfl rfl hs (g_binB hop ht cx cy hca hcb neg hn) k
    have hS : ∀ (neg : Bool) {fs : Array Field} {ks : List Nat} {s' : St} {v : Av} {ao : AOp}, P.underlying t = some (.struct fs) → flatKs P 0 fs.toList = some ks → P.stoodInHeld t = false ∧ P.eqGuardType P.depth t = false → op = (if neg then .neq else .eql) → ao = .binS ks neg (opdOf x) (opdOf y) → aop env o.dst T s ao = some (v, s') → (∀ v' w', After ao o.dst s s' g μ w v v' w' → K (a.put o.dst v') w') → o.wp P a w K Q := by
      intro neg fs ks s' v ao ht hks hst hn hao h k
      subst hao
      simp only [aop, Option.bind_eq_some_iff, Option.map_eq_some_iff, Prod.mk.injEq] at h
      obtain ⟨ca, hca, cb, hcb, r, hr, rfl, rfl⟩ := h
      exact pure_wp rfl rfl hs (g_binS hop ht hks hst.1 hst.2 cx cy hca hcb hr neg hn) k
    simp only [hop, stripOp] at h k
    split at h
    · split at h
      · rename_i ht
        simp only [ht] at k
        exact hbin rfl h k
      · rename_i ht
        simp only [ht] at k
        exact hbin rfl h k
      · rename_i ht
        simp only [ht] at k
        exact hB false ht rfl rfl h k
      · rename_i fs ht
        simp only [ht] at k
        split at h
        · rename_i ks hks
          simp only [hks] at k
          split at h
          · rename_i hcond
            simp only [hcond, and_self, if_true] at k
            exact hS false ht hks hcond rfl rfl h k
          · simp [aop] at h
        · simp [aop] at h
      · simp [aop] at h
    · split at h
      · rename_i ht
        simp only [ht] at k
        exact hbin rfl h k
      · rename_i ht
        simp only [ht] at k
        exact hbin rfl h k
      · rename_i ht
        simp only [ht] at k
        exact hB true ht rfl rfl h k
      · rename_i fs ht
        simp only [ht] at k
        split at h
        · rename_i ks hks
          simp only [hks] at k
          split at h
          · rename_i hcond
            simp only [hcond, and_self, if_true] at k
            exact hS true ht hks hcond rfl rfl h k
          · simp [aop] at h
        · simp [aop] at h
      · simp [aop] at h
    · rename_i h1 h2
      cases op <;> first | exact hbin rfl h k | exact absurd rfl h1 | exact absurd rfl h2
  | unOp op t x =>
    simp only [hop, stripOp] at h hnewK k
    simp only [aop, Option.map_eq_some_iff, Prod.mk.injEq] at h
    obtain ⟨r, hr, rfl, rfl⟩ := h
    exact pure_wp rfl rfl hs (g_un hop (hops x (by simp [hop, Op.operands])) hr) k
  | convert sT dT x =>
    simp only [hop, stripOp] at h hnewK k hread
    split at h
    · rename_i k0 k1 h1 h2
      simp only [h1, h2] at hnewK k
      simp only [aop, Option.map_eq_some_iff, Prod.mk.injEq] at h
      obtain ⟨n, hn, rfl, rfl⟩ := h
      exact pure_wp rfl rfl hs (g_conv hop h1 h2 (hops x (by simp [hop, Op.operands])) hn) k
    · rename_i e h1 h2
      simp only [h1, h2] at hnewK k hread
      split at h
      · rename_i he
        simp only [he] at hnewK k hread
        simp only [aop, Option.bind_eq_some_iff, Option.map_eq_some_iff, Prod.mk.injEq] at h
        obtain ⟨c, hc, l, hl, b, hb, rfl, rfl⟩ := h
        refine pure_wp rfl rfl hs (g_convSB hop h1 h2 he (s := s) ?_ hs (hops x (by simp [hop, Op.operands])) hc hl hb) k
        rintro q r ⟨off, n, m, rfl⟩ hr
        rw [hread q (by simp only [readKey, ev_ce hc])]
        exact hr
      · simp [aop] at h
    · simp [aop] at h
  | makeFunc fn first captured =>
    cases fn with
    | func f =>
      simp only [hop, stripOp] at h hnewK k
      split at h
      · rename_i hf
        simp only [hf, if_true] at hnewK k
        simp only [aop, Option.map_eq_some_iff, Prod.mk.injEq] at h
        obtain ⟨l, hl, rfl, rfl⟩ := h
        exact pure_wp rfl rfl hs (g_mkfn hop hf (fun X hX => hops X (by simp only [hop, Op.operands]; simp at hX ⊢; exact .inr hX)) hl) k
      · simp [aop] at h
    | _ => simp [hop, stripOp, aop] at h
  | makeSlice t l c =>
    simp only [hop, stripOp] at h hnewK k
    split at h
    · rename_i e ht
      simp only [ht] at hnewK k
      split at h
      · rename_i n z hn hz
        simp only [hn, hz] at hnewK k
        split at h
        · rename_i hcond
          obtain ⟨h1, h2, h3⟩ := id hcond
          simp only [hcond, if_true] at hnewK k
          simp only [aop, Option.bind_eq_some_iff] at h
          obtain ⟨m, hm, m', hm', h⟩ := h
          split at h
          · rename_i hc2
            obtain ⟨rfl, h4, h5⟩ := hc2
            simp only [Option.some.injEq, Prod.mk.injEq] at h
            obtain ⟨rfl, rfl⟩ := h
            have hk : newKey o.dst s (.make n z (opdOf l) (opdOf c)) = some (.inr s.h.nx) := rfl
            exact makes_wp rfl hk get_push_self (hnewK _ hk) hs (m_make hop ht hn hz h1 h2 h3 (hops l (by simp [hop, Op.operands])) (hops c (by simp [hop, Op.operands])) hm hm' h4 h5 _) k
          · simp at h
        · simp [aop] at h
      · simp [aop] at h
    · simp [aop] at h
  | slice t x lo hi mx =>
    simp only [hop, stripOp] at h hnewK k
    have clo : OptCon μ T a.eval lo := opt_con fun X hX => hops X (by simp [hop, Op.operands, hX])
    have chi : OptCon μ T a.eval hi := opt_con fun X hX => hops X (by simp [hop, Op.operands, hX])
    have cmx : OptCon μ T a.eval mx := opt_con fun X hX => hops X (by simp [hop, Op.operands, hX])
    split at h
    · rename_i e h1
      simp only [h1] at hnewK k
      split at h
      · rename_i n h2
        simp only [h2] at hnewK k
        simp only [aop, Option.bind_eq_some_iff] at h
        obtain ⟨c, hc, m, hm, mm, hmm, hh, hhh, l, hl, h⟩ := h
        split at h
        · rename_i hcond
          obtain ⟨c1, c2, c3, c4⟩ := hcond
          split at h
          · simp only [Option.some.injEq, Prod.mk.injEq] at h
            obtain ⟨rfl, rfl⟩ := h
            rename_i q off n' md
            simp only [Ce.slen, Option.some.injEq] at hm
            subst hm
            exact pure_wp rfl rfl hs (g_slice hop h1 h2 (hops x (by simp [hop, Op.operands])) clo chi cmx hc rfl hmm hhh hl c1 c2 c3 c4 (.inr ⟨_, _, _, rfl, rfl⟩)) k
          · simp only [Option.some.injEq, Prod.mk.injEq] at h
            obtain ⟨rfl, rfl⟩ := h
            exact pure_wp rfl rfl hs (g_slice hop h1 h2 (hops x (by simp [hop, Op.operands])) clo chi cmx hc hm hmm hhh hl c1 c2 c3 c4 (.inl ⟨rfl, rfl⟩)) k
          · simp at h
        · simp at h
      · simp [aop] at h
    · rename_i h1
      simp only [h1] at hnewK k
      split at h
      · rename_i hnone
        simp only [hnone, if_true] at hnewK k
        have : mx = none := by simpa using hnone
        subst this
        simp only [aop, Option.bind_eq_some_iff] at h
        obtain ⟨st, hst, hh, hhh, l, hl, h⟩ := h
        split at h
        · rename_i hcond
          obtain ⟨c1, c2, c3⟩ := hcond
          simp only [Option.some.injEq, Prod.mk.injEq] at h
          obtain ⟨rfl, rfl⟩ := h
          exact pure_wp rfl rfl hs (g_sliceS hop h1 (hops x (by simp [hop, Op.operands])) clo chi hst hhh hl c1 c2 c3) k
        · simp at h
      · simp [aop] at h
    · simp [aop] at h
  | fieldAddr sT x f =>
    simp only [hop, stripOp] at h hnewK k
    split at h
    · rename_i fs h1
      simp only [h1] at hnewK k
      split at h
      · rename_i fd h2
        simp only [h2] at hnewK k
        split at h
        · rename_i n h3
          simp only [h3] at hnewK k
          split at h
          · simp [aop] at h
          · rename_i h4
            simp only [h4, if_false] at hnewK k
            simp only [aop, Option.map_eq_some_iff, Prod.mk.injEq] at h
            obtain ⟨p, hp, rfl, rfl⟩ := h
            exact pure_wp rfl rfl hs (g_faddr hop h1 h2 h3 h4 (hops x (by simp [hop, Op.operands])) hp) k
        · simp [aop] at h
      · simp [aop] at h
    · simp [aop] at h
  | indexAddr t x i =>
    simp only [hop, stripOp] at h hnewK k
    split at h
    · rename_i e h1
      simp only [h1] at hnewK k
      split at h
      · rename_i n h2
        simp only [h2] at hnewK k
        simp only [aop, Option.bind_eq_some_iff] at h
        obtain ⟨j, hj, h⟩ := h
        split at h
        · rename_i q off len m hx
          split at h
          · rename_i hcond
            simp only [Option.some.injEq, Prod.mk.injEq] at h
            obtain ⟨rfl, rfl⟩ := h
            exact pure_wp rfl rfl hs (g_iaddr hop h1 h2 (hops x (by simp [hop, Op.operands])) (hops i (by simp [hop, Op.operands])) hx hj hcond.1 hcond.2) k
          · simp at h
        · simp at h
      · simp [aop] at h
    · simp [aop] at h
  | index t x i =>
    simp only [hop, stripOp] at h hnewK k
    split at h
    · rename_i h1
      simp only [h1] at hnewK k
      simp only [aop, Option.bind_eq_some_iff] at h
      obtain ⟨st, hst, j, hj, h⟩ := h
      split at h
      · rename_i h0
        simp only [Option.map_eq_some_iff, Prod.mk.injEq] at h
        obtain ⟨b, hb, rfl, rfl⟩ := h
        exact pure_wp rfl rfl hs (g_indexS hop h1 (hops x (by simp [hop, Op.operands])) (hops i (by simp [hop, Op.operands])) hst hj h0 hb) k
      · simp at h
    · simp [aop] at h
  | extract x i =>
    simp only [hop, stripOp] at h hnewK k
    simp only [aop] at h
    split at h
    · rename_i l hl
      simp only [Option.map_eq_some_iff, Prod.mk.injEq] at h
      obtain ⟨t, ht, rfl, rfl⟩ := h
      exact pure_wp rfl rfl hs (g_extract hop (hops x (by simp [hop, Op.operands])) hl ht) k
    · simp at h
  | call c =>
    have hargs : ∀ X ∈ c.args.toList, ConA μ (ev T (opdOf X)) (a.eval X) := fun X hX => hops X (by simp only [hop, Op.operands, Call.operands]; simp; exact .inr (by simpa using hX))
    simp only [hop, stripOp] at h hnewK k hheavy
    split at h
    · rename_i f hc
      simp only [hc] at hnewK k hheavy
      obtain rfl := hheavy rfl
      simp only [aop] at h
      refine call_wp henv (ao := .call f (opdsOf c.args.toList)) rfl hs (opds_cons hargs) h hnew hwf (fun hen => ?_) k
      have := resolve_run (P := P) (w := w) (a := a) hc hen hop
      rw [this, ← Array.toList_map, Array.toArray_toList]
    · rename_i x hx hc
      have hV : ∀ {ao : AOp}, ao = .callV (opdOf x) (opdsOf c.args.toList) → (ao.heavy = true → g = s.get) → (∀ v' w', After ao o.dst s s' g μ w v v' w' → K (a.put o.dst v') w') → o.wp P a w K Q := by
        intro ao hao hheavy k
        subst hao
        obtain rfl := hheavy rfl
        simp only [aop] at h
        split at h
        · rename_i f ps hf
          have hxv := hops x (by simp [hop, Op.operands, Call.operands, hc])
          rw [hf] at hxv
          obtain ⟨l, hl, hps⟩ := hxv
          refine call_wp henv (ao := .callV (opdOf x) (opdsOf c.args.toList)) rfl hs ((opds_cons hargs).append hps.as) h hnew hwf (fun hen => ?_) k
          obtain ⟨fn, hfn, hn, hb⟩ := hen
          have hn' : ¬ (fn.name = "runtime.NumGoroutine") := by
            intro h
            simp [h] at hn
          have hb' : ¬ (fn.body = none) := by
            intro h
            simp [h] at hb
          have he : (c.args.toList.map a.eval ++ l).toArray = c.args.map a.eval ++ l.toArray := by
            rw [← Array.toList_map]
            simp
          rw [he]
          simp [execOp, hop, hc, resolve, hl, Deferred.ofValue, invoke, callFunc, program, Sem.run, hfn, hn', hb']
        · simp at h
      cases x with
      | func f => exact absurd rfl (hx f)
      | tmp t => simp only [hc] at k hheavy; exact hV rfl hheavy k
      | const v => simp only [hc] at k hheavy; exact hV rfl hheavy k
      | global gg => simp only [hc] at k hheavy; exact hV rfl hheavy k
    · rename_i hc
      simp only [hc] at hnewK k
      split at h
      · rename_i x t hxs hts
        simp only [hxs, hts] at hnewK k
        split at h
        · rename_i e hu
          simp only [hu] at hnewK k
          have hcx := hargs x (by simp [hxs])
          simp only [aop] at h
          split at h
          · rename_i hx
            simp only [Option.some.injEq, Prod.mk.injEq] at h
            obtain ⟨rfl, rfl⟩ := h
            exact pure_wp rfl rfl hs (g_len (n := 0) hop hc hxs hts hu hcx (.inl ⟨hx, rfl⟩)) k
          · rename_i q off n m hx
            simp only [Option.some.injEq, Prod.mk.injEq] at h
            obtain ⟨rfl, rfl⟩ := h
            exact pure_wp rfl rfl hs (g_len hop hc hxs hts hu hcx (.inr ⟨q, off, m, hx⟩)) k
          · simp at h
        · rename_i hu
          simp only [hu] at hnewK k
          have hcx := hargs x (by simp [hxs])
          simp only [aop, Option.map_eq_some_iff, Prod.mk.injEq] at h
          obtain ⟨st, hst, rfl, rfl⟩ := h
          exact pure_wp rfl rfl hs (g_lenS hop hc hxs hts hu hcx hst) k
        · simp [aop] at h
      · simp [aop] at h
    · rename_i hc
      simp only [hc] at hnewK k hheavy
      split at h
      · rename_i x y t u hxs hts
        simp only [hxs, hts] at hnewK k hheavy
        split at h
        · rename_i e e' h1 h2
          simp only [h1, h2] at hnewK k hheavy
          split at h
          · rename_i n z h3 h4
            simp only [h3, h4] at hnewK k hheavy
            split at h
            · rename_i hcond
              obtain ⟨c1, c2, c3⟩ := id hcond
              simp only [hcond, and_self, if_true] at hnewK k hheavy
              obtain rfl := hheavy rfl
              simp only [aop, Option.bind_eq_some_iff, Option.map_eq_some_iff, Prod.mk.injEq] at h
              obtain ⟨ca, hca, cb, hcb, ⟨r, s2⟩, hap, rfl, rfl⟩ := h
              obtain ⟨v', w', μ', hrun, hcon, hpost⟩ := h_append hop hc hxs hts h1 h2 h3 h4 c1 c3 hs (hargs x (by simp [hxs])) (hargs y (by simp [hxs])) hca hcb hap (fun he => hnew _ (Nat.le_refl _) (by have he' : s2.h.nx = s.h.nx + 1 := he; show s.h.nx < s2.h.nx; omega))
              refine value_wp hrun (k v' w' ⟨μ', hcon, hpost.le, ?_, hpost.frm, ?_⟩)
              · simp only [outMem, AOp.heavy, if_true]
                exact hpost.sim
              · intro q pl hq
                rcases hpost.new q pl hq with h5 | ⟨h5, h6⟩
                · exact .inl h5
                · exact .inr ⟨.inl h5, h6⟩
            · simp [aop] at h
          · simp [aop] at h
        · simp [aop] at h
      · simp [aop] at h
    · rename_i hc
      simp only [hc] at hnewK k
      simp only [aop, Option.bind_eq_some_iff] at h
      obtain ⟨l, hl, h⟩ := h
      split at h
      · simp at h
      · simp only [Option.some.injEq, Prod.mk.injEq] at h
        obtain ⟨rfl, rfl⟩ := h
        exact pure_wp rfl rfl hs (g_maxs hop hc hargs hl) k
    · rename_i hc
      simp only [hc] at hnewK k
      simp only [aop, Option.bind_eq_some_iff] at h
      obtain ⟨l, hl, h⟩ := h
      split at h
      · simp at h
      · simp only [Option.some.injEq, Prod.mk.injEq] at h
        obtain ⟨rfl, rfl⟩ := h
        exact pure_wp rfl rfl hs (g_mins hop hc hargs hl) k
    · simp [aop] at h
  | _ => simp [hop, stripOp, aop] at h

end Go.Abs

/-
  What an operation leaves of the abstract memory; the state of a function under way; a region in the text's order.
-/

namespace Go.Abs

variable {P : Program}

def Keeps (s s' : St) (new : Key → Prop) : Prop := ∀ q r', s'.get q = some r' → (∃ r, s.get q = some r ∧ r.rw = r'.rw) ∨ new q

theorem keeps_same (s : St) (new : Key → Prop) : Keeps s s new := fun q r' h => .inl ⟨r', h, rfl⟩

theorem appendA_keeps {s s' : St} {sz : Nat} {x y r : Ce} (h : appendA s sz x y = some (r, s')) : s.h.nx ≤ s'.h.nx ∧ Keeps s s' (newOf s.h.nx s'.h.nx) := by
  have push_keeps : ∀ (s1 : St) (row : Row), s1.h.nx = s.h.nx → (∀ q r', s1.get q = some r' → ∃ r, s.get q = some r ∧ r.rw = r'.rw) → Keeps s (s1.push row) (newOf s.h.nx (s1.push row).h.nx) := by
    intro s1 row hn hk q r' hq
    rw [get_push] at hq
    unfold upg at hq
    split at hq
    · rename_i he
      exact .inr ⟨s1.h.nx, he, by omega, Nat.lt_succ_self _⟩
    · exact .inl (hk q r' hq)
  have hnx := appendA_nx h
  refine ⟨by rcases hnx with h1 | ⟨h1, _⟩; · omega
             · rw [h1]; exact Nat.le_refl _, ?_⟩
  unfold appendA at h
  split at h
  · split at h
    · split at h
      · simp only [Option.some.injEq, Prod.mk.injEq] at h
        rw [← h.2]
        exact keeps_same _ _
      · split at h
        · simp only [Option.some.injEq, Prod.mk.injEq] at h
          rw [← h.2]
          exact push_keeps s _ rfl (fun q r' h => ⟨r', h, rfl⟩)
        · simp at h
    · split at h
      · split at h
        · simp only [Option.some.injEq, Prod.mk.injEq] at h
          rw [← h.2]
          refine push_keeps _ _ nx_set (fun q r' h => ?_)
          rw [get_set_none] at h
          exact ⟨r', (kilm_some h).2, rfl⟩
        · simp at h
      · simp at h
    · split at h
      · split at h
        · simp only [Option.some.injEq, Prod.mk.injEq] at h
          rw [← h.2]
          exact push_keeps s _ rfl (fun q r' h => ⟨r', h, rfl⟩)
        · simp at h
      · simp at h
    · simp at h
  · simp at h

theorem callA_keeps {env : Env} (henv : EnvOk P env) {f : Nat} {xs : List Av} {s s' : St} {v : Av} (h : callA env f xs s = some (v, s')) : s.h.nx ≤ s'.h.nx ∧ Keeps s s' (newOf s.h.nx s'.h.nx) := by
  unfold callA at h
  split at h
  · rename_i F hF
    split at h
    · obtain ⟨⟨v1, h1⟩, hf, he⟩ := Option.map_eq_some_iff.1 h
      simp only [Prod.mk.injEq] at he
      obtain ⟨rfl, rfl⟩ := he
      refine ⟨(henv f F hF).nx _ _ _ _ hf, ?_⟩
      intro q r' hq
      cases q with
      | inl k => exact .inl ⟨r', hq, rfl⟩
      | inr b =>
        by_cases hb : s.h.nx ≤ b ∧ b < h1.nx
        · exact .inr ⟨b, rfl, hb⟩
        · exact .inl ((henv f F hF).keeps _ _ _ _ b r' hf hb hq)
    · simp at h
  · simp at h

theorem aop_keeps {env : Env} (henv : EnvOk P env) {d : Option Nat} {T : Nat → Av} {s s' : St} {ao : AOp} {v : Av} (h : aop env d T s ao = some (v, s')) : s.h.nx ≤ s'.h.nx ∧ Keeps s s' (isNew ao d s s') := by
  have same : ∀ {x : Av}, (x, s) = (v, s') → s.h.nx ≤ s'.h.nx ∧ Keeps s s' (isNew ao d s s') := by
    intro x hx
    simp only [Prod.mk.injEq] at hx
    rw [← hx.2]
    exact ⟨Nat.le_refl _, keeps_same _ _⟩
  have lift : (s.h.nx ≤ s'.h.nx ∧ Keeps s s' (newOf s.h.nx s'.h.nx)) → s.h.nx ≤ s'.h.nx ∧ Keeps s s' (isNew ao d s s') := by
    rintro ⟨h1, h2⟩
    refine ⟨h1, fun q r' hq => ?_⟩
    rcases h2 q r' hq with h3 | h3
    · exact .inl h3
    · exact .inr (.inl h3)
  have locK : ∀ {dd : Nat} {row : Row}, newKey d s ao = some (.inl dd) → s' = s.set (.inl dd) (some row) → s.h.nx ≤ s'.h.nx ∧ Keeps s s' (isNew ao d s s') := by
    intro dd row hk he
    subst he
    refine ⟨Nat.le_refl _, fun q r' hq => ?_⟩
    rw [get_set] at hq
    unfold upg at hq
    split at hq
    · rename_i he; subst he; exact .inr (.inr hk)
    · exact .inl ⟨r', hq, rfl⟩
  have pushK : ∀ {row : Row}, s' = s.push row → s.h.nx ≤ s'.h.nx ∧ Keeps s s' (isNew ao d s s') := by
    intro row he
    subst he
    refine ⟨Nat.le_succ _, fun q r' hq => ?_⟩
    rw [get_push] at hq
    unfold upg at hq
    split at hq
    · rename_i he; exact .inr (.inl ⟨_, he, Nat.le_refl _, Nat.lt_succ_self _⟩)
    · exact .inl ⟨r', hq, rfl⟩
  cases ao with
  | mov x => simp only [aop, Option.some.injEq] at h; exact same h
  | pick c a b => simp only [aop, Option.map_eq_some_iff] at h; obtain ⟨_, _, h⟩ := h; exact same h
  | allocL n z =>
    simp only [aop, Option.map_eq_some_iff, Prod.mk.injEq] at h
    obtain ⟨dd, hd, _, h⟩ := h
    exact locK (by simp [newKey, hd]) h.symm
  | allocH n z => simp only [aop, Option.some.injEq, Prod.mk.injEq] at h; exact pushK h.2.symm
  | boxL n x =>
    simp only [aop, Option.bind_eq_some_iff] at h
    obtain ⟨dd, hd, t, _, h⟩ := h
    split at h
    · simp only [Option.some.injEq, Prod.mk.injEq] at h; exact locK (by simp [newKey, hd]) h.2.symm
    · simp at h
  | boxH n x =>
    simp only [aop, Option.bind_eq_some_iff] at h
    obtain ⟨t, _, h⟩ := h
    split at h
    · simp only [Option.some.injEq, Prod.mk.injEq] at h; exact pushK h.2.symm
    · simp at h
  | build z ps => simp only [aop, Option.map_eq_some_iff] at h; obtain ⟨_, _, h⟩ := h; exact same h
  | mkSlL n len z ps =>
    simp only [aop, Option.bind_eq_some_iff, Option.map_eq_some_iff, Prod.mk.injEq] at h
    obtain ⟨dd, hd, r, _, _, h⟩ := h
    exact locK (by simp [newKey, hd]) h.symm
  | mkSlH n len z ps =>
    simp only [aop, Option.map_eq_some_iff, Prod.mk.injEq] at h
    obtain ⟨r, _, _, h⟩ := h
    exact pushK h.symm
  | load1 x => simp only [aop, Option.bind_eq_some_iff, Option.map_eq_some_iff] at h; obtain ⟨_, _, _, _, _, _, h⟩ := h; exact same h
  | loadN n x =>
    simp only [aop, Option.bind_eq_some_iff] at h
    obtain ⟨_, _, _, _, h⟩ := h
    split at h
    · simp only [Option.some.injEq] at h; exact same h
    · simp at h
  | store n a x =>
    simp only [aop, Option.bind_eq_some_iff] at h
    obtain ⟨p, _, r, hr, t, _, h⟩ := h
    split at h
    · simp only [Option.some.injEq, Prod.mk.injEq] at h
      obtain ⟨_, rfl⟩ := h
      refine ⟨by rw [nx_set]; exact Nat.le_refl _, fun q r' hq => ?_⟩
      rw [get_set] at hq
      unfold upg at hq
      split at hq
      · rename_i he
        subst he
        obtain rfl := Option.some.inj hq
        exact .inl ⟨r, hr, rfl⟩
      · exact .inl ⟨r', hq, rfl⟩
    · simp at h
  | nilchk x => simp only [aop, Option.map_eq_some_iff] at h; obtain ⟨_, _, h⟩ := h; exact same h
  | bin op x y => simp only [aop, Option.bind_eq_some_iff, Option.map_eq_some_iff] at h; obtain ⟨_, _, _, _, _, _, h⟩ := h; exact same h
  | binB n x y => simp only [aop, Option.bind_eq_some_iff, Option.map_eq_some_iff] at h; obtain ⟨_, _, _, _, h⟩ := h; exact same h
  | binS ks n x y => simp only [aop, Option.bind_eq_some_iff, Option.map_eq_some_iff] at h; obtain ⟨_, _, _, _, _, _, h⟩ := h; exact same h
  | un op x => simp only [aop, Option.map_eq_some_iff] at h; obtain ⟨_, _, h⟩ := h; exact same h
  | conv k x => simp only [aop, Option.map_eq_some_iff] at h; obtain ⟨_, _, h⟩ := h; exact same h
  | convSB x => simp only [aop, Option.bind_eq_some_iff, Option.map_eq_some_iff] at h; obtain ⟨_, _, _, _, _, _, h⟩ := h; exact same h
  | mkfn f ps => simp only [aop, Option.map_eq_some_iff] at h; obtain ⟨_, _, h⟩ := h; exact same h
  | make n z l c =>
    simp only [aop, Option.bind_eq_some_iff] at h
    obtain ⟨_, _, _, _, h⟩ := h
    split at h
    · simp only [Option.some.injEq, Prod.mk.injEq] at h; exact pushK h.2.symm
    · simp at h
  | slice n x lo hi mx =>
    simp only [aop, Option.bind_eq_some_iff] at h
    obtain ⟨_, _, _, _, _, _, _, _, _, _, h⟩ := h
    split at h
    · split at h
      · simp only [Option.some.injEq] at h; exact same h
      · simp only [Option.some.injEq] at h; exact same h
      · simp at h
    · simp at h
  | sliceS x lo hi =>
    simp only [aop, Option.bind_eq_some_iff] at h
    obtain ⟨_, _, _, _, _, _, h⟩ := h
    split at h
    · simp only [Option.some.injEq] at h; exact same h
    · simp at h
  | faddr off x => simp only [aop, Option.map_eq_some_iff] at h; obtain ⟨_, _, h⟩ := h; exact same h
  | iaddr n x i =>
    simp only [aop, Option.bind_eq_some_iff] at h
    obtain ⟨_, _, h⟩ := h
    split at h
    · split at h
      · simp only [Option.some.injEq] at h; exact same h
      · simp at h
    · simp at h
  | indexS x i =>
    simp only [aop, Option.bind_eq_some_iff] at h
    obtain ⟨_, _, _, _, h⟩ := h
    split at h
    · simp only [Option.map_eq_some_iff] at h; obtain ⟨_, _, h⟩ := h; exact same h
    · simp at h
  | extract x i =>
    simp only [aop] at h
    split at h
    · simp only [Option.map_eq_some_iff] at h; obtain ⟨_, _, h⟩ := h; exact same h
    · simp at h
  | call f xs => simp only [aop] at h; exact lift (callA_keeps henv h)
  | callV f xs =>
    simp only [aop] at h
    split at h
    · exact lift (callA_keeps henv h)
    · simp at h
  | len x =>
    simp only [aop] at h
    split at h
    · simp only [Option.some.injEq] at h; exact same h
    · simp only [Option.some.injEq] at h; exact same h
    · simp at h
  | lenS x => simp only [aop, Option.map_eq_some_iff] at h; obtain ⟨_, _, h⟩ := h; exact same h
  | append n x y =>
    simp only [aop, Option.bind_eq_some_iff, Option.map_eq_some_iff, Prod.mk.injEq] at h
    obtain ⟨_, _, _, _, ⟨r, s2⟩, hap, _, rfl⟩ := h
    exact lift (appendA_keeps hap)
  | maxs xs =>
    simp only [aop, Option.bind_eq_some_iff] at h
    obtain ⟨_, _, h⟩ := h
    split at h
    · simp at h
    · simp only [Option.some.injEq] at h; exact same h
  | mins xs =>
    simp only [aop, Option.bind_eq_some_iff] at h
    obtain ⟨_, _, h⟩ := h
    split at h
    · simp at h
    · simp only [Option.some.injEq] at h; exact same h
  | bad => simp [aop] at h

end Go.Abs

/-
  The state of a function under way, in the abstract machine and in the model; a region in the text's order.
-/

namespace Go.Abs

variable {P : Program}

structure Glob (μ0 : Mp) (h0 : Heap) (w0 : World) (μ : Mp) (g : Mem) (top : Nat) (w : World) : Prop where
  le : ∀ b pl, μ0 (.inr b) = some pl → μ (.inr b) = some pl
  frm : Frm μ0 h0.get w0 w
  new : ∀ q pl, μ q = some pl → μ0 q = some pl ∨ (((∃ k, q = .inl k) ∨ newOf h0.nx top q) ∧ (w0.heap.size ≤ pl.B ∨ ∃ q0 pl0 r0, μ0 q0 = some pl0 ∧ h0.get q0 = some r0 ∧ r0.rw = true ∧ pl0.B = pl.B))
  keeps : ∀ b r', g (.inr b) = some r' → (∃ r, h0.hp b = some r ∧ r.rw = r'.rw) ∨ (h0.nx ≤ b ∧ b < top)

def KeepsM (g g' : Mem) (new : Key → Prop) : Prop := ∀ q r', g' q = some r' → (∃ r, g q = some r ∧ r.rw = r'.rw) ∨ new q

/-- What stands fast while a function is under way: where it began. -/
structure Start where
  μ0 : Mp
  h0 : Heap
  w0 : World
  N : Nat
  n : Nat
  loc : ∀ k, μ0 (.inl k) = none
  fresh : ∀ b, h0.nx ≤ b → b < N → μ0 (.inr b) = none

structure Rel (B : Start) (μ : Mp) (T : Nat → Av) (s : St) (a : Act) (w : World) : Prop where
  sim : Sim μ s.get w
  slots : ∀ t, ConA μ (T t) (a.tmps.getD t undef)
  defers : a.defers = []
  size : B.n ≤ a.tmps.size
  fresh : ∀ b, s.h.nx ≤ b → b < B.N → μ (.inr b) = none
  nx0 : B.h0.nx ≤ s.h.nx
  nxN : s.h.nx ≤ B.N
  glob : Glob B.μ0 B.h0 B.w0 μ s.get s.h.nx w
  wf : ∀ b, s.h.nx ≤ b → s.h.hp b = none

theorem Glob.live {B : Start} {μ : Mp} {g : Mem} {top : Nat} {w : World} (h : Glob B.μ0 B.h0 B.w0 μ g top w) (hN : top ≤ B.N) {q : Key} {pl : Place} {r : Row} (hq : μ q = some pl) (hr : g q = some r) (hrw : r.rw = true) :
    B.w0.heap.size ≤ pl.B ∨ ∃ q0 pl0 r0, B.μ0 q0 = some pl0 ∧ B.h0.get q0 = some r0 ∧ r0.rw = true ∧ pl0.B = pl.B := by
  rcases h.new q pl hq with h1 | ⟨_, h2⟩
  · cases q with
    | inl k => rw [B.loc k] at h1; cases h1
    | inr b =>
      rcases h.keeps b r hr with ⟨r0, hr0, he⟩ | ⟨h3, h4⟩
      · exact .inr ⟨.inr b, pl, r0, h1, hr0, he.trans hrw, rfl⟩
      · rw [B.fresh b h3 (by omega)] at h1; cases h1
  · exact h2

theorem Glob.step {B : Start} {μ μ' : Mp} {g g1 g' : Mem} {top top' : Nat} {w w' : World} {new : Key → Prop} (h : Glob B.μ0 B.h0 B.w0 μ g top w) (hN : top ≤ B.N) (ht : top ≤ top') (hp : Post μ g1 g' w μ' w' new)
    (hg1 : ∀ q pl r, μ q = some pl → g1 q = some r → r.rw = true → ∃ r2, g q = some r2 ∧ r2.rw = true) {g2 : Mem}
    (hk : ∀ b r', g2 (.inr b) = some r' → (∃ r, B.h0.hp b = some r ∧ r.rw = r'.rw) ∨ (B.h0.nx ≤ b ∧ b < top')) (hnew : ∀ q, new q → (∃ k, q = .inl k) ∨ newOf B.h0.nx top' q) : Glob B.μ0 B.h0 B.w0 μ' g2 top' w' := by
  have live1 : ∀ q pl r, μ q = some pl → g1 q = some r → r.rw = true → B.w0.heap.size ≤ pl.B ∨ ∃ q0 pl0 r0, B.μ0 q0 = some pl0 ∧ B.h0.get q0 = some r0 ∧ r0.rw = true ∧ pl0.B = pl.B := by
    intro q pl r hq hr hrw
    obtain ⟨r2, hr2, hrw2⟩ := hg1 q pl r hq hr hrw
    exact h.live hN hq hr2 hrw2
  refine ⟨fun b pl hb => hp.le _ _ (h.le b pl hb), ?_, ?_, hk⟩
  · refine ⟨hp.frm.os.trans h.frm.os, hp.frm.tape.trans h.frm.tape, hp.frm.output.trans h.frm.output, Nat.le_trans h.frm.size hp.frm.size, ?_⟩
    intro C hC hne
    rw [hp.frm.block C (Nat.lt_of_lt_of_le hC h.frm.size) ?_, h.frm.block C hC hne]
    intro q pl r hq hr hrw hB
    rcases live1 q pl r hq hr hrw with h1 | ⟨q0, pl0, r0, g1, g2, g3, g4⟩
    · omega
    · exact hne q0 pl0 r0 g1 g2 g3 (g4.trans hB)
  · intro q pl hq
    rcases hp.new q pl hq with h1 | ⟨h1, h2⟩
    · rcases h.new q pl h1 with h3 | ⟨h3, h4⟩
      · exact .inl h3
      · refine .inr ⟨?_, h4⟩
        rcases h3 with h3 | ⟨b, rfl, h5, h6⟩
        · exact .inl h3
        · exact .inr ⟨b, rfl, h5, by omega⟩
    · refine .inr ⟨hnew q h1, ?_⟩
      rcases h2 with h2 | ⟨q0, pl0, r0, k1, k2, k3, k4⟩
      · exact .inl (Nat.le_trans h.frm.size h2)
      · rcases live1 q0 pl0 r0 k1 k2 k3 with h5 | ⟨q1, pl1, r1, m1, m2, m3, m4⟩
        · exact .inl (by omega)
        · exact .inr ⟨q1, pl1, r1, m1, m2, m3, m4.trans k4⟩

theorem put_getD (a : Act) (d : Option Nat) (v : Value) (n : Nat) (hn : n ≤ a.tmps.size) (hd : dstOk n d = true) (t : Nat) : (a.put d v).tmps.getD t undef = if d = some t then v else a.tmps.getD t undef := by
  cases d with
  | none => simp [Act.put]
  | some d =>
    simp only [dstOk, decide_eq_true_eq] at hd
    simp only [Act.put, Option.some.injEq, Array.getD_eq_getD_getElem?, Array.getElem?_setIfInBounds]
    by_cases h : d = t
    · subst h
      simp [show d < a.tmps.size by omega]
    · simp [h]
theorem put_size (a : Act) (d : Option Nat) (v : Value) : (a.put d v).tmps.size = a.tmps.size := by
  cases d <;> simp [Act.put]
theorem put_defers' (a : Act) (d : Option Nat) (v : Value) : (a.put d v).defers = a.defers := by
  cases d <;> rfl

theorem upo_get (T : Nat → Av) (d : Option Nat) (v : Av) (t : Nat) : upo T d v t = if d = some t then v else T t := by
  cases d with
  | none => simp [upo]
  | some d =>
    simp only [upo, upd, Option.some.injEq]
    by_cases h : t = d
    · subst h; simp
    · rw [if_neg h, if_neg (fun h' => h h'.symm)]

theorem isNew_kind {ao : AOp} {d : Option Nat} {s s' : St} (hn : s.h.nx ≤ s'.h.nx) (hh : ∀ b, newKey d s ao = some (.inr b) → b < s'.h.nx ∧ s.h.nx ≤ b) : ∀ q, isNew ao d s s' q → (∃ k, q = .inl k) ∨ newOf s.h.nx s'.h.nx q := by
  rintro q (h | h)
  · exact .inr h
  · cases q with
    | inl k => exact .inl ⟨k, rfl⟩
    | inr b => exact .inr ⟨b, rfl, (hh b h).2, (hh b h).1⟩

theorem newKey_hp {env : Env} {ao : AOp} {d : Option Nat} {T : Nat → Av} {s s' : St} {v : Av} (h : aop env d T s ao = some (v, s')) : ∀ b, newKey d s ao = some (.inr b) → b < s'.h.nx ∧ s.h.nx ≤ b := by
  intro b hb
  have push : ∀ {row : Row}, s' = s.push row → b = s.h.nx → b < s'.h.nx ∧ s.h.nx ≤ b := by
    intro row h1 h2
    subst h1 h2
    exact ⟨Nat.lt_succ_self _, Nat.le_refl _⟩
  cases ao with
  | allocH n z =>
    simp only [newKey, Option.some.injEq, Sum.inr.injEq] at hb
    simp only [aop, Option.some.injEq, Prod.mk.injEq] at h
    exact push h.2.symm hb.symm
  | boxH n x =>
    simp only [newKey, Option.some.injEq, Sum.inr.injEq] at hb
    simp only [aop, Option.bind_eq_some_iff] at h
    obtain ⟨t, _, h⟩ := h
    split at h
    · simp only [Option.some.injEq, Prod.mk.injEq] at h; exact push h.2.symm hb.symm
    · simp at h
  | mkSlH n len z ps =>
    simp only [newKey, Option.some.injEq, Sum.inr.injEq] at hb
    simp only [aop, Option.map_eq_some_iff, Prod.mk.injEq] at h
    obtain ⟨r, _, _, h⟩ := h
    exact push h.symm hb.symm
  | make n z l c =>
    simp only [newKey, Option.some.injEq, Sum.inr.injEq] at hb
    simp only [aop, Option.bind_eq_some_iff] at h
    obtain ⟨_, _, _, _, h⟩ := h
    split at h
    · simp only [Option.some.injEq, Prod.mk.injEq] at h; exact push h.2.symm hb.symm
    · simp at h
  | allocL n z => simp [newKey, Option.map_eq_some_iff] at hb
  | boxL n z => simp [newKey, Option.map_eq_some_iff] at hb
  | mkSlL n l z p => simp [newKey, Option.map_eq_some_iff] at hb
  | _ => simp [newKey] at hb

/-- A light operation leaves all but its new block as it was. -/
theorem light_mem {env : Env} {ao : AOp} {d : Option Nat} {T : Nat → Av} {s s' : St} {v : Av} (h : aop env d T s ao = some (v, s')) (hh : ao.heavy = false) : ∀ q, newKey d s ao ≠ some q → s'.get q = s.get q := by
  intro q hq
  have same : ∀ {x : Av}, (x, s) = (v, s') → s'.get q = s.get q := by
    intro x hx
    simp only [Prod.mk.injEq] at hx
    rw [← hx.2]
  have locK : ∀ {dd : Nat} {row : Row}, newKey d s ao = some (.inl dd) → s' = s.set (.inl dd) (some row) → s'.get q = s.get q := by
    intro dd row hk he
    subst he
    rw [get_set]
    unfold upg
    rw [if_neg (fun e => hq (by rw [hk, e]))]
  have pushK : ∀ {row : Row}, newKey d s ao = some (.inr s.h.nx) → s' = s.push row → s'.get q = s.get q := by
    intro row hk he
    subst he
    rw [get_push]
    unfold upg
    rw [if_neg (fun e => hq (by rw [hk, e]))]
  cases ao with
  | mov x => simp only [aop, Option.some.injEq] at h; exact same h
  | pick c a b => simp only [aop, Option.map_eq_some_iff] at h; obtain ⟨_, _, h⟩ := h; exact same h
  | allocL n z =>
    simp only [aop, Option.map_eq_some_iff, Prod.mk.injEq] at h
    obtain ⟨dd, hd, _, h⟩ := h
    exact locK (by simp [newKey, hd]) h.symm
  | allocH n z => simp only [aop, Option.some.injEq, Prod.mk.injEq] at h; exact pushK rfl h.2.symm
  | boxL n x =>
    simp only [aop, Option.bind_eq_some_iff] at h
    obtain ⟨dd, hd, t, _, h⟩ := h
    split at h
    · simp only [Option.some.injEq, Prod.mk.injEq] at h; exact locK (by simp [newKey, hd]) h.2.symm
    · simp at h
  | boxH n x =>
    simp only [aop, Option.bind_eq_some_iff] at h
    obtain ⟨t, _, h⟩ := h
    split at h
    · simp only [Option.some.injEq, Prod.mk.injEq] at h; exact pushK rfl h.2.symm
    · simp at h
  | build z ps => simp only [aop, Option.map_eq_some_iff] at h; obtain ⟨_, _, h⟩ := h; exact same h
  | mkSlL n len z ps =>
    simp only [aop, Option.bind_eq_some_iff, Option.map_eq_some_iff, Prod.mk.injEq] at h
    obtain ⟨dd, hd, r, _, _, h⟩ := h
    exact locK (by simp [newKey, hd]) h.symm
  | mkSlH n len z ps =>
    simp only [aop, Option.map_eq_some_iff, Prod.mk.injEq] at h
    obtain ⟨r, _, _, h⟩ := h
    exact pushK rfl h.symm
  | load1 x => simp only [aop, Option.bind_eq_some_iff, Option.map_eq_some_iff] at h; obtain ⟨_, _, _, _, _, _, h⟩ := h; exact same h
  | loadN n x =>
    simp only [aop, Option.bind_eq_some_iff] at h
    obtain ⟨_, _, _, _, h⟩ := h
    split at h
    · simp only [Option.some.injEq] at h; exact same h
    · simp at h
  | nilchk x => simp only [aop, Option.map_eq_some_iff] at h; obtain ⟨_, _, h⟩ := h; exact same h
  | bin op x y => simp only [aop, Option.bind_eq_some_iff, Option.map_eq_some_iff] at h; obtain ⟨_, _, _, _, _, _, h⟩ := h; exact same h
  | binB n x y => simp only [aop, Option.bind_eq_some_iff, Option.map_eq_some_iff] at h; obtain ⟨_, _, _, _, h⟩ := h; exact same h
  | binS ks n x y => simp only [aop, Option.bind_eq_some_iff, Option.map_eq_some_iff] at h; obtain ⟨_, _, _, _, _, _, h⟩ := h; exact same h
  | un op x => simp only [aop, Option.map_eq_some_iff] at h; obtain ⟨_, _, h⟩ := h; exact same h
  | conv k x => simp only [aop, Option.map_eq_some_iff] at h; obtain ⟨_, _, h⟩ := h; exact same h
  | convSB x => simp only [aop, Option.bind_eq_some_iff, Option.map_eq_some_iff] at h; obtain ⟨_, _, _, _, _, _, h⟩ := h; exact same h
  | mkfn f ps => simp only [aop, Option.map_eq_some_iff] at h; obtain ⟨_, _, h⟩ := h; exact same h
  | make n z l c =>
    simp only [aop, Option.bind_eq_some_iff] at h
    obtain ⟨_, _, _, _, h⟩ := h
    split at h
    · simp only [Option.some.injEq, Prod.mk.injEq] at h; exact pushK rfl h.2.symm
    · simp at h
  | slice n x lo hi mx =>
    simp only [aop, Option.bind_eq_some_iff] at h
    obtain ⟨_, _, _, _, _, _, _, _, _, _, h⟩ := h
    split at h
    · split at h
      · simp only [Option.some.injEq] at h; exact same h
      · simp only [Option.some.injEq] at h; exact same h
      · simp at h
    · simp at h
  | sliceS x lo hi =>
    simp only [aop, Option.bind_eq_some_iff] at h
    obtain ⟨_, _, _, _, _, _, h⟩ := h
    split at h
    · simp only [Option.some.injEq] at h; exact same h
    · simp at h
  | faddr off x => simp only [aop, Option.map_eq_some_iff] at h; obtain ⟨_, _, h⟩ := h; exact same h
  | iaddr n x i =>
    simp only [aop, Option.bind_eq_some_iff] at h
    obtain ⟨_, _, h⟩ := h
    split at h
    · split at h
      · simp only [Option.some.injEq] at h; exact same h
      · simp at h
    · simp at h
  | indexS x i =>
    simp only [aop, Option.bind_eq_some_iff] at h
    obtain ⟨_, _, _, _, h⟩ := h
    split at h
    · simp only [Option.map_eq_some_iff] at h; obtain ⟨_, _, h⟩ := h; exact same h
    · simp at h
  | extract x i =>
    simp only [aop] at h
    split at h
    · simp only [Option.map_eq_some_iff] at h; obtain ⟨_, _, h⟩ := h; exact same h
    · simp at h
  | len x =>
    simp only [aop] at h
    split at h
    · simp only [Option.some.injEq] at h; exact same h
    · simp only [Option.some.injEq] at h; exact same h
    · simp at h
  | lenS x => simp only [aop, Option.map_eq_some_iff] at h; obtain ⟨_, _, h⟩ := h; exact same h
  | maxs xs =>
    simp only [aop, Option.bind_eq_some_iff] at h
    obtain ⟨_, _, h⟩ := h
    split at h
    · simp at h
    · simp only [Option.some.injEq] at h; exact same h
  | mins xs =>
    simp only [aop, Option.bind_eq_some_iff] at h
    obtain ⟨_, _, h⟩ := h
    split at h
    · simp at h
    · simp only [Option.some.injEq] at h; exact same h
  | bad => simp [aop] at h
  | _ => simp [AOp.heavy] at hh

theorem outMem_self {env : Env} {ao : AOp} {d : Option Nat} {T : Nat → Av} {s s' : St} {v : Av} (h : aop env d T s ao = some (v, s')) : outMem ao d s s' s.get = s'.get := by
  unfold outMem
  cases hh : ao.heavy with
  | true => simp
  | false =>
    simp only [Bool.false_eq_true, if_false]
    funext q
    by_cases hq : newKey d s ao = some q
    · rw [if_pos hq]
    · rw [if_neg hq, light_mem h hh q hq]

theorem aop_wf {env : Env} (henv : EnvOk P env) {ao : AOp} {d : Option Nat} {T : Nat → Av} {s s' : St} {v : Av} (h : aop env d T s ao = some (v, s')) (hw : ∀ b, s.h.nx ≤ b → s.h.hp b = none) : ∀ b, s'.h.nx ≤ b → s'.h.hp b = none := by
  obtain ⟨hnx, hk⟩ := aop_keeps henv h
  intro b hb
  cases hr : s'.h.hp b with
  | none => rfl
  | some r' =>
    rcases hk (.inr b) r' hr with ⟨r, hr0, _⟩ | h1
    · have h2 := hw b (by omega)
      rw [show s.get (.inr b) = s.h.hp b from rfl, h2] at hr0
      cases hr0
    · rcases isNew_kind hnx (newKey_hp h) _ h1 with ⟨k, hk'⟩ | ⟨b', hb', h3, h4⟩
      · cases hk'
      · injection hb' with hb'
        omega

/-- One operation on. -/
theorem Rel.op {B : Start} {env : Env} (henv : EnvOk P env) {μ : Mp} {T : Nat → Av} {s s' : St} {a : Act} {w w' : World} {ao : AOp} {d : Option Nat} {v : Av} {v' : Value} (hR : Rel B μ T s a w) (hd : dstOk B.n d = true)
    (h : aop env d T s ao = some (v, s')) (hN : s'.h.nx ≤ B.N) (ha : After ao d s s' s.get μ w v v' w') :
    ∃ μ', Rel B μ' (upo T d v) s' (a.put d v') w' ∧ Le μ μ' ∧ (∀ k pl, μ' (.inl k) = some pl → μ (.inl k) = some pl ∨ newKey d s ao = some (.inl k)) := by
  obtain ⟨μ', hcon, hpost⟩ := ha
  rw [outMem_self h] at hpost
  obtain ⟨hnx, hkeeps⟩ := aop_keeps henv h
  have hkind := isNew_kind hnx (newKey_hp h)
  refine ⟨μ', ⟨hpost.sim, ?_, ?_, ?_, ?_, Nat.le_trans hR.nx0 hnx, hN, ?_, aop_wf henv h hR.wf⟩, hpost.le, ?_⟩
  · intro t
    rw [upo_get, put_getD a d v' B.n hR.size hd]
    split
    · exact hcon
    · exact (hR.slots t).le hpost.le
  · rw [put_defers']; exact hR.defers
  · rw [put_size]; exact hR.size
  · intro b h1 h2
    cases hb : μ' (.inr b) with
    | none => rfl
    | some pl =>
      rcases hpost.new _ _ hb with h3 | ⟨h3, _⟩
      · rw [hR.fresh b (by omega) h2] at h3; cases h3
      · rcases h3 with ⟨b', he, _, h4⟩ | h3
        · injection he with he
          omega
        · have := (newKey_hp h b h3).1
          omega
  · refine hR.glob.step hR.nxN hnx hpost (fun q pl r _ hr hrw => ⟨r, hr, hrw⟩) ?_ ?_
    · intro b r' hr'
      rcases hkeeps (.inr b) r' hr' with ⟨r, hr, he⟩ | h1
      · rcases hR.glob.keeps b r hr with ⟨r0, hr0, he0⟩ | ⟨h3, h4⟩
        · exact .inl ⟨r0, hr0, he0.trans he⟩
        · exact .inr ⟨h3, by omega⟩
      · rcases hkind _ h1 with ⟨k, hk'⟩ | ⟨b', hb, h3, h4⟩
        · cases hk'
        · injection hb with hb
          subst hb
          exact .inr ⟨Nat.le_trans hR.nx0 h3, h4⟩
    · intro q hq
      rcases hkind q hq with h3 | ⟨b, rfl, h3, h4⟩
      · exact .inl h3
      · exact .inr ⟨b, rfl, Nat.le_trans hR.nx0 h3, h4⟩
  · intro k pl hk
    rcases hpost.new _ _ hk with h3 | ⟨h3 | h3, _⟩
    · exact .inl h3
    · obtain ⟨b, he, _⟩ := h3; cases he
    · exact .inr h3

theorem Rel.skip {B : Start} {μ : Mp} {T : Nat → Av} {s : St} {a : Act} {w : World} {d : Option Nat} (hR : Rel B μ T s a w) (hd : dstOk B.n d = true) : Rel B μ (upo T d (.tup [])) s (a.put d undef) w := by
  refine ⟨hR.sim, ?_, by rw [put_defers']; exact hR.defers, by rw [put_size]; exact hR.size, hR.fresh, hR.nx0, hR.nxN, hR.glob, hR.wf⟩
  intro t
  rw [upo_get, put_getD a d undef B.n hR.size hd]
  split
  · exact ⟨[], rfl, trivial⟩
  · exact hR.slots t

/-- Is an operation carried out? As the abstract machine says. -/
theorem wanted_of {T : Nat → Av} {a : Act} {μ : Mp} {ops : Array Oper} {o : Oper} {g : Option (Nat × Bool)} {ao : AOp} {d : Option Nat} {b : Bool} (hg : guardOf ops o.guard = some g) (hs : ∀ t b', g = some (t, b') → ConA μ (T t) (a.tmps.getD t undef))
    (h : wantedA T ⟨d, ao, g⟩ = some b) : Region.wanted o (yielded ops a.tmps) = b := by
  unfold guardOf at hg
  unfold Region.wanted
  cases hog : o.guard with
  | none =>
    rw [hog] at hg
    simp only [Option.some.injEq] at hg
    subst hg
    simpa [wantedA] using h
  | some jb =>
    obtain ⟨j, bb⟩ := jb
    rw [hog] at hg
    simp only [Option.map_eq_some_iff] at hg
    obtain ⟨t, ht, rfl⟩ := hg
    have hc := hs t bb rfl
    simp only [wantedA] at h
    split at h
    · rename_i x hx
      rw [hx] at hc
      have hv : a.tmps.getD t undef = .bool x := hc
      have hv2 : a.tmps[t]? = some (.bool x) := by
        rw [Array.getD_eq_getD_getElem?] at hv
        cases hq : a.tmps[t]? with
        | none => rw [hq] at hv; simp [undef] at hv
        | some u => rw [hq] at hv; simpa using hv
      simp only [Option.some.injEq] at h
      simp only [yielded, ht, Option.bind_some, hv2]
      rw [← h]
      cases x <;> cases bb <;> rfl
    · rename_i l hx
      rw [hx] at hc
      obtain ⟨vs, hv, _⟩ := hc
      simp only [Option.some.injEq] at h
      subst h
      simp only [yielded, ht, Option.bind_some]
      rw [Array.getD_eq_getD_getElem?] at hv
      cases hq : a.tmps[t]? with
      | none => rfl
      | some u =>
        rw [hq] at hv
        simp only [Option.getD_some] at hv
        subst hv
        rfl
    · simp at h

theorem slot_ops {T : Nat → Av} {a : Act} {μ : Mp} (hs : ∀ t, ConA μ (T t) (a.tmps.getD t undef)) (X : Operand) : ConA μ (ev T (opdOf X)) (a.eval X) := by
  cases X with
  | tmp t => exact hs t
  | const v =>
    show ConA μ (avOf v) v
    unfold avOf
    split
    · rename_i c hc
      unfold ceOf at hc
      split at hc <;> simp only [Option.some.injEq, reduceCtorEq] at hc <;> subst hc <;> rfl
    · split
      · rename_i cs hcs
        split
        · rename_i l hl
          obtain ⟨h1, h2⟩ := zero_con (μ := μ) hl
          exact ⟨cs.toList, by simp, h1, h2⟩
        · trivial
      · trivial
  | global gg => trivial
  | func f => exact ⟨[], rfl, trivial⟩

end Go.Abs

/-
  A region in the text's order; the end of local blocks.
-/

namespace Go.Abs

variable {P : Program}

def cutM (μ : Mp) (ds : List Nat) : Mp
  | .inl k => if ds.contains k = true then none else μ (.inl k)
  | .inr b => μ (.inr b)
theorem cutM_hp (μ : Mp) (ds : List Nat) (b : Nat) : cutM μ ds (.inr b) = μ (.inr b) := rfl
theorem cutM_le (μ : Mp) (ds : List Nat) : Le (cutM μ ds) μ := fun q pl h => by
  cases q with
  | inl k =>
    simp only [cutM] at h
    split at h
    · cases h
    · exact h
  | inr b => exact h

theorem killV_con {μ : Mp} {ds : List Nat} {x : Av} {v : Value} (h : ConA μ x v) : ConA (cutM μ ds) (killV ds x) v := by
  have ag := cutM_hp μ ds
  cases x with
  | no => trivial
  | tup l =>
    simp only [killV]
    split
    · rename_i hl
      obtain ⟨vs, e, hc⟩ := h
      exact ⟨vs, e, ConTs.agree (μ := μ) (μ' := cutM μ ds) ag hl hc⟩
    · trivial
  | v t =>
    cases t with
    | agg l =>
      obtain ⟨vs, e, hc, hn⟩ := h
      exact ⟨vs, e, ConL.agree (μ := μ) (μ' := cutM μ ds) ag hn hc, hn⟩
    | c y =>
      cases y with
      | ptr q o =>
        cases q with
        | inl k =>
          simp only [killV]
          split
          · trivial
          · rename_i hk
            obtain ⟨pl, hp, e⟩ := h
            exact ⟨pl, by simp only [cutM]; rw [if_neg hk]; exact hp, e⟩
        | inr b => exact h
      | sl q o n m =>
        cases q with
        | inl k =>
          simp only [killV]
          split
          · trivial
          · rename_i hk
            obtain ⟨a, c, e, hn, pl, hp, hm⟩ := h
            exact ⟨a, c, e, hn, pl, by simp only [cutM]; rw [if_neg hk]; exact hp, hm⟩
        | inr b => exact h
      | fn f ps =>
        simp only [killV]
        split
        · rename_i hl
          obtain ⟨l, e, hc⟩ := h
          exact ⟨l, e, ConPs.agree (μ := μ) (μ' := cutM μ ds) ag hl hc⟩
        · trivial
      | _ => exact h

theorem Rel.kill {B : Start} {μ : Mp} {T : Nat → Av} {s : St} {a : Act} {w : World} (hR : Rel B μ T s a w) (ds : List Nat) :
    ∃ μ', Rel B μ' (kill ds (T, s)).1 (kill ds (T, s)).2 a w ∧ ∀ d ∈ ds, μ' (.inl d) = none := by
  cases ds with
  | nil => exact ⟨μ, hR, fun d hd => by simp at hd⟩
  | cons d0 ds0 =>
    refine ⟨cutM μ (d0 :: ds0), ⟨?_, fun t => killV_con (hR.slots t), hR.defers, hR.size, hR.fresh, hR.nx0, hR.nxN, ?_, hR.wf⟩, ?_⟩
    · have hget : ∀ q r, (Abs.kill (d0 :: ds0) (T, s)).2.get q = some r → s.get q = some r := by
        intro q r hq
        cases q with
        | inl k =>
          simp only [Abs.kill, St.get] at hq
          split at hq
          · cases hq
          · exact hq
        | inr b => exact hq
      refine ⟨?_, ?_⟩
      · intro q pl r hq hr
        obtain ⟨cs, e, fr, a1, a2, a3, a4, a5⟩ := hR.sim.row q pl r (cutM_le _ _ q pl hq) (hget q r hr)
        exact ⟨cs, e, fr, a1, a2, ConL.agree (μ := μ) (μ' := cutM μ (d0 :: ds0)) (cutM_hp μ _) a4 a3, a4, a5⟩
      · intro q q' pl pl' r r' hne hq hq' hr hr' hrw
        exact hR.sim.apart q q' pl pl' r r' hne (cutM_le _ _ q pl hq) (cutM_le _ _ q' pl' hq') (hget q r hr) (hget q' r' hr') hrw
    · refine ⟨fun b pl hb => hR.glob.le b pl hb, hR.glob.frm, fun q pl hq => hR.glob.new q pl (cutM_le _ _ q pl hq), fun b r' hr => hR.glob.keeps b r' hr⟩
    · intro d hd
      simp only [cutM]
      rw [if_pos (by simpa using hd)]

theorem madeL_key {locs : List Nat} {o : Oper} {r : List Oper} {n : Nat} {ops : Array Oper} {s : St} {k : Nat} (h : newKey o.dst s (stripO P locs n ops o).op = some (.inl k)) : madeL locs (o :: r) = k :: madeL locs r ∧ o.dst = some k := by
  unfold stripO at h
  split at h
  · split at h
    · -- the operation as it is
      unfold newKey at h
      split at h
      all_goals simp only [Option.map_eq_some_iff, Sum.inl.injEq, exists_eq_right, Option.some.injEq, reduceCtorEq] at h
      all_goals
        rename_i heq
        cases hop : o.op <;> simp only [hop, stripOp, reduceCtorEq] at heq
      all_goals first
        | (repeat' split at heq) <;> simp_all [madeL, isLoc, h]
        | skip
    · simp [newKey] at h
  · simp [newKey] at h

theorem stepO_nx {env : Env} (henv : EnvOk P env) {o : AO} {p p' : (Nat → Av) × St} (h : stepO env o p = some p') : p.2.h.nx ≤ p'.2.h.nx := by
  unfold stepO at h
  split at h
  · simp only [Option.map_eq_some_iff] at h
    obtain ⟨⟨v, s'⟩, ha, rfl⟩ := h
    exact (aop_keeps henv ha).1
  · simp only [Option.some.injEq] at h
    rw [← h]
    exact Nat.le_refl _
  · simp at h
theorem runOps_nx {env : Env} (henv : EnvOk P env) : ∀ {l : List AO} {p p' : (Nat → Av) × St}, runOps env l p = some p' → p.2.h.nx ≤ p'.2.h.nx
  | [], p, p', h => by
    simp only [runOps, Option.some.injEq] at h
    rw [h]
    exact Nat.le_refl _
  | o :: l, p, p', h => by
    simp only [runOps, Option.bind_eq_some_iff] at h
    obtain ⟨p1, h1, h2⟩ := h
    exact Nat.le_trans (stepO_nx henv h1) (runOps_nx henv h2)

theorem stripO_dst {locs : List Nat} {n : Nat} {ops : Array Oper} {o : Oper} : (stripO P locs n ops o).dst = o.dst := by
  unfold stripO
  split
  · split <;> rfl
  · rfl

/-- One operation of a region, its operands at hand. -/
theorem stripO_step {env : Env} {locs : List Nat} {n : Nat} {ops : Array Oper} {o : Oper} {p p' : (Nat → Av) × St} (h : stepO env (stripO P locs n ops o) p = some p') :
    ∃ g, guardOf ops o.guard = some g ∧ dstOk n o.dst = true ∧ stripO P locs n ops o = ⟨o.dst, stripOp P (isLoc locs o.dst) o.op, g⟩ ∧
      ((wantedA p.1 ⟨o.dst, stripOp P (isLoc locs o.dst) o.op, g⟩ = some true ∧ ∃ v s', aop env o.dst p.1 p.2 (stripOp P (isLoc locs o.dst) o.op) = some (v, s') ∧ p' = (upo p.1 o.dst v, s')) ∨
       (wantedA p.1 ⟨o.dst, stripOp P (isLoc locs o.dst) o.op, g⟩ = some false ∧ p' = (upo p.1 o.dst (.tup []), p.2))) := by
  have bad : stripO P locs n ops o = ⟨o.dst, .bad, none⟩ → False := by
    intro e
    rw [e] at h
    simp [stepO, wantedA, aop] at h
  cases hg : guardOf ops o.guard with
  | none => exact (bad (by unfold stripO; rw [hg])).elim
  | some g =>
    cases hd : dstOk n o.dst with
    | false => exact (bad (by unfold stripO; simp [hg, hd])).elim
    | true =>
      have e : stripO P locs n ops o = ⟨o.dst, stripOp P (isLoc locs o.dst) o.op, g⟩ := by unfold stripO; simp [hg, hd]
      refine ⟨g, rfl, rfl, e, ?_⟩
      rw [e] at h
      unfold stepO at h
      split at h
      · rename_i hw
        simp only [Option.map_eq_some_iff] at h
        obtain ⟨⟨v, s'⟩, ha, rfl⟩ := h
        exact .inl ⟨hw, v, s', ha, rfl⟩
      · rename_i hw
        simp only [Option.some.injEq] at h
        exact .inr ⟨hw, h.symm⟩
      · simp at h

theorem madeL_mem {locs : List Nat} {o : Oper} {r : List Oper} {d : Nat} (h : d ∈ madeL locs r) : d ∈ madeL locs (o :: r) := by
  simp only [madeL]
  repeat' split
  all_goals first
    | exact List.mem_cons_of_mem _ h
    | exact h
theorem madeL_nodup {locs : List Nat} {o : Oper} {r : List Oper} (h : (madeL locs (o :: r)).Nodup) : (madeL locs r).Nodup := by
  revert h
  simp only [madeL]
  repeat' split
  all_goals first
    | exact fun h => (List.nodup_cons.1 h).2
    | exact fun h => h

theorem seq_ops {B : Start} {env : Env} (henv : EnvOk P env) {locs : List Nat} {ops : Array Oper} {Q : Exit → Act → World → Prop} : ∀ (k i : Nat) (T : Nat → Av) (s : St) (T' : Nat → Av) (s' : St) (μ : Mp) (a : Act) (w : World), i + k = ops.size →
    runOps env ((ops.toList.drop i).map (stripO P locs B.n ops)) (T, s) = some (T', s') → s'.h.nx ≤ B.N → Rel B μ T s a w → (∀ d ∈ madeL locs (ops.toList.drop i), μ (.inl d) = none) → (madeL locs (ops.toList.drop i)).Nodup →
    (∀ μ' a' w', Rel B μ' T' s' a' w' → Q .normal a' w') → wpOps P ops Q (List.range' i k) a w := by
  intro k
  induction k with
  | zero =>
    intro i T s T' s' μ a w hik hrun hN hR _ _ hQ
    have : ops.toList.drop i = [] := List.drop_of_length_le (by simp; omega)
    rw [this] at hrun
    simp only [List.map_nil, runOps, Option.some.injEq, Prod.mk.injEq] at hrun
    obtain ⟨rfl, rfl⟩ := hrun
    exact hQ μ a w hR
  | succ k ih =>
    intro i T s T' s' μ a w hik hrun hN hR hfr hnd hQ
    have hi : i < ops.size := by omega
    have hdrop : ops.toList.drop i = ops[i] :: ops.toList.drop (i + 1) := by
      rw [List.drop_eq_getElem_cons (by simpa using hi)]
      simp
    rw [hdrop] at hrun hfr hnd
    simp only [List.map_cons, runOps, Option.bind_eq_some_iff] at hrun
    obtain ⟨⟨T1, s1⟩, hstep, hrest⟩ := hrun
    have hnx1 := runOps_nx henv hrest
    rw [List.range'_succ, wpOps]
    have hget : ops[i]? = some ops[i] := Array.getElem?_eq_getElem hi
    revert hdrop hfr hnd hstep hget
    generalize ops[i] = o
    intro hnd hfr hdrop hstep hget
    simp only [hget]
    obtain ⟨g, hg, hd, heq, hcase⟩ := stripO_step hstep
    have hw : ∀ b, wantedA T ⟨o.dst, stripOp P (isLoc locs o.dst) o.op, g⟩ = some b → Region.wanted o (yielded ops a.tmps) = b :=
      fun b hb => wanted_of (μ := μ) (T := T) hg (fun t b' _ => hR.slots t) hb
    rcases hcase with ⟨hwt, v, s2, ha, hp⟩ | ⟨hwf, hp⟩
    · simp only [Prod.mk.injEq] at hp
      obtain ⟨rfl, rfl⟩ := hp
      rw [if_pos (hw true hwt)]
      have key : ∀ {k : Nat}, newKey o.dst s (stripOp P (isLoc locs o.dst) o.op) = some (.inl k) → madeL locs (o :: ops.toList.drop (i + 1)) = k :: madeL locs (ops.toList.drop (i + 1)) ∧ o.dst = some k :=
        fun {k} hq => madeL_key (P := P) (locs := locs) (n := B.n) (ops := ops) (s := s) (by rw [heq]; exact hq)
      refine .inl (op_wp henv (μ := μ) (g := s.get) hR.sim (fun X _ => slot_ops hR.slots X) ha (fun _ => rfl) (fun _ _ => rfl) ?_ ?_ hR.wf ?_)
      · intro b h1 h2
        exact hR.fresh b h1 (Nat.lt_of_lt_of_le h2 (Nat.le_trans hnx1 hN))
      · intro q hq
        cases q with
        | inl kk => exact hfr kk (by rw [(key hq).1]; simp)
        | inr b =>
          have hb := newKey_hp ha b hq
          exact hR.fresh b hb.2 (Nat.lt_of_lt_of_le hb.1 (Nat.le_trans hnx1 hN))
      · intro v' w' hafter
        obtain ⟨μ', hR', _, hloc⟩ := hR.op henv hd ha (Nat.le_trans hnx1 hN) hafter
        refine ih (i + 1) _ _ _ _ μ' _ _ (by omega) hrest hN hR' ?_ (madeL_nodup hnd) hQ
        intro d hdm
        cases hμ : μ' (.inl d) with
        | none => rfl
        | some pl =>
          rcases hloc d pl hμ with h1 | h1
          · rw [hfr d (madeL_mem hdm)] at h1
            cases h1
          · rw [(key h1).1] at hnd
            exact absurd hdm (List.nodup_cons.1 hnd).1
    · simp only [Prod.mk.injEq] at hp
      obtain ⟨rfl, rfl⟩ := hp
      rw [if_neg (by rw [hw false hwf]; simp)]
      exact ih (i + 1) _ _ _ _ μ _ _ (by omega) hrest hN (hR.skip hd) (fun d hdm => hfr d (madeL_mem hdm)) (madeL_nodup hnd) hQ

theorem region_wp {B : Start} {env : Env} (henv : EnvOk P env) {locs : List Nat} {id : Nat} {ops : Array Oper} {Q : Exit → Act → World → Prop} {T : Nat → Av} {s : St} {p' : (Nat → Av) × St} {μ : Mp} {a : Act} {w : World}
    (hrun : runOps env (ops.toList.map (stripO P locs B.n ops)) (kill (madeL locs ops.toList) (T, s)) = some p') (hnd : (madeL locs ops.toList).Nodup) (hN : p'.2.h.nx ≤ B.N) (hR : Rel B μ T s a w)
    (hQ : ∀ μ' a' w', Rel B μ' p'.1 p'.2 a' w' → Q .normal a' w') : (Code.region id ops false).wp P Q a w := by
  obtain ⟨μ1, hR1, hfr⟩ := hR.kill (madeL locs ops.toList)
  refine wp_region ?_
  rw [List.range_eq_range']
  exact seq_ops henv (locs := locs) ops.size 0 _ _ p'.1 p'.2 μ1 a w (by omega) (by simpa using hrun) hN hR1 (by simpa using hfr) (by simpa using hnd) hQ

end Go.Abs

/-
  A region of open order: whatever order the edges allow, it comes to what the text's order comes to.
-/

namespace Go.Abs

variable {P : Program}

/-- Behind the last place that fulfils p, among the first n. -/
noncomputable def lastP (p : Nat → Prop) : Nat → Nat
  | 0 => 0
  | n + 1 => open Classical in if p n then n + 1 else lastP p n

theorem lastP_le (p : Nat → Prop) : ∀ n, lastP p n ≤ n
  | 0 => Nat.le_refl _
  | n + 1 => by
    unfold lastP
    split
    · exact Nat.le_refl _
    · exact Nat.le_trans (lastP_le p n) (Nat.le_succ n)
theorem lastP_congr {p q : Nat → Prop} : ∀ n, (∀ i, i < n → (p i ↔ q i)) → lastP p n = lastP q n
  | 0, _ => rfl
  | n + 1, h => by
    unfold lastP
    have e := h n (Nat.lt_succ_self n)
    by_cases hp : p n
    · rw [if_pos hp, if_pos (e.1 hp)]
    · rw [if_neg hp, if_neg (fun hq => hp (e.2 hq)), lastP_congr n (fun i hi => h i (Nat.lt_succ_of_lt hi))]
theorem lastP_top {p : Nat → Prop} {j : Nat} (hp : p j) : ∀ n, j < n → (∀ i, j < i → i < n → ¬ p i) → lastP p n = j + 1
  | 0, h, _ => by omega
  | n + 1, h, hno => by
    unfold lastP
    by_cases hj : j = n
    · subst hj
      rw [if_pos hp]
    · rw [if_neg (hno n (by omega) (Nat.lt_succ_self n))]
      exact lastP_top hp n (by omega) (fun i h1 h2 => hno i h1 (by omega))
theorem lastP_cut {p : Nat → Prop} {j : Nat} : ∀ n, j ≤ n → (∀ i, j ≤ i → i < n → ¬ p i) → lastP p n = lastP p j
  | 0, h, _ => by
    have : j = 0 := by omega
    rw [this]
  | n + 1, h, hno => by
    by_cases hj : j = n + 1
    · rw [hj]
    · have e : lastP p (n + 1) = lastP p n := by
        rw [lastP]
        rw [if_neg (hno n (by omega) (Nat.lt_succ_self n))]
      rw [e]
      exact lastP_cut n (by omega) (fun i h1 h2 => hno i h1 (by omega))
theorem lastP_some {p : Nat → Prop} : ∀ n, lastP p n = 0 ∨ ∃ i, i < n ∧ p i ∧ lastP p n = i + 1
  | 0 => .inl rfl
  | n + 1 => by
    unfold lastP
    by_cases hp : p n
    · rw [if_pos hp]
      exact .inr ⟨n, Nat.lt_succ_self n, hp, rfl⟩
    · rw [if_neg hp]
      rcases lastP_some (p := p) n with h | ⟨i, h1, h2, h3⟩
      · exact .inl h
      · exact .inr ⟨i, by omega, h2, h3⟩

/-- What a quantity is, out of where it was changed last. -/
theorem last_value {α : Type} (f : Nat → α) : ∀ n, f n = f (lastP (fun i => f i ≠ f (i + 1)) n)
  | 0 => rfl
  | n + 1 => by
    unfold lastP
    by_cases h : f n ≠ f (n + 1)
    · rw [if_pos h]
    · rw [if_neg h, ← last_value f n]
      exact (Classical.not_not.1 h).symm

theorem mem_dedup {i : Nat} : ∀ {l : List Nat}, i ∈ dedup l → i ∈ l
  | [], h => by simp [dedup] at h
  | x :: r, h => by
    unfold dedup at h
    split at h
    · exact List.mem_cons_of_mem _ (mem_dedup h)
    · rcases List.mem_cons.1 h with h | h
      · rw [h]; exact List.mem_cons_self
      · exact List.mem_cons_of_mem _ (mem_dedup h)

theorem aheads_closed {listed : Nat → Prop} : ∀ (dl acc : List (List Nat)), (∀ k i, i ∈ acc.getD k [] → listed k → listed i) → (∀ m d, dl[m]? = some d → ∀ i ∈ d, listed (acc.length + m) → listed i) →
    ∀ k i, i ∈ (aheads dl acc).getD k [] → listed k → listed i
  | [], acc, h, _, k, i, hi, hk => h k i hi hk
  | d :: r, acc, h, hd, k, i, hi, hk => by
    refine aheads_closed r (acc ++ [dedup (d ++ d.flatMap fun k => acc.getD k [])]) ?_ ?_ k i hi hk
    · intro k i hi hk
      simp only [List.getD_eq_getElem?_getD] at hi
      by_cases h1 : k < acc.length
      · rw [List.getElem?_append_left h1] at hi
        exact h k i (by simpa [List.getD_eq_getElem?_getD] using hi) hk
      · rw [List.getElem?_append_right (by omega)] at hi
        by_cases h2 : k - acc.length = 0
        · rw [h2] at hi
          have hkk : k = acc.length := by omega
          subst hkk
          simp only [List.getElem?_cons_zero, Option.getD_some] at hi
          have hi := mem_dedup hi
          rcases List.mem_append.1 hi with h3 | h3
          · exact hd 0 d rfl i h3 (by simpa using hk)
          · obtain ⟨k', hk', hi'⟩ := List.mem_flatMap.1 h3
            exact h k' i hi' (hd 0 d rfl k' hk' (by simpa using hk))
        · rw [List.getElem?_eq_none (by simp; omega)] at hi
          simp at hi
    · intro m d' hd' i hi hl
      refine hd (m + 1) d' (by simpa using hd') i hi ?_
      simp only [List.length_append, List.length_cons, List.length_nil] at hl
      rw [show acc.length + (m + 1) = acc.length + (0 + 1) + m from by omega]
      exact hl

theorem trace_length {env : Env} : ∀ {l : List AO} {p : (Nat → Av) × St} {tr : List ((Nat → Av) × St)}, runTrace env l p = some tr → tr.length = l.length + 1
  | [], p, tr, h => by
    simp only [runTrace, Option.some.injEq] at h
    rw [← h]
    rfl
  | o :: l, p, tr, h => by
    simp only [runTrace, Option.bind_eq_some_iff, Option.map_eq_some_iff] at h
    obtain ⟨p1, h1, tr1, h2, rfl⟩ := h
    simp [trace_length h2]
theorem trace_head {env : Env} {l : List AO} {p : (Nat → Av) × St} {tr : List ((Nat → Av) × St)} (h : runTrace env l p = some tr) : tr[0]? = some p := by
  cases l with
  | nil =>
    simp only [runTrace, Option.some.injEq] at h
    rw [← h]
    rfl
  | cons o l =>
    simp only [runTrace, Option.bind_eq_some_iff, Option.map_eq_some_iff] at h
    obtain ⟨p1, h1, tr1, h2, rfl⟩ := h
    rfl
theorem trace_step {env : Env} : ∀ {l : List AO} {p : (Nat → Av) × St} {tr : List ((Nat → Av) × St)}, runTrace env l p = some tr → ∀ (i : Nat) (o : AO), l[i]? = some o → ∃ x y, tr[i]? = some x ∧ tr[i + 1]? = some y ∧ stepO env o x = some y
  | [], p, tr, h, i, o, ho => by simp at ho
  | o' :: l, p, tr, h, i, o, ho => by
    simp only [runTrace, Option.bind_eq_some_iff, Option.map_eq_some_iff] at h
    obtain ⟨p1, h1, tr1, h2, rfl⟩ := h
    cases i with
    | zero =>
      simp only [List.getElem?_cons_zero, Option.some.injEq] at ho
      subst ho
      exact ⟨p, p1, rfl, by simpa using trace_head h2, h1⟩
    | succ i =>
      simp only [List.getElem?_cons_succ] at ho ⊢
      exact trace_step h2 i o ho

theorem count_drop {p q : Nat → Bool} : ∀ (l : List Nat) (x : Nat), x ∈ l → (∀ y, q y = true → p y = true) → p x = true → q x = false → l.countP q + 1 ≤ l.countP p
  | [], x, h, _, _, _ => by simp at h
  | y :: l, x, h, hqp, hp, hq => by
    have mono : l.countP q ≤ l.countP p := List.countP_mono_left fun y _ hy => hqp y hy
    rw [List.countP_cons, List.countP_cons]
    rcases List.mem_cons.1 h with h | h
    · subst h
      simp [hp, hq]
      exact mono
    · have ih := count_drop l x h hqp hp hq
      by_cases hy : q y = true
      · simp [hy, hqp y hy]; omega
      · have : q y = false := by simpa using hy
        simp [this]
        omega

theorem operand_con {T : Nat → Av} {a : Act} {μ : Mp} {X : Operand} (hs : ∀ t, X = .tmp t → ConA μ (T t) (a.tmps.getD t undef)) : ConA μ (ev T (opdOf X)) (a.eval X) := by
  cases X with
  | tmp t => exact hs t rfl
  | const v => exact slot_ops (T := fun _ => .no) (fun _ => trivial) (.const v)
  | global gg => trivial
  | func f => exact ⟨[], rfl, trivial⟩

theorem Sim.on {μ : Mp} {g g' : Mem} {w : World} (hs : Sim μ g w) (h : ∀ q pl r, μ q = some pl → g' q = some r → g q = some r) : Sim μ g' w :=
  ⟨fun q pl r hp hr => hs.row q pl r hp (h q pl r hp hr), fun q q' pl pl' r r' hne hp hp' hr hr' => hs.apart q q' pl pl' r r' hne hp hp' (h q pl r hp hr) (h q' pl' r' hp' hr')⟩

/-- A region under way in the text's order: what stands fast. -/
structure Trc (P : Program) (env : Env) (B : Start) (locs : List Nat) (ops : Array Oper) (T : Nat → Nat → Av) (S : Nat → St) : Prop where
  step : ∀ i o, ops[i]? = some o → stepO env (stripO P locs B.n ops o) (T i, S i) = some (T (i + 1), S (i + 1))
  ok : openOk ops (ops.toList.map (stripO P locs B.n ops)) (aheads (ops.toList.map directs) []) = true
  back : backOk ops = true
  chk : ∀ i j oi oj q, ops[i]? = some oi → ops[j]? = some oj → (stripO P locs B.n ops oi).op.heavy = true → lightKey (T j) (S j) (stripO P locs B.n ops oj) = some q → (stripO P locs B.n ops oj).op.light = true → i ≠ j →
    ¬ i ∈ (aheads (ops.toList.map directs) []).getD j [] → ¬ j ∈ (aheads (ops.toList.map directs) []).getD i [] → (S i).get q = (S (i + 1)).get q
  wf : ∀ b, (S 0).h.nx ≤ b → (S 0).h.hp b = none
  loc : ∀ i o k, ops[i]? = some o → newKey o.dst (S i) (stripO P locs B.n ops o).op = some (.inl k) → (S 0).get (.inl k) = none
  top : (S ops.size).h.nx ≤ B.N
  nx0 : B.h0.nx ≤ (S 0).h.nx
  keep0 : ∀ b r', (S 0).get (.inr b) = some r' → (∃ r, B.h0.hp b = some r ∧ r.rw = r'.rw) ∨ (B.h0.nx ≤ b ∧ b < (S 0).h.nx)

section
variable {env : Env} {B : Start} {locs : List Nat} {ops : Array Oper} {T : Nat → Nat → Av} {S : Nat → St}

theorem Trc.nx (henv : EnvOk P env) (t : Trc P env B locs ops T S) : ∀ {i j : Nat}, i ≤ j → j ≤ ops.size → (S i).h.nx ≤ (S j).h.nx := by
  intro i j hij
  induction hij with
  | refl => intro _; exact Nat.le_refl _
  | @step j hj ih =>
    intro hjn
    have hget : ops[j]? = some ops[j] := Array.getElem?_eq_getElem (by omega)
    exact Nat.le_trans (ih (by omega)) (stepO_nx henv (t.step j _ hget))

/-- What one operation of the trace does to the memory. -/
theorem Trc.one (henv : EnvOk P env) (t : Trc P env B locs ops T S) {i : Nat} {o : Oper} (ho : ops[i]? = some o) :
    (∀ q r', (S (i + 1)).get q = some r' → (∃ r, (S i).get q = some r ∧ r.rw = r'.rw) ∨ newOf (S i).h.nx (S (i + 1)).h.nx q ∨ newKey o.dst (S i) (stripO P locs B.n ops o).op = some q) ∧
    (∀ q, (S i).get q ≠ (S (i + 1)).get q → (stripO P locs B.n ops o).op.heavy = true ∨ (newKey o.dst (S i) (stripO P locs B.n ops o).op = some q ∧ wantedA (T i) (stripO P locs B.n ops o) = some true)) ∧
    (∀ u, o.dst ≠ some u → T (i + 1) u = T i u) := by
  obtain ⟨g, hg, hd, heq, hcase⟩ := stripO_step (t.step i o ho)
  rw [heq]
  rcases hcase with ⟨hwt, v, s', ha, hp⟩ | ⟨_, hp⟩
  · simp only [Prod.mk.injEq] at hp
    obtain ⟨h1, h2⟩ := hp
    simp only at ha
    subst h2
    obtain ⟨hnx, hk⟩ := aop_keeps henv ha
    refine ⟨fun q r' hq => hk q r' hq, fun q hq => ?_, fun u hu => by rw [h1, upo_get, if_neg hu]⟩
    cases hh : (stripOp P (isLoc locs o.dst) o.op).heavy with
    | true => exact .inl rfl
    | false =>
      refine .inr ⟨Classical.byContradiction fun hne => hq ?_, hwt⟩
      exact (light_mem ha hh q hne).symm
  · simp only [Prod.mk.injEq] at hp
    obtain ⟨h1, h2⟩ := hp
    rw [h2]
    exact ⟨fun q r' hq => .inl ⟨r', hq, rfl⟩, fun q hq => absurd rfl hq, fun u hu => by rw [h1, upo_get, if_neg hu]⟩

theorem Trc.wfAll (henv : EnvOk P env) (t : Trc P env B locs ops T S) : ∀ (i : Nat), i ≤ ops.size → ∀ b, (S i).h.nx ≤ b → (S i).h.hp b = none
  | 0, _ => t.wf
  | i + 1, hi => by
    intro b hb
    have hget : ops[i]? = some ops[i] := Array.getElem?_eq_getElem (by omega)
    have hnx := t.nx henv (Nat.le_succ i) hi
    have ih := t.wfAll henv i (by omega)
    obtain ⟨g, hg, hd, heq, hcase⟩ := stripO_step (t.step i _ hget)
    rcases hcase with ⟨_, v, s', ha, hp⟩ | ⟨_, hp⟩
    · simp only [Prod.mk.injEq] at hp
      obtain ⟨_, h2⟩ := hp
      simp only at ha
      rw [← h2] at ha
      exact aop_wf henv ha ih b hb
    · simp only [Prod.mk.injEq] at hp
      rw [hp.2] at hb ⊢
      exact ih b hb

end
end Go.Abs
