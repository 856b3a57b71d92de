/-
  The heavy operations: a store, an append, a call.
-/
import Derived.Test.YtenccnpdaldkfaaAbs7
import Derived.Laws.CopyRow
import Derived.Laws.AppendOwn
namespace Go.Abs

variable {P : Program} {μ : Mp} {T : Nat → Av} {ρ : Operand → Value} {w : World} {g : Mem}

structure Post (μ : Mp) (g g' : Mem) (w : World) (μ' : Mp) (w' : World) (isNew : Key → Prop) : Prop where
  le : Le μ μ'
  sim : Sim μ' g' w'
  frm : Frm μ g w w'
  new : ∀ q pl, μ' q = some pl → μ q = some pl ∨ (isNew q ∧ (w.heap.size ≤ pl.B ∨ ∃ q0 pl0 r0, μ q0 = some pl0 ∧ g q0 = some r0 ∧ r0.rw = true ∧ pl0.B = pl.B))

theorem one_cell {x : Ce} {v : Value} (h : ConC μ x v) : v.oneCell' = true := by
  cases x with
  | int k n => obtain rfl : v = .int k n := h; rfl
  | bool b => obtain rfl : v = .bool b := h; rfl
  | str s => obtain rfl : v = .string s := h; rfl
  | nils => obtain rfl : v = .slice none 0 0 := h; rfl
  | nilp => obtain rfl : v = .pointer none := h; rfl
  | ptr q o => obtain ⟨pl, _, rfl⟩ := h; rfl
  | fn f ps => obtain ⟨l, rfl, _⟩ := h; rfl
  | sl q o n m => obtain ⟨a, c, rfl, _⟩ := h; rfl
theorem one_cells : ∀ {xs : List Ce} {vs : List Value}, ConL μ xs vs → ∀ v ∈ vs, v.oneCell' = true
  | [], [], _, v, hv => by simp at hv
  | x :: xs, u :: us, h, v, hv => by
    rcases List.mem_cons.1 hv with rfl | hv
    · exact one_cell h.1
    · exact one_cells h.2 v hv
  | [], _ :: _, h, _, _ => h.elim
  | _ :: _, [], h, _, _ => h.elim

theorem Sim.drop {g' : Mem} (hs : Sim μ g w) (h : ∀ q r, g' q = some r → g q = some r) : Sim μ g' w :=
  ⟨fun q pl r hp hr => hs.row q pl r hp (h q r hr), fun q q' pl pl' r r' hne hp hp' hr hr' => hs.apart q q' pl pl' r r' hne hp hp' (h q r hr) (h q' r' hr')⟩

theorem Sim.heap {w' : World} (hs : Sim μ g w) (h : w'.heap = w.heap) : Sim μ g w' :=
  ⟨fun q pl r hp hr => by
    obtain ⟨cs, e, fr, h1, rest⟩ := hs.row q pl r hp hr
    exact ⟨cs, e, fr, by rw [h]; exact h1, rest⟩, hs.apart⟩

theorem setRow_far (w : World) (g : Nat) (c : Array Value) (k : Nat) (h : k ≠ g) : (w.setRow g c).heap[k]? = w.heap[k]? := by
  unfold World.setRow
  simp [Array.getElem?_modify, Ne.symm h]
theorem setRow_size (w : World) (g : Nat) (c : Array Value) : (w.setRow g c).heap.size = w.heap.size := by
  unfold World.setRow
  simp

theorem size_run {t : TypeId} {n : Nat} (h : szOf P t = some n) (w : World) : (sizeOf t).run P w = .ok n w := by
  obtain ⟨i, hi, rfl⟩ := info_size h
  simp [sizeOf, typeInfo, hi]

theorem h_store {o : Oper} {t : TypeId} {a x : Operand} (ho : o.op = .store t a x) {n : Nat} (hz : szOf P t = some n) {p : Key × Nat} {r : Row} {tv : Tv} (hs : Sim μ g w) (ha : ConA μ (ev T (opdOf a)) (ρ a)) (hx : ConA μ (ev T (opdOf x)) (ρ x))
    (ka : (ev T (opdOf a)).ptr? = some p) (kx : (ev T (opdOf x)).tv? = some tv) (kr : g p.1 = some r) (hrw : r.rw = true) (hl : tv.noLoc = true) (hn : tv.cells.length = n) (hfit : p.2 + n ≤ r.cs.length) :
    ∃ w', (execOp ρ o).run P w = .ok .skip w' ∧ Post μ g (upg g p.1 { r with cs := r.cs.take p.2 ++ tv.cells ++ r.cs.drop (p.2 + n) }) w μ w' (fun _ => False) := by
  obtain ⟨pl, hp, e⟩ := con_ptr ha ka
  rw [ev_tv kx] at hx
  obtain ⟨hc, hnl⟩ := con_cells hx hl
  have hrow := hs.row _ _ _ hp kr
  obtain ⟨cs, et, fr, hb, hsz, hcs, hncs, hrest⟩ := hrow
  obtain ⟨hO, hfr, hcap⟩ := hrest hrw
  subst hfr
  have hvl : (ρ x).cells.toList.length = n := by rw [← hn, hc.length]
  rw [hO] at hsz hcs
  have hst := run_storeCells_at P pl.B p.2 et (ρ x).cells.toList 0 cs w hb (by rw [hvl]; omega) (one_cells hc)
  refine ⟨w.setRow pl.B (cs.toList.take (p.2 + 0) ++ (ρ x).cells.toList ++ cs.toList.drop (p.2 + 0 + (ρ x).cells.toList.length)).toArray, ?_, Le.refl μ, ?_, ?_, fun q pl' h => .inl h⟩
  · have hvs : (ρ x).cells.size = n := by simpa using hvl
    simp only [execOp, ho, Instr.storeAt, Instr.sureAddr, e, storeVar, Sem.run_bind, Sem.run_pure, Result.andThen_ok, size_run hz, hvs, hO, Nat.zero_add]
    simp [hst]
  · have hlist : (cs.toList.take (p.2 + 0) ++ (ρ x).cells.toList ++ cs.toList.drop (p.2 + 0 + (ρ x).cells.toList.length)) = setsL cs.toList p.2 (ρ x).cells.toList := by
      rw [setsL_eq _ _ _ (by simp at hvl ⊢; omega)]
      simp
    rw [hlist]
    constructor
    · intro q pl' r' hq hr'
      unfold upg at hr'
      split at hr'
      · rename_i heq
        subst heq
        rw [hp] at hq
        obtain rfl := Option.some.inj hq
        obtain rfl := Option.some.inj hr'
        have hlen : (r.cs.take p.2 ++ tv.cells ++ r.cs.drop (p.2 + n)).length = r.cs.length := by simp; omega
        refine ⟨(setsL cs.toList p.2 (ρ x).cells.toList).toArray, et, (0, 0), setRow_heap w _ _ _ _ _ hb, ?_, ?_, hncs.sets hnl, fun _ => ⟨hO, rfl, by simp [setsL_length]; simpa using hcap⟩⟩
        · rw [hO]; simp only [hlen]; simp [setsL_length]; omega
        · rw [hO]
          simp only [hlen, List.drop_zero]
          have h1 := hcs.sets hc (off := p.2) (by rw [hn]; exact hfit)
          rw [hn] at h1
          have h2 : (setsL cs.toList p.2 (ρ x).cells.toList).take r.cs.length = setsL (cs.toList.take r.cs.length) p.2 (ρ x).cells.toList := by
            rw [setsL_eq _ _ _ (by simp at hvl ⊢; omega), setsL_eq _ _ _ (by simp at hvl ⊢; omega), hvl]
            apply List.ext_getElem?
            intro i
            simp only [List.getElem?_append, List.getElem?_take, List.getElem?_drop, List.length_append, List.length_take, hvl, Array.length_toList]
            by_cases hi : i < r.cs.length
            · simp only [hi, if_true]
              repeat' split
              all_goals first
                | rfl
                | omega
                | (congr 1; omega)
            · simp only [hi, if_false]
              repeat' split
              all_goals first
                | rfl
                | omega
                | (symm; apply List.getElem?_eq_none; omega)
          rw [h2]
          simpa using h1
      · rename_i hne
        have hrow' := hs.row q pl' r' hq hr'
        refine hrow'.le (Le.refl μ) (setRow_far w _ _ _ ?_)
        exact fun hB => hs.apart p.1 q pl pl' r r' (fun h => hne h.symm) hp hq kr hr' hrw hB.symm
    · intro q q' pl1 pl2 r1 r2 hne h1 h2 hr1 hr2 hrw1
      have low : ∀ k r0, upg g p.1 { r with cs := r.cs.take p.2 ++ tv.cells ++ r.cs.drop (p.2 + n) } k = some r0 → ∃ r3, g k = some r3 ∧ r3.rw = r0.rw := by
        intro k r0 hk
        unfold upg at hk
        split at hk
        · rename_i he; subst he; obtain rfl := Option.some.inj hk; exact ⟨r, kr, rfl⟩
        · exact ⟨r0, hk, rfl⟩
      obtain ⟨r3, hr3, e3⟩ := low _ _ hr1
      obtain ⟨r4, hr4, _⟩ := low _ _ hr2
      exact hs.apart q q' pl1 pl2 r3 r4 hne h1 h2 hr3 hr4 (e3.trans hrw1)
  · exact ⟨rfl, rfl, rfl, by rw [setRow_size]; exact Nat.le_refl _, fun B hB hne => setRow_far w _ _ _ (fun h => hne p.1 pl r hp kr hrw h.symm)⟩

def kilm (g : Mem) (q : Key) : Mem := fun k => if k = q then none else g k
theorem kilm_some {q k : Key} {r : Row} (h : kilm g q k = some r) : k ≠ q ∧ g k = some r := by
  unfold kilm at h
  split at h
  · cases h
  · rename_i hne; exact ⟨hne, h⟩

/-- What an append comes to, its operands read. -/
theorem append_run {t u ty e e' : TypeId} {i : TypeInfo} {z : Value} (ht : P.underlying t = some (.slice e)) (hu : P.underlying u = some (.slice e')) (hi : P.info? e = some i) (hz : i.zero = some z) (base : Option Addr) (sLen sCap : Nat) (xa : Option Addr) (n c : Nat) (news : List Value)
    (hn : ∀ w' : World, w'.heap = w.heap → (Builtin.firstCells i.size n (.slice xa n c)).run P w' = .ok news.toArray w') :
    (sLen + n ≤ sCap → (Builtin.append_ #[t, u] ty #[.slice base sLen sCap, .slice xa n c]).run P w =
      match (match base with | some a => storeCells (a.add (sLen * i.size)) news | none => pure () : Sem Unit).run P w with
      | .ok _ w' => .ok (.slice base (sLen + n) sCap) w'
      | .halt h w' => .halt h w') ∧
    (∀ olds : List Value, sCap < sLen + n → ((sLen + n : Nat) : Int) ≤ 9223372036854775807 → Builtin.nextslicecap (sLen + n) sCap * i.bytes ≤ 281474976710656 → 0 < i.bytes →
      (∀ w' : World, w'.heap = w.heap → (Builtin.firstCells i.size sLen (.slice base sLen sCap)).run P w' = .ok olds.toArray w') →
      (Builtin.append_ #[t, u] ty #[.slice base sLen sCap, .slice xa n c]).run P w =
        .ok (.slice (some ⟨w.heap.size, 0, none⟩) (sLen + n) (grownCap w (sLen + n) sCap e)) (w.drew.alloc (.cells ((olds ++ news).toArray ++ Builtin.zeroCells z.cells (grownCap w (sLen + n) sCap e - (sLen + n))) e))) := by
  constructor
  · intro hfit
    have h1 := hn w rfl
    cases base with
    | none => simp [Builtin.append_, run_underlying ht, run_underlying hu, sizeOf, typeInfo, hi, Builtin.lenOf, hfit, h1]
    | some a =>
      simp [Builtin.append_, run_underlying ht, run_underlying hu, sizeOf, typeInfo, hi, Builtin.lenOf, hfit, h1]
      cases (storeCells (a.add (sLen * i.size)) news).run P w <;> rfl
  · intro olds hg h63 h48 hb hold
    have h1 : (Builtin.firstCells i.size n (.slice xa n c)).run P w.drew = .ok news.toArray w.drew := hn w.drew rfl
    have h2 : (Builtin.firstCells i.size sLen (.slice base sLen sCap)).run P w.drew = .ok olds.toArray w.drew := hold w.drew rfl
    have hn' : ¬ (sLen + n ≤ sCap) := by omega
    have h63' : ¬ (9223372036854775807 < ((sLen : Int) + (n : Int))) := by omega
    have h48' : ¬ (281474976710656 < Builtin.nextslicecap (sLen + n) sCap * i.bytes) := by omega
    simp [Builtin.append_, run_underlying ht, run_underlying hu, sizeOf, typeInfo, zeroValue, hi, hz, Builtin.lenOf, hn', h63', h48', Question.forced, h1, h2, newRow, grownCap]
    congr 2
    rw [← Array.append_assoc]
    simp

theorem firstCells_of {sz n c : Nat} {a : Option Addr} {vs : List Value} {w : World} (h0 : a = none → vs = []) (h1 : ∀ A, a = some A → (loadCells A (n * sz)).run P w = .ok vs.toArray w) :
    (Builtin.firstCells sz n (.slice a n c)).run P w = .ok vs.toArray w := by
  cases a with
  | none => rw [h0 rfl]; simp [Builtin.firstCells]
  | some A => simpa [Builtin.firstCells] using h1 A rfl

theorem elems_all {sz : Nat} {c : Ce} {v : Value} {s : St} {l : List Ce} (hs : Sim μ s.get w) (hc : ConC μ c v) (he : s.elems sz c = some l) :
    ∃ (a : Option Addr) (n cap : Nat) (vs : List Value), v = .slice a n cap ∧ n ≤ cap ∧ c.slen = some n ∧ vs.length = n * sz ∧ ConL μ l vs ∧ noLocL l ∧ l.length = n * sz ∧ (∀ w' : World, w'.heap = w.heap → (Builtin.firstCells sz n (.slice a n cap)).run P w' = .ok vs.toArray w') := by
  obtain ⟨a, n, cap, vs, h1, h2, h3, h4, h5, h6, h7, h8, h9⟩ := elems_run (P := P) (fun q r _ h => h) hs hc he
  exact ⟨a, n, cap, vs, h1, h2, h3, h4, h5, h6, h7, fun w' hw' => firstCells_of h8 fun A hA => h9 A hA w' hw'⟩

theorem Frm.drew {w' : World} (h : Frm μ g w.drew w') : Frm μ g w w' := ⟨h.os, h.tape, h.output, h.size, h.block⟩

def newOf (n n' : Nat) (q : Key) : Prop := ∃ b, q = .inr b ∧ n ≤ b ∧ b < n'

theorem get_push {s : St} {r : Row} : (s.push r).get = upg s.get (.inr s.h.nx) r := by
  funext q
  cases q with
  | inl k => simp [St.get, St.push, upg]
  | inr b =>
    simp only [St.get, St.push, Heap.push, upg, upd, Sum.inr.injEq]
theorem get_set_none {s : St} {q : Key} : (s.set q none).get = kilm s.get q := by
  funext k
  cases q with
  | inl a =>
    cases k with
    | inl b => simp only [St.get, St.set, kilm, upd, Sum.inl.injEq]
    | inr b => simp [St.get, St.set, kilm]
  | inr a =>
    cases k with
    | inl b => simp [St.get, St.set, kilm]
    | inr b => simp only [St.get, St.set, kilm, upd, Sum.inr.injEq]
theorem get_set {s : St} {q : Key} {r : Row} : (s.set q (some r)).get = upg s.get q r := by
  funext k
  cases q with
  | inl a =>
    cases k with
    | inl b => simp only [St.get, St.set, upg, upd, Sum.inl.injEq]
    | inr b => simp [St.get, St.set, upg]
  | inr a =>
    cases k with
    | inl b => simp [St.get, St.set, upg]
    | inr b => simp only [St.get, St.set, upg, upd, Sum.inr.injEq]
theorem nx_set {s : St} {q : Key} {r : Option Row} : (s.set q r).h.nx = s.h.nx := by
  cases q <;> rfl

/-- A slice that grows into a new block. -/
theorem grow_post {g g' : Mem} (hs : Sim μ g w) (hg : ∀ q r, g' q = some r → g q = some r) {q : Key} {nx : Nat} (hq : q = .inr nx) (hnew : μ q = none) {l : List Ce} {vs : List Value} (hl : ConL μ l vs) (hn : noLocL l) {m cap sz : Nat} (hlen : l.length = m * sz) (hcap : m ≤ cap)
    {z : Array Value} (hz : z.size = sz) (e : TypeId) :
    Post μ g (upg g' q ⟨l, sz, true⟩) w (upm μ q ⟨w.heap.size, 0, cap⟩) (w.drew.alloc (.cells (vs.toArray ++ Builtin.zeroCells z (cap - m)) e (0, 0))) (newOf nx (nx + 1)) := by
  have hsz : (vs.toArray ++ Builtin.zeroCells z (cap - m)).size = cap * sz := by
    have h1 : vs.length = m * sz := by rw [← hl.length, hlen]
    simp only [Array.size_append, List.size_toArray, Builtin.zeroCells, Array.size_map, Array.size_range, hz, h1]
    rw [← Nat.add_mul]
    congr 1
    omega
  have hd : Sim μ g' w.drew := (hs.drop hg).heap rfl
  have hle : m * sz ≤ cap * sz := Nat.mul_le_mul_right _ hcap
  have hvl : vs.length = l.length := hl.length.symm
  have hnewS := hd.new (q := q) hnew (cs := vs.toArray ++ Builtin.zeroCells z (cap - m)) (e := e) (r := ⟨l, sz, true⟩) (cap := cap) (by rw [hsz, hlen]; exact hle)
    (by simp only [Array.toList_append]; rw [List.take_append_of_le_length (by simp [hvl]), List.take_of_length_le (by simp [hvl])]; exact hl) hn (by rw [hsz]; exact Nat.le_refl _)
  refine ⟨upm_le hnew, hnewS, (Frm.alloc μ g w.drew _).drew, ?_⟩
  intro k pl hk
  unfold upm at hk
  split at hk
  · rename_i he
    obtain rfl := Option.some.inj hk
    exact .inr ⟨⟨nx, he.trans hq, Nat.le_refl _, by omega⟩, .inl (Nat.le_refl _)⟩
  · exact .inl hk

theorem h_append {o : Oper} {c : Call} {x y : Operand} {t u e e' : TypeId} (ho : o.op = .call c) (hc : c.callee = .builtin .append) (hx : c.args.toList = [x, y]) (hty : c.argTypes.toList = [t, u]) (ht : P.underlying t = some (.slice e)) (hu : P.underlying u = some (.slice e'))
    {sz : Nat} {z : List Ce} (hsz : szOf P e = some sz) (hz : zeroOf P e = some z) (hzl : z.length = sz) (hsm : smallOf P e = true) {s s' : St} {a b r : Ce} (hs : Sim μ s.get w) (ha : ConA μ (ev T (opdOf x)) (ρ x)) (hb : ConA μ (ev T (opdOf y)) (ρ y))
    (ka : (ev T (opdOf x)).ce? = some a) (kb : (ev T (opdOf y)).ce? = some b) (h : appendA s sz a b = some (r, s')) (hnew' : s'.h.nx = s.h.nx + 1 → μ (.inr s.h.nx) = none) :
    ∃ v' w' μ', (execOp ρ o).run P w = .ok (.value v') w' ∧ ConA μ' (.v (.c r)) v' ∧ Post μ s.get s'.get w μ' w' (newOf s.h.nx s'.h.nx) := by
  rw [ev_ce ka] at ha
  rw [ev_ce kb] at hb
  have e1 : c.args = #[x, y] := by rw [← hx]
  have e2 : c.argTypes = #[t, u] := by rw [← hty]
  have hexec : ∀ v' w', (Builtin.append_ #[t, u] o.type #[ρ x, ρ y]).run P w = .ok v' w' → (execOp ρ o).run P w = .ok (.value v') w' := by
    intro v' w' hr
    simp [execOp, ho, hc, resolve, invoke, builtin, e1, e2, hr]
  obtain ⟨i, zv, hi, hzv, hcz⟩ := zeroOf_some hz
  obtain ⟨hz1, _⟩ := zero_con (μ := μ) hcz
  have hzs : zv.cells.size = sz := by rw [← hzl, hz1.length]; simp
  obtain ⟨i', hi', hsz'⟩ := info_size hsz
  rw [hi] at hi'
  obtain rfl := Option.some.inj hi'
  have hby : i.bytes ≤ 4096 ∧ 0 < i.bytes := by
    unfold smallOf at hsm
    rw [hi] at hsm
    simpa using hsm
  have h48 : ∀ n m cap : Nat, n + m ≤ lim → cap < n + m → Builtin.nextslicecap (n + m) cap * i.bytes ≤ 281474976710656 := by
    intro n m cap h1 h2
    have h3 := nextslicecap_le h2
    have h4 : n + m ≤ 4294967296 := h1
    calc Builtin.nextslicecap (n + m) cap * i.bytes ≤ (2 * (n + m)) * 4096 := Nat.mul_le_mul h3 hby.1
      _ ≤ 281474976710656 := by omega
  have h63 : ∀ n m : Nat, n + m ≤ lim → ((n + m : Nat) : Int) ≤ 9223372036854775807 := by
    intro n m h1
    have h4 : n + m ≤ 4294967296 := h1
    omega
  unfold appendA at h
  split at h
  · rename_i new m hel hm
    obtain ⟨ya, m', cap, vs, hvy, _, hm', hvl, hcon, hnl, hnlen, hfirst⟩ := elems_all (P := P) hs hb hel
    rw [hm] at hm'
    obtain rfl := Option.some.inj hm'
    split at h
    · -- nil
      have hvx : ρ x = .slice none 0 0 := ha
      split at h
      · rename_i hm0
        subst hm0
        obtain ⟨rfl, rfl⟩ := by simpa using h
        obtain ⟨hr, _⟩ := append_run (P := P) (w := w) (ty := o.type) ht hu hi hzv none 0 0 ya 0 cap vs (by rw [hsz']; exact hfirst)
        refine ⟨.slice none 0 0, w, μ, hexec _ _ ?_, rfl, Le.refl _, hs, Frm.refl _ _ _, fun q pl hq => .inl hq⟩
        rw [hvx, hvy, hr (by omega)]
        simp
      · rename_i hm0
        split at h
        · rename_i hlim
          simp only [Option.some.injEq, Prod.mk.injEq] at h
          obtain ⟨rfl, rfl⟩ := h
          have hnew := hnew' rfl
          obtain ⟨_, hr⟩ := append_run (P := P) (w := w) (ty := o.type) ht hu hi hzv none 0 0 ya m cap vs (by rw [hsz']; exact hfirst)
          have hrun := hr [] (by omega) (h63 0 m (by simpa using hlim)) (h48 0 m 0 (by simpa using hlim) (by omega)) hby.2 (fun w' _ => by simp [Builtin.firstCells])
          simp only [Nat.zero_add, List.nil_append] at hrun
          refine ⟨_, _, upm μ (.inr s.h.nx) ⟨w.heap.size, 0, grownCap w m 0 e⟩, hexec _ _ (by rw [hvx, hvy]; exact hrun), ?_, ?_⟩
          · exact ⟨_, _, rfl, grownCap_ge _ _ _ _, _, upm_self, rfl, rfl, rfl⟩
          · rw [get_push]
            exact grow_post hs (fun q r h => h) rfl hnew hcon hnl hnlen (grownCap_ge _ _ _ _) hzs e
        · exact absurd h (by simp)
    · -- one of the call's own
      rename_i q off n
      split at h
      · rename_i rr hrr
        split at h
        · rename_i hcond
          obtain ⟨ho0, hrw, hrsz, hrlen, hlim, hloc⟩ := hcond
          simp only [Option.some.injEq, Prod.mk.injEq] at h
          obtain ⟨rfl, rfl⟩ := h
          have hnew := hnew' (by show (St.set _ _ _).h.nx + 1 = _; rw [nx_set])
          obtain ⟨xa, xc, hvx, hxn, pl, hp, hxa, _, hxc⟩ := ha
          subst hxa hxc
          have hrow := hs.row q pl rr hp hrr
          have hqn : q ≠ .inr s.h.nx := by rintro rfl; rw [hnew] at hp; cases hp
          obtain ⟨cs, et, fr, hblk, hfit, hcsl, hncs, hrest⟩ := id hrow
          obtain ⟨hO, hfr, hcapsz⟩ := hrest hrw
          subst hfr
          rw [hO] at hfit hcsl
          have hnews : (s.set q none).h.nx = s.h.nx := nx_set
          have hget : ((s.set q none).push ⟨rr.cs ++ new, sz, true⟩).get = upg (kilm s.get q) (.inr s.h.nx) ⟨rr.cs ++ new, sz, true⟩ := by rw [get_push, get_set_none, hnews]
          have hlen2 : (rr.cs ++ new).length = (n + m) * sz := by rw [List.length_append, hrlen, hnlen, Nat.add_mul]
          rw [hget]
          by_cases hroom : n + m ≤ pl.cap
          · obtain ⟨hr, _⟩ := append_run (P := P) (w := w) (ty := o.type) ht hu hi hzv (some ⟨pl.B, pl.O, none⟩) n pl.cap ya m cap vs (by rw [hsz']; exact hfirst)
            have hbig : (n + m) * sz ≤ cs.size := by
              rw [hrsz] at hcapsz
              exact Nat.le_trans (Nat.mul_le_mul_right _ hroom) hcapsz
            rw [Nat.add_mul] at hbig
            have hst := run_storeCells_at P pl.B (n * sz) et vs 0 cs w hblk (by rw [hvl]; omega) (one_cells hcon)
            have hrun := hr hroom
            rw [hsz', hO] at hrun
            simp only [Addr.add_lit, Nat.zero_add, hst] at hrun
            refine ⟨_, _, upm μ (.inr s.h.nx) pl, hexec _ _ (by rw [hvx, hvy, hO]; exact hrun), ?_, ?_⟩
            · exact ⟨_, _, rfl, hroom, pl, upm_self, by rw [hO], rfl, rfl⟩
            · simp only [Nat.add_zero]
              have hfar : ∀ k, k ≠ pl.B → (w.setRow pl.B (cs.toList.take (n * sz) ++ vs ++ cs.toList.drop (n * sz + vs.length)).toArray).heap[k]? = w.heap[k]? := fun k hk => setRow_far w _ _ k hk
              refine ⟨upm_le hnew, ⟨?_, ?_⟩, ?_, ?_⟩
              · intro k pl' r' hk hr'
                unfold upm at hk
                unfold upg at hr'
                split at hk
                · rename_i hke
                  subst hke
                  rw [if_pos rfl] at hr'
                  obtain rfl := Option.some.inj hk
                  obtain rfl := Option.some.inj hr'
                  refine ⟨_, et, (0, 0), setRow_heap w _ _ _ _ _ hblk, ?_, ?_, noLocL.append hncs hnl, fun _ => ⟨hO, rfl, ?_⟩⟩
                  · rw [hO, hlen2, Nat.add_mul]; simp; omega
                  · rw [hO, List.drop_zero]
                    have e3 : (cs.toList.take (n * sz) ++ vs ++ cs.toList.drop (n * sz + vs.length)).take (rr.cs ++ new).length = cs.toList.take rr.cs.length ++ vs := by
                      rw [List.take_append_of_le_length (by rw [hlen2, Nat.add_mul]; simp; omega), List.take_of_length_le (by rw [hlen2, Nat.add_mul]; simp; omega), hrlen]
                    rw [e3]
                    exact ConL.append (by simpa using hcsl.le (upm_le hnew)) (hcon.le (upm_le hnew))
                  · rw [← hrsz]; simp; rw [hvl]; have := hcapsz; omega
                · rename_i hke
                  rw [if_neg hke] at hr'
                  obtain ⟨hkq, hr2⟩ := kilm_some hr'
                  have hrow' := hs.row k pl' r' hk hr2
                  exact hrow'.le (upm_le hnew) (hfar _ (fun hB => hs.apart q k pl pl' rr r' (fun h => hkq h.symm) hp hk hrr hr2 hrw hB.symm))
              · intro k k' pl1 pl2 r1 r2 hne hk hk' hr1 hr2 hrw1
                unfold upm at hk hk'
                unfold upg at hr1 hr2
                split at hk
                · rename_i hke
                  subst hke
                  rw [if_neg (fun h => hne h.symm)] at hk' hr2
                  obtain rfl := Option.some.inj hk
                  obtain ⟨hkq, hr3⟩ := kilm_some hr2
                  exact hs.apart q k' pl pl2 rr r2 (fun h => hkq h.symm) hp hk' hrr hr3 hrw
                · rename_i hke
                  rw [if_neg hke] at hr1
                  obtain ⟨hkq, hr1'⟩ := kilm_some hr1
                  split at hk'
                  · rename_i hke'
                    obtain rfl := Option.some.inj hk'
                    exact hs.apart k q pl1 pl r1 rr hkq hk hp hr1' hrr hrw1
                  · rename_i hke'
                    rw [if_neg hke'] at hr2
                    obtain ⟨_, hr2'⟩ := kilm_some hr2
                    exact hs.apart k k' pl1 pl2 r1 r2 hne hk hk' hr1' hr2' hrw1
              · exact ⟨rfl, rfl, rfl, by rw [setRow_size]; exact Nat.le_refl _, fun B _ hne => hfar B (fun h => hne q pl rr hp hrr hrw h.symm)⟩
              · intro k pl' hk
                unfold upm at hk
                split at hk
                · rename_i hke
                  obtain rfl := Option.some.inj hk
                  exact .inr ⟨⟨s.h.nx, hke, Nat.le_refl _, by simp only [St.push, Heap.push, hnews]; omega⟩, .inr ⟨q, pl, rr, hp, hrr, hrw, rfl⟩⟩
                · exact .inl hk
          · obtain ⟨_, hr⟩ := append_run (P := P) (w := w) (ty := o.type) ht hu hi hzv (some ⟨pl.B, pl.O, none⟩) n pl.cap ya m cap vs (by rw [hsz']; exact hfirst)
            have hold : ∀ w' : World, w'.heap = w.heap → (Builtin.firstCells i.size n (.slice (some ⟨pl.B, pl.O, none⟩) n pl.cap)).run P w' = .ok (cs.toList.take (n * sz)).toArray w' := by
              intro w' hw'
              have hl2 : (cs.toList.take (n * sz)).length = n * i.size := by rw [hsz']; simp; omega
              refine run_firstCells_some w' i.size n ⟨pl.B, pl.O, none⟩ n pl.cap (cs.toList.take (n * sz)) hl2 ?_
              intro j v hv
              rw [Addr.add_lit, hO, Nat.zero_add, cell_row (by rw [hw']; exact hblk)]
              have hj : j < n * sz := by
                have := (List.getElem?_eq_some_iff.1 hv).1
                simp at this
                omega
              rw [List.getElem?_take, if_pos hj] at hv
              simpa using hv
            have hrun := hr (cs.toList.take (n * sz)) (by omega) (h63 n m hlim) (h48 n m pl.cap hlim (by omega)) hby.2 hold
            refine ⟨_, _, upm μ (.inr s.h.nx) ⟨w.heap.size, 0, grownCap w (n + m) pl.cap e⟩, hexec _ _ (by rw [hvx, hvy]; exact hrun), ?_, ?_⟩
            · exact ⟨_, _, rfl, grownCap_ge _ _ _ _, _, upm_self, rfl, rfl, rfl⟩
            · have hpost := grow_post hs (g' := kilm s.get q) (fun k r h => (kilm_some h).2) (nx := s.h.nx) rfl hnew (l := rr.cs ++ new) (vs := cs.toList.take (n * sz) ++ vs) (ConL.append (by simpa [hrlen] using hcsl) hcon) (noLocL.append hncs hnl) hlen2 (grownCap_ge w (n + m) pl.cap e) hzs e
              have hnx2 : ((s.set q none).push ⟨rr.cs ++ new, sz, true⟩).h.nx = s.h.nx + 1 := by simp only [St.push, Heap.push, hnews]
              rw [hnx2]
              exact hpost
        · exact absurd h (by simp)
      · exact absurd h (by simp)
    · -- one whose room is just what it holds
      rename_i q off n
      split at h
      · rename_i rr hrr
        split at h
        · rename_i hcond
          obtain ⟨hm0, hlim, hfit⟩ := hcond
          simp only [Option.some.injEq, Prod.mk.injEq] at h
          obtain ⟨rfl, rfl⟩ := h
          have hnew := hnew' rfl
          have hel2 : s.elems sz (.sl q off n .exact) = some ((rr.cs.drop off).take (n * sz)) := by simp [St.elems, hrr, hfit]
          have hac : ConC μ (.sl q off n .exact) (ρ x) := ha
          obtain ⟨xa, n', xc, us, hvx, _, hn', hul, hcon2, hnl2, hlen2, hfirst2⟩ := elems_all (P := P) hs hac hel2
          simp only [Ce.slen, Option.some.injEq] at hn'
          subst hn'
          obtain ⟨xa', xc', hvx', _, pl, hp, _, hxc⟩ := hac
          have heq := hvx'.symm.trans hvx
          injection heq with e3 e4 e5
          rw [← e3, ← e5, hxc] at hfirst2
          rw [hxc] at hvx'
          obtain ⟨_, hr⟩ := append_run (P := P) (w := w) (ty := o.type) ht hu hi hzv xa' n n ya m cap vs (by rw [hsz']; exact hfirst)
          have hrun := hr us (by omega) (h63 n m hlim) (h48 n m n hlim (by omega)) hby.2 (by rw [hsz']; exact hfirst2)
          refine ⟨_, _, upm μ (.inr s.h.nx) ⟨w.heap.size, 0, grownCap w (n + m) n e⟩, hexec _ _ (by rw [hvx', hvy]; exact hrun), ?_, ?_⟩
          · exact ⟨_, _, rfl, grownCap_ge _ _ _ _, _, upm_self, rfl, rfl, rfl⟩
          · rw [get_push]
            exact grow_post hs (fun q r h => h) rfl hnew (hcon2.append hcon) (noLocL.append hnl2 hnl) (by rw [List.length_append, hlen2, hnlen, Nat.add_mul]) (grownCap_ge _ _ _ _) hzs e
        · exact absurd h (by simp)
      · exact absurd h (by simp)
    · exact absurd h (by simp)
  · exact absurd h (by simp)

end Go.Abs
