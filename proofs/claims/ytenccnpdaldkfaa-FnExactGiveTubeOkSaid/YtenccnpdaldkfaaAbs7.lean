/-
  The light operations: reads, and new blocks.
-/
import Derived.Test.YtenccnpdaldkfaaAbs6
import Derived.Laws.MakeOwn
namespace Go.Abs

variable {P : Program} {μ : Mp} {T : Nat → Av} {ρ : Operand → Value} {w : World} {g : Mem}

theorem cell_row {w : World} {B : Nat} {cs : Array Value} {e : TypeId} {fr : Nat × Nat} (h : w.heap[B]? = some (.cells cs e fr)) (i : Nat) : w.cell? ⟨B, i, none⟩ = cs[i]? := by
  simp [World.cell?, h]

theorem RowAt.cell {pl : Place} {r : Row} (h : RowAt μ w pl r) {i : Nat} {c : Ce} (hc : r.cs[i]? = some c) : ∃ v, w.cell? ⟨pl.B, pl.O + i, none⟩ = some v ∧ ConC μ c v := by
  obtain ⟨cs, e, fr, hb, hsz, hl, _, _⟩ := h
  obtain ⟨v, hv, hcon⟩ := hl.get i c hc
  refine ⟨v, ?_, hcon⟩
  rw [cell_row hb]
  have hi : i < r.cs.length := (List.getElem?_eq_some_iff.1 hc).1
  rw [List.getElem?_take, if_pos hi, List.getElem?_drop] at hv
  simpa using hv

theorem RowAt.cells {pl : Place} {r : Row} (h : RowAt μ w pl r) {o n : Nat} (hn : o + n ≤ r.cs.length) :
    ∃ vs : List Value, vs.length = n ∧ (∀ (j : Nat) v, vs[j]? = some v → w.cell? ((⟨pl.B, pl.O + o, none⟩ : Addr).add j) = some v) ∧ ConL μ ((r.cs.drop o).take n) vs := by
  obtain ⟨cs, e, fr, hb, hsz, hl, _, _⟩ := h
  refine ⟨(((cs.toList.drop pl.O).take r.cs.length).drop o).take n, ?_, ?_, (hl.drop o).take n⟩
  · simp; omega
  · intro j v hv
    rw [Addr.add_lit, cell_row hb]
    have hj : j < n := by
      have := (List.getElem?_eq_some_iff.1 hv).1
      simp at this
      omega
    rw [List.getElem?_take, if_pos hj, List.getElem?_drop, List.getElem?_take, if_pos (by omega), List.getElem?_drop] at hv
    simpa [Nat.add_assoc] using hv

theorem agg_true {t : TypeId} (h : aggOf P t = some true) (w : World) : (isAgg t).run P w = .ok true w := by
  unfold aggOf at h
  split at h
  · rename_i q hu; simp [isAgg, underlying, hu]
  · rename_i q q' hu; simp [isAgg, underlying, hu]
  · simp at h
  · simp at h
theorem agg_false {t : TypeId} (h : aggOf P t = some false) (w : World) : (isAgg t).run P w = .ok false w := by
  unfold aggOf at h
  split at h
  · simp at h
  · simp at h
  · rename_i u h1 h2 hu
    cases u <;> simp_all [isAgg, underlying]
  · simp at h

theorem g_load1 {o : Oper} {t : TypeId} {x : Operand} (ho : o.op = .load t x) (ht : aggOf P t = some false) {p : Key × Nat} {r : Row} {c : Ce} (hs : Sim μ g w) (hx : ConA μ (ev T (opdOf x)) (ρ x)) (kx : (ev T (opdOf x)).ptr? = some p)
    (kr : g p.1 = some r) (kc : r.cs[p.2]? = some c) : Gives P ρ o w μ (.v (.c c)) := by
  obtain ⟨pl, hp, e⟩ := con_ptr hx kx
  obtain ⟨v, hv, hcon⟩ := (hs.row _ _ _ hp kr).cell kc
  exact ⟨v, by simp [execOp, ho, e, Instr.loadAt, Instr.sureAddr, loadVar, agg_false ht, hv], hcon⟩

theorem g_loadN {o : Oper} {t : TypeId} {x : Operand} (ho : o.op = .load t x) (ht : aggOf P t = some true) {n : Nat} (hz : szOf P t = some n) {p : Key × Nat} {r : Row} (hs : Sim μ g w) (hx : ConA μ (ev T (opdOf x)) (ρ x)) (kx : (ev T (opdOf x)).ptr? = some p)
    (kr : g p.1 = some r) (kc : p.2 + n ≤ r.cs.length) : Gives P ρ o w μ (.v (.agg ((r.cs.drop p.2).take n))) := by
  obtain ⟨pl, hp, e⟩ := con_ptr hx kx
  obtain ⟨vs, hl, hc, hcon⟩ := (hs.row _ _ _ hp kr).cells kc
  obtain ⟨_, _, _, _, _, _, hnl, _⟩ := hs.row _ _ _ hp kr
  simp only [szOf, Option.map_eq_some_iff] at hz
  obtain ⟨i, hi, rfl⟩ := hz
  have hr := run_loadCells_list (P := P) w _ vs hc
  rw [hl] at hr
  exact ⟨.agg vs.toArray, by simp [execOp, ho, e, Instr.loadAt, Instr.sureAddr, loadVar, agg_true ht, sizeOf, typeInfo, hi, hr], vs, rfl, hcon, (hnl.drop _).take _⟩

/-- What a slice's elements are, in the world. -/
theorem elems_run {sz : Nat} {c : Ce} {v : Value} {s : St} {l : List Ce} (hg : ∀ q r, (∃ o n m, c = .sl q o n m) → s.get q = some r → g q = some r) (hs : Sim μ g w) (hc : ConC μ c v) (he : s.elems sz c = some l) :
    ∃ (a : Option Addr) (n cap : Nat) (vs : List Value), v = .slice a n cap ∧ n ≤ cap ∧ c.slen = some n ∧ vs.length = n * sz ∧ ConL μ l vs ∧ noLocL l ∧ l.length = n * sz ∧ (a = none → vs = []) ∧ (∀ A, a = some A → ∀ w' : World, w'.heap = w.heap → (loadCells A (n * sz)).run P w' = .ok vs.toArray w') := by
  cases c with
  | nils =>
    simp only [St.elems, Option.some.injEq] at he
    subst he
    exact ⟨none, 0, 0, [], hc, Nat.le_refl _, rfl, by simp, trivial, trivial, by simp, fun _ => rfl, fun A h => by cases h⟩
  | sl q o n m =>
    simp only [St.elems] at he
    split at he
    · rename_i r hr
      split at he
      · rename_i hfit
        simp only [Option.some.injEq] at he
        subst he
        obtain ⟨a, cap, rfl, hcap, pl, hp, hm⟩ := hc
        have hrow := hs.row _ _ _ hp (hg q r ⟨o, n, m, rfl⟩ hr)
        obtain ⟨vs, hl, hcell, hcon⟩ := hrow.cells hfit
        obtain ⟨_, _, _, _, _, _, hnl, _⟩ := hrow
        refine ⟨a, n, cap, vs, rfl, hcap, rfl, hl, hcon, (hnl.drop _).take _, by simp; omega, ?_, ?_⟩
        · intro ha
          subst ha
          have : n = 0 := by
            rcases Nat.eq_zero_or_pos n with h | h
            · exact h
            · cases m with
              | own => obtain ⟨h1, _⟩ := hm; cases h1
              | exact => exact absurd (hm.1 h) (by simp)
              | any => exact absurd (hm h) (by simp)
          subst this
          simpa using hl
        · intro A hA w' hw'
          subst hA
          rcases Nat.eq_zero_or_pos n with h | h
          · subst h
            have : vs = [] := by simpa using hl
            subst this
            simp [loadCells, loadCellsFrom]
          · have hAd : A = ⟨pl.B, pl.O + o, none⟩ := by
              cases m with
              | own => obtain ⟨h1, h2, _⟩ := hm; rw [h2]; simpa using h1
              | exact => simpa using hm.1 h
              | any => simpa using hm h
            rw [hAd, ← hl]
            exact run_loadCells_list w' _ vs (fun j v hv => by have := hcell j v hv; simpa [World.cell?, hw'] using this)
      · simp at he
    · simp at he
  | _ => simp [St.elems] at he

theorem bytes_con : ∀ {l : List Ce} {b : List UInt8} {vs : List Value}, bytesOfCes l = some b → ConL μ l vs → ∃ ns : List Int, vs = ns.map (Value.int .u8) ∧ b = ns.map fun n => UInt8.ofNat n.toNat
  | [], b, vs, h, hc => by
    simp only [bytesOfCes, Option.some.injEq] at h
    subst h
    cases vs with
    | nil => exact ⟨[], rfl, rfl⟩
    | cons _ _ => exact hc.elim
  | x :: l, b, vs, h, hc => by
    unfold bytesOfCes at h
    split at h
    · rename_i heq; exact absurd heq (by simp)
    · rename_i n r heq
      injection heq with h1 h2
      subst h1 h2
      cases hb : bytesOfCes l with
      | none => rw [hb] at h; simp at h
      | some b' =>
        rw [hb] at h
        obtain rfl := Option.some.inj h
        cases vs with
        | nil => exact hc.elim
        | cons v vs =>
          obtain ⟨ns, e1, e2⟩ := bytes_con hb hc.2
          have hv : v = .int .u8 n := hc.1
          exact ⟨n :: ns, by rw [hv, e1]; rfl, by rw [e2]; rfl⟩
    · exact absurd h (by simp)

theorem foldl_push (ns : List Int) : ∀ (b : ByteArray), ns.foldl (fun r n => r.push (UInt8.ofNat n.toNat)) b = ⟨b.data ++ (ns.map fun n => UInt8.ofNat n.toNat).toArray⟩ := by
  induction ns with
  | nil => intro b; simp
  | cons n ns ih =>
    intro b
    rw [List.foldl_cons, ih]
    simp [ByteArray.push]

theorem g_convSB {o : Oper} {sT dT e : TypeId} {x : Operand} (ho : o.op = .convert sT dT x) (hsT : P.underlying sT = some (.slice e)) (hdT : P.underlying dT = some .string) (he : P.underlying e = some (.int .u8)) {c : Ce} {s : St} {l : List Ce} {b : List UInt8}
    (hg : ∀ q r, (∃ o n m, c = .sl q o n m) → s.get q = some r → g q = some r) (hs : Sim μ g w) (hx : ConA μ (ev T (opdOf x)) (ρ x)) (kx : (ev T (opdOf x)).ce? = some c) (kl : s.elems 1 c = some l) (kb : bytesOfCes l = some b) :
    Gives P ρ o w μ (.v (.c (.str ⟨b.toArray⟩))) := by
  rw [ev_ce kx] at hx
  obtain ⟨a, n, cap, vs, hv, _, _, hl, hcon, _, _, hnone, hload⟩ := elems_run (P := P) hg hs hx kl
  obtain ⟨ns, e1, e2⟩ := bytes_con kb hcon
  have hr : (convert sT dT (ρ x)).run P w = .ok (.string ⟨b.toArray⟩) w := by
    rw [hv, run_convert_bytes_string w sT dT e a n cap hsT he hdT]
    cases a with
    | none =>
      have h0 := hnone rfl
      subst h0
      have : ns = [] := List.map_eq_nil_iff.1 e1.symm
      subst this
      subst e2
      simp [Conv.bytesToString]
      rfl
    | some A =>
      have h1 := hload A rfl w rfl
      rw [Nat.mul_one] at h1
      rw [run_bytesToString w A n cap ns (by rw [h1, e1]), foldl_push, e2]
      simp [ByteArray.empty, ByteArray.emptyWithCapacity]
      rfl
  exact ⟨_, by simp only [execOp, ho, Sem.run_bind, hr]; rfl, rfl⟩

theorem heap_old (w : World) (o : Obj) (k : Nat) (h : k < w.heap.size) : (w.alloc o).heap[k]? = w.heap[k]? := by
  show (w.heap.push o)[k]? = _
  rw [Array.getElem?_push, if_neg (by omega)]
theorem heap_new (w : World) (o : Obj) : (w.alloc o).heap[w.heap.size]? = some o := by
  show (w.heap.push o)[w.heap.size]? = _
  simp
theorem size_alloc (w : World) (o : Obj) : (w.alloc o).heap.size = w.heap.size + 1 := by
  show (w.heap.push o).size = _
  simp

def upm (μ : Mp) (q : Key) (pl : Place) : Mp := fun k => if k = q then some pl else μ k
def upg (g : Mem) (q : Key) (r : Row) : Mem := fun k => if k = q then some r else g k

theorem upm_le {q : Key} {pl : Place} (h : μ q = none) : Le μ (upm μ q pl) := fun k p hk => by
  unfold upm
  split
  · rename_i e; subst e; rw [h] at hk; cases hk
  · exact hk
theorem upm_self {q : Key} {pl : Place} : upm μ q pl q = some pl := by simp [upm]

theorem RowAt.le {μ' : Mp} {w' : World} {pl : Place} {r : Row} (h : RowAt μ w pl r) (hl : Le μ μ') (hb : w'.heap[pl.B]? = w.heap[pl.B]?) : RowAt μ' w' pl r := by
  obtain ⟨cs, e, fr, h1, h2, h3, h4, h5⟩ := h
  exact ⟨cs, e, fr, hb.trans h1, h2, h3.le hl, h4, h5⟩
theorem RowAt.lt {pl : Place} {r : Row} (h : RowAt μ w pl r) : pl.B < w.heap.size := by
  obtain ⟨cs, e, fr, h1, _⟩ := h
  exact (Array.getElem?_eq_some_iff.1 h1).1

/-- A new block beside the old ones. -/
theorem Sim.new (hs : Sim μ g w) {q : Key} (hq : μ q = none) {cs : Array Value} {e : TypeId} {r : Row} {cap : Nat} (hl : r.cs.length ≤ cs.size) (hc : ConL μ r.cs (cs.toList.take r.cs.length)) (hn : noLocL r.cs) (hcap : cap * r.sz ≤ cs.size) :
    Sim (upm μ q ⟨w.heap.size, 0, cap⟩) (upg g q r) (w.alloc (.cells cs e (0, 0))) := by
  have hle : Le μ (upm μ q ⟨w.heap.size, 0, cap⟩) := upm_le hq
  constructor
  · intro k pl r' hk hr'
    unfold upm at hk
    unfold upg at hr'
    split at hk
    · rename_i he
      subst he
      rw [if_pos rfl] at hr'
      obtain rfl := Option.some.inj hk
      obtain rfl := Option.some.inj hr'
      exact ⟨cs, e, (0, 0), heap_new w _, by simpa using hl, by simpa using hc.le hle, hn, fun _ => ⟨rfl, rfl, hcap⟩⟩
    · rename_i he
      rw [if_neg he] at hr'
      have := hs.row k pl r' hk hr'
      exact this.le hle (heap_old w _ _ this.lt)
  · intro k k' pl pl' r1 r2 hne hk hk' hr1 hr2 hrw
    unfold upm at hk hk'
    unfold upg at hr1 hr2
    split at hk
    · rename_i he
      subst he
      rw [if_neg (fun h => hne h.symm)] at hk' hr2
      obtain rfl := Option.some.inj hk
      have := (hs.row k' pl' r2 hk' hr2).lt
      simp only
      omega
    · rename_i he
      rw [if_neg he] at hr1
      split at hk'
      · rename_i he'
        obtain rfl := Option.some.inj hk'
        have := (hs.row k pl r1 hk hr1).lt
        simp only
        omega
      · rename_i he'
        rw [if_neg he'] at hr2
        exact hs.apart k k' pl pl' r1 r2 hne hk hk' hr1 hr2 hrw

theorem Frm.alloc (μ : Mp) (g : Mem) (w : World) (o : Obj) : Frm μ g w (w.alloc o) :=
  ⟨rfl, rfl, rfl, by rw [size_alloc]; omega, fun B hB _ => heap_old w o B hB⟩

/-- The operation makes the block q, of the row r. -/
def Makes (P : Program) (ρ : Operand → Value) (o : Oper) (w : World) (μ : Mp) (v : Av) (q : Key) (r : Row) : Prop :=
  ∃ v' cs e cap, (execOp ρ o).run P w = .ok (.value v') (w.alloc (.cells cs e (0, 0))) ∧ r.cs.length ≤ cs.size ∧ ConL μ r.cs (cs.toList.take r.cs.length) ∧ noLocL r.cs ∧ cap * r.sz ≤ cs.size ∧
    ConA (upm μ q ⟨w.heap.size, 0, cap⟩) v v'

theorem info_size {t : TypeId} {n : Nat} (h : szOf P t = some n) : ∃ i, P.info? t = some i ∧ i.size = n := by
  simpa [szOf, Option.map_eq_some_iff] using h

theorem m_box {o : Oper} {e : TypeId} {x : Operand} (ho : o.op = .box e x) {n : Nat} {t : Tv} (hx : ConA μ (ev T (opdOf x)) (ρ x)) (kx : (ev T (opdOf x)).tv? = some t) (hl : t.noLoc = true) (hlen : t.cells.length = n) (q : Key) :
    Makes P ρ o w μ (.v (.c (.ptr q 0))) q ⟨t.cells, n, true⟩ := by
  rw [ev_tv kx] at hx
  obtain ⟨hc, hn⟩ := con_cells hx hl
  have hsz : t.cells.length = (ρ x).cells.size := by rw [hc.length]; simp
  refine ⟨.pointer (some ⟨w.heap.size, 0, none⟩), (ρ x).cells, e, 1, ?_, by simp; omega, ?_, hn, by simp; omega, ⟨w.heap.size, 0, 1⟩, upm_self, by simp⟩
  · simp [execOp, ho, Instr.box, newVar, newRow]
  · rw [hsz]
    simpa [List.take_of_length_le] using hc

theorem m_alloc {o : Oper} {e : TypeId} (ho : o.op = .alloc e) {n : Nat} {z : List Ce} (hz : zeroOf P e = some z) (hn : z.length = n) (q : Key) : Makes P ρ o w μ (.v (.c (.ptr q 0))) q ⟨z, n, true⟩ := by
  obtain ⟨i, v, hi, hv, hc⟩ := zeroOf_some hz
  obtain ⟨h1, h2⟩ := zero_con (μ := μ) hc
  have hsz : z.length = v.cells.size := by rw [h1.length]; simp
  refine ⟨.pointer (some ⟨w.heap.size, 0, none⟩), v.cells, e, 1, ?_, by simp; omega, ?_, h2, by simp; omega, ⟨w.heap.size, 0, 1⟩, upm_self, by simp⟩
  · simp [execOp, ho, Instr.alloc, newVar, newRow, zeroValue, typeInfo, hi, hv]
  · rw [hsz]
    simpa [List.take_of_length_le] using h1

theorem repl_con {z : List Ce} {zs : List Value} (h : ConL μ z zs) : ∀ n, ConL μ (repl n z) (List.replicate n zs).flatten
  | 0 => trivial
  | n + 1 => by
    simp only [repl, List.replicate_succ, List.flatten_cons]
    exact h.append (repl_con h n)
theorem repl_noLoc {z : List Ce} (h : noLocL z) : ∀ n, noLocL (repl n z)
  | 0 => trivial
  | n + 1 => by
    simp only [repl, List.replicate_succ, List.flatten_cons]
    exact noLocL.append h (repl_noLoc h n)
theorem repl_length (z : List Ce) (n : Nat) : (repl n z).length = n * z.length := by
  simp [repl]

theorem made_list (z : Array Value) (hz : 0 < z.size) : ∀ n, (madeCells z (n * z.size)).toList = (List.replicate n z.toList).flatten := by
  intro n
  apply List.ext_getElem?
  intro i
  have hlen : ((List.replicate n z.toList).flatten).length = n * z.size := by simp
  by_cases hi : i < n * z.size
  · rw [madeCells, Array.toList_map, Array.toList_range, List.getElem?_map, List.getElem?_range hi]
    have key : ∀ n i, i < n * z.size → ((List.replicate n z.toList).flatten)[i]? = z[i % z.size]? := by
      intro n
      induction n with
      | zero => intro i h; simp at h
      | succ n ih =>
        intro i h
        simp only [List.replicate_succ, List.flatten_cons]
        by_cases h1 : i < z.size
        · rw [List.getElem?_append_left (by simpa using h1), Nat.mod_eq_of_lt h1]
          simp
        · rw [List.getElem?_append_right (by simp; omega)]
          simp only [Array.length_toList]
          rw [ih (i - z.size) (by have h5 : (n + 1) * z.size = n * z.size + z.size := Nat.succ_mul n z.size; omega), Nat.mod_eq_sub_mod (a := i) (by omega)]
    rw [key n i hi]
    simp [Nat.mod_lt _ hz]
  · rw [List.getElem?_eq_none (by rw [madeCells]; simp; omega), List.getElem?_eq_none (by omega)]

theorem m_make {o : Oper} {t : TypeId} {l c : Operand} (ho : o.op = .makeSlice t l c) {e : TypeId} {n : Nat} {z : List Ce} (ht : P.underlying t = some (.slice e)) (hn : szOf P e = some n) (hz : zeroOf P e = some z) (hzl : z.length = n) (h0 : 0 < n) (hsm : smallOf P e = true)
    {m : Int} (hl : ConA μ (ev T (opdOf l)) (ρ l)) (hc : ConA μ (ev T (opdOf c)) (ρ c)) (kl : (ev T (opdOf l)).int64? = some m) (kc : (ev T (opdOf c)).int64? = some m) (hm0 : 0 ≤ m) (hm : m ≤ lim) (q : Key) :
    Makes P ρ o w μ (.v (.c (.sl q 0 m.toNat .own))) q ⟨repl m.toNat z, n, true⟩ := by
  obtain ⟨i, v, hi, hv, hcz⟩ := zeroOf_some hz
  obtain ⟨h1, h2⟩ := zero_con (μ := μ) hcz
  rw [ev_int64 kl] at hl
  rw [ev_int64 kc] at hc
  have el : ρ l = .int .i64 m := hl
  have ec : ρ c = .int .i64 m := hc
  have hsz : v.cells.size = n := by rw [← hzl, h1.length]; simp
  obtain ⟨i', hi', hsz'⟩ := info_size hn
  rw [hi] at hi'
  obtain rfl := Option.some.inj hi'
  unfold smallOf at hsm
  rw [hi] at hsm
  simp only [Bool.and_eq_true, decide_eq_true_eq] at hsm
  have hml : (m : Int) ≤ 4294967296 := by simpa [lim] using hm
  have hb : (i.bytes : Int) * m ≤ 281474976710656 := by
    have h3 : (i.bytes : Int) ≤ 4096 := by omega
    have h4 : (0 : Int) ≤ i.bytes := by omega
    calc (i.bytes : Int) * m ≤ 4096 * m := Int.mul_le_mul_of_nonneg_right h3 hm0
      _ ≤ 281474976710656 := by omega
  have hr := run_make (P := P) w t e i v ht hi hv .i64 .i64 m m hm0 (Int.le_refl _) hb (by omega)
  refine ⟨.slice (some ⟨w.heap.size, 0, none⟩) m.toNat m.toNat, madeCells v.cells (m.toNat * i.size), e, m.toNat, ?_, ?_, ?_, repl_noLoc h2 _, ?_, ?_⟩
  · simp only [execOp, ho, el, ec, Sem.run_bind, hr]
    rfl
  · simp [repl_length, size_madeCells, hzl, hsz']
  · have e1 : (repl m.toNat z).length = (madeCells v.cells (m.toNat * i.size)).toList.length := by simp [repl_length, size_madeCells, hzl, hsz']
    rw [e1, List.take_length]
    have e2 := made_list v.cells (by omega) m.toNat
    rw [hsz] at e2
    rw [hsz', e2]
    exact repl_con h1 _
  · simp [size_madeCells, hsz']
  · exact ⟨_, _, rfl, Nat.le_refl _, _, upm_self, rfl, rfl, rfl⟩

theorem m_mkSl {o : Oper} {t : TypeId} {len : Nat} {parts : Array (Nat × Operand)} (ho : o.op = .buildSlice t len parts) {e : TypeId} {n : Nat} {z : List Ce} (ht : P.underlying t = some (.slice e)) (hn : szOf P e = some n) (hz : zeroOf P e = some z)
    (hzl : z.length = n) (h0 : 0 < n) (hlim : len * n ≤ 16777216) {ps : List (Nat × Nat × Opd)} (hps : partsOf (fun i => some (i * n, n)) parts.toList = some ps) {r : List Ce} (hr : fillA T (repl len z) ps = some r)
    (ha : ∀ p ∈ parts.toList, ConA μ (ev T (opdOf p.2)) (ρ p.2)) (q : Key) :
    Makes P ρ o w μ (.v (.c (.sl q 0 len .own))) q ⟨r, n, true⟩ ∧ Makes P ρ o w μ (.v (.c (.sl q 0 len .any))) q ⟨r, n, true⟩ := by
  obtain ⟨i, v, hi, hv, hcz⟩ := zeroOf_some hz
  obtain ⟨h1, h2⟩ := zero_con (μ := μ) hcz
  have hsz : v.cells.size = n := by rw [← hzl, h1.length]; simp
  obtain ⟨i', hi', hsz'⟩ := info_size hn
  rw [hi] at hi'
  obtain rfl := Option.some.inj hi'
  have hcon : ConL μ (repl len z) (madeCells v.cells (len * n)).toList := by
    have e2 := made_list v.cells (by omega) len
    rw [hsz] at e2
    rw [e2]
    exact repl_con h1 _
  obtain ⟨cs', hf, hc', hn', hlen'⟩ := fill_con parts.toList ps _ r _ hps hr hcon (repl_noLoc h2 _) ha
  have hrl : r.length = len * n := by rw [hlen', repl_length, hzl]
  have hcsz : cs'.size = len * n := by
    have := hc'.length
    rw [hrl] at this
    simpa using this.symm
  have hrun : (execOp ρ o).run P w = .ok (.value (.slice (some ⟨w.heap.size, 0, none⟩) len len)) (w.alloc (.cells cs' e (0, 0))) := by
    have hmap : (parts.map fun (x : Nat × Operand) => match x with | (i, x) => (i, ρ x)) = parts.map fun p => (p.1, ρ p.2) := rfl
    simp only [execOp, ho, Instr.buildSlice, Sem.run_bind, run_underlying ht, Result.andThen_ok, sizeOf, typeInfo, hmap]
    by_cases h : len * n = 0
    · rw [h] at hf
      simp only [madeCells, Array.range_zero', List.map_toArray, List.map_nil] at hf
      simp [hi, hsz', h, hf, newRow, Array.range_zero']
    · simp [madeCells] at hf
      simp [hi, hsz', h, hf, newRow, zeroValue, typeInfo, hv, show ¬ 16777216 < len * n by omega]
  have htake : cs'.toList.take r.length = cs'.toList := by
    apply List.take_of_length_le
    simp; omega
  constructor
  · exact ⟨_, cs', e, len, hrun, by simp; omega, by simpa [htake] using hc', hn', by simp; omega, _, _, rfl, Nat.le_refl _, _, upm_self, rfl, rfl, rfl⟩
  · exact ⟨_, cs', e, len, hrun, by simp; omega, by simpa [htake] using hc', hn', by simp; omega, _, _, rfl, Nat.le_refl _, _, upm_self, fun _ => rfl⟩

end Go.Abs
