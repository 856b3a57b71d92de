/-
  The operations that only reckon, third part: slicing; structs put together.
-/
import Derived.Test.YtenccnpdaldkfaaAbs5
import Derived.Laws.Tables
namespace Go.Abs

variable {P : Program} {μ : Mp} {T : Nat → Av} {ρ : Operand → Value} {w : World}

theorem bound_run (k : IntKind) (i : Int) (y : Nat) (code : BoundsCode) (h0 : 0 ≤ i) (h1 : i ≤ y) : (Instr.sliceBound (.int k i) y code).run P w = .ok i.toNat w := by
  simp [Instr.sliceBound, asIntOf, h0, h1]

def OptCon (μ : Mp) (T : Nat → Av) (ρ : Operand → Value) : Option Operand → Prop
  | none => True
  | some X => ConA μ (ev T (opdOf X)) (ρ X)

theorem opt_some {X : Operand} {d : Nat} {n : Int} (h : OptCon μ T ρ (some X)) (k : optInt T d (some (opdOf X)) = some n) : ∃ q, ρ X = .int q n := con_int h k

theorem bounds_run (isS : Bool) (len cap : Nat) (hlc : len ≤ cap) (lo hi mx : Option Operand) (hlo : OptCon μ T ρ lo) (hhi : OptCon μ T ρ hi) (hmx : OptCon μ T ρ mx) {l h m : Int}
    (km : optInt T len (mx.map opdOf) = some m) (kh : (match hi.map opdOf, mx.map opdOf with | none, some _ => none | _, _ => optInt T len (hi.map opdOf)) = some h) (kl : optInt T 0 (lo.map opdOf) = some l)
    (h0 : 0 ≤ l) (h1 : l ≤ h) (h2 : h ≤ m) (h3 : m ≤ len) :
    (Instr.sliceBounds isS len cap (lo.map ρ) (hi.map ρ) (mx.map ρ)).run P w = .ok (l.toNat, h.toNat, if mx.isSome then m.toNat else cap) w := by
  have B := fun q i y code => bound_run (P := P) (w := w) q i y code
  cases mx with
  | none =>
    simp only [Option.map_none, optInt, Option.some.injEq] at km
    subst km
    cases hi with
    | none =>
      simp only [Option.map_none, optInt, Option.some.injEq] at kh
      subst kh
      cases lo with
      | none =>
        simp only [Option.map_none, optInt, Option.some.injEq] at kl
        subst kl
        simp [Instr.sliceBounds]
      | some Z =>
        obtain ⟨q, e⟩ := opt_some (d := 0) hlo kl
        simp [Instr.sliceBounds, e, B q l len .sliceB h0 h1]
    | some X =>
      obtain ⟨q', e'⟩ := opt_some (d := len) hhi kh
      cases lo with
      | none =>
        simp only [Option.map_none, optInt, Option.some.injEq] at kl
        subst kl
        cases isS <;> simp [Instr.sliceBounds, e', B q' h cap _ (by omega) (by omega)]
      | some Z =>
        obtain ⟨q, e⟩ := opt_some (d := 0) hlo kl
        cases isS <;> simp [Instr.sliceBounds, e, e', B q' h cap _ (by omega) (by omega), B q l h.toNat .sliceB h0 (by omega)]
  | some Y =>
    obtain ⟨q2, e2⟩ := opt_some (d := len) hmx km
    cases hi with
    | none => simp at kh
    | some X =>
      have kh' : optInt T len (some (opdOf X)) = some h := by simpa using kh
      obtain ⟨q', e'⟩ := opt_some (d := len) hhi kh'
      cases lo with
      | none =>
        simp only [Option.map_none, optInt, Option.some.injEq] at kl
        subst kl
        cases isS <;> simp [Instr.sliceBounds, e', e2, B q2 m cap _ (by omega) (by omega), B q' h m.toNat _ (by omega) (by omega)]
      | some Z =>
        obtain ⟨q, e⟩ := opt_some (d := 0) hlo kl
        cases isS <;> simp [Instr.sliceBounds, e, e', e2, B q2 m cap _ (by omega) (by omega), B q' h m.toNat _ (by omega) (by omega), B q l h.toNat _ h0 (by omega)]

theorem g_slice {o : Oper} {t : TypeId} {x : Operand} {lo hi mx : Option Operand} (ho : o.op = .slice t x lo hi mx) {e : TypeId} {sz : Nat} (ht : P.underlying t = some (.slice e)) (hz : szOf P e = some sz) {c r : Ce} {n : Nat} {l h m : Int}
    (hx : ConA μ (ev T (opdOf x)) (ρ x)) (hlo : OptCon μ T ρ lo) (hhi : OptCon μ T ρ hi) (hmx : OptCon μ T ρ mx) (kx : (ev T (opdOf x)).ce? = some c) (kn : c.slen = some n)
    (km : optInt T n (mx.map opdOf) = some m) (kh : (match hi.map opdOf, mx.map opdOf with | none, some _ => none | _, _ => optInt T n (hi.map opdOf)) = some h) (kl : optInt T 0 (lo.map opdOf) = some l)
    (h0 : 0 ≤ l) (h1 : l ≤ h) (h2 : h ≤ m) (h3 : m ≤ n)
    (kr : c = .nils ∧ r = .nils ∨ ∃ q off md, c = .sl q off n md ∧ r = .sl q (off + l.toNat * sz) (h - l).toNat (match mx.map opdOf with | some _ => if h = m then .exact else .any | none => .any)) :
    Gives P ρ o w μ (.v (.c r)) := by
  rw [ev_ce kx] at hx
  simp only [szOf, Option.map_eq_some_iff] at hz
  obtain ⟨ii, hii, rfl⟩ := hz
  have runs : ∀ (a : Option Addr) (cp : Nat), ρ x = .slice a n cp → n ≤ cp →
      (execOp ρ o).run P w = .ok (.value (.slice (if (if mx.isSome then m.toNat else cp) = l.toNat then a else a.map (·.add (l.toNat * ii.size))) (h.toNat - l.toNat) ((if mx.isSome then m.toNat else cp) - l.toNat))) w := by
    intro a cp hv hcp
    have hb := bounds_run (P := P) (w := w) true n cp hcp lo hi mx hlo hhi hmx km kh kl h0 h1 h2 h3
    simp [execOp, ho, hv, Instr.sliceAt, Instr.slice, underlying, ht, hb, sizeOf, typeInfo, program, Sem.run, hii]
  rcases kr with ⟨rfl, rfl⟩ | ⟨q, off, md, rfl, rfl⟩
  · simp only [Ce.slen, Option.some.injEq] at kn
    subst kn
    have hv : ρ x = .slice none 0 0 := hx
    refine ⟨_, runs none 0 hv (Nat.le_refl _), ?_⟩
    have e1 : h.toNat = 0 := by omega
    have e2 : l.toNat = 0 := by omega
    have e3 : m.toNat = 0 := by omega
    show _ = _
    simp [e1, e2, e3]
  · obtain ⟨a, cp, hv, hcp, pl, hp, hm⟩ := hx
    have hlen : h.toNat - l.toNat = (h - l).toNat := by omega
    refine ⟨_, runs a cp hv hcp, _, _, by rw [hlen], ?_, pl, hp, ?_⟩
    · cases mx with
      | none => simp; omega
      | some Y => simp; omega
    · have ha : 0 < n → a = some ⟨pl.B, pl.O + off, none⟩ := by
        intro hn
        cases md with
        | own => obtain ⟨e1, e2, _⟩ := hm; rw [e1, e2]; simp
        | exact => exact hm.1 hn
        | any => exact hm hn
      have hadd : 0 < (h - l).toNat → (if (if mx.isSome then m.toNat else cp) = l.toNat then a else a.map (·.add (l.toNat * ii.size))) = some ⟨pl.B, pl.O + (off + l.toNat * ii.size), none⟩ := by
        intro hpos
        rw [if_neg (by split <;> omega), ha (by omega)]
        simp [Addr.add_lit, Nat.add_assoc]
      cases mx with
      | none => exact hadd
      | some Y =>
        simp only [Option.map_some]
        by_cases hhm : h = m
        · rw [if_pos hhm]
          exact ⟨hadd, by simp; omega⟩
        · rw [if_neg hhm]
          exact hadd

theorem g_sliceS {o : Oper} {t : TypeId} {x : Operand} {lo hi : Option Operand} (ho : o.op = .slice t x lo hi none) (ht : P.underlying t = some .string) {s : ByteArray} {l h : Int}
    (hx : ConA μ (ev T (opdOf x)) (ρ x)) (hlo : OptCon μ T ρ lo) (hhi : OptCon μ T ρ hi) (kx : (ev T (opdOf x)).str? = some s)
    (kh : optInt T s.size (hi.map opdOf) = some h) (kl : optInt T 0 (lo.map opdOf) = some l) (h0 : 0 ≤ l) (h1 : l ≤ h) (h2 : h ≤ s.size) :
    Gives P ρ o w μ (.v (.c (.str (s.extract l.toNat h.toNat)))) := by
  have hv := con_str hx kx
  have hb := bounds_run (P := P) (w := w) (mx := none) false s.size s.size (Nat.le_refl _) lo hi hlo hhi trivial (m := s.size) rfl (by simpa using kh) kl h0 h1 h2 (Int.le_refl _)
  simp only [Option.map_none] at hb
  refine ⟨_, ?_, rfl⟩
  simp [execOp, ho, hv, Instr.sliceAt, Instr.slice, underlying, ht, hb]

/-- Cells written one behind the other. -/
def setsL {α : Type} (cs : List α) (off : Nat) : List α → List α
  | [] => cs
  | u :: us => setsL (cs.set off u) (off + 1) us
theorem setsL_eq {α : Type} : ∀ (us cs : List α) (off : Nat), off + us.length ≤ cs.length → setsL cs off us = cs.take off ++ us ++ cs.drop (off + us.length)
  | [], cs, off, _ => by simp [setsL]
  | u :: us, cs, off, h => by
    simp only [List.length_cons] at h
    rw [setsL, setsL_eq us _ _ (by simp; omega)]
    have e1 : (cs.set off u).take (off + 1) = cs.take off ++ [u] := by
      rw [List.take_add_one, List.take_set_of_le (Nat.le_refl _)]
      simp [show off < cs.length by omega]
    have e2 : (cs.set off u).drop (off + 1 + us.length) = cs.drop (off + (us.length + 1)) := by
      rw [List.drop_set_of_lt (by omega)]
      congr 1
      omega
    rw [e1, e2]
    simp
theorem setsL_array (off : Nat) : ∀ (us : List Value) (j : Nat) (cs : Array Value),
    ((us.zipIdx j).foldl (fun cs (p : Value × Nat) => cs.setIfInBounds (off + p.2) p.1) cs).toList = setsL cs.toList (off + j) us
  | [], j, cs => rfl
  | u :: us, j, cs => by
    rw [List.zipIdx_cons, List.foldl_cons, setsL_array off us (j + 1)]
    simp [setsL, Nat.add_assoc]

theorem setsL_length {α : Type} : ∀ (us cs : List α) (off : Nat), (setsL cs off us).length = cs.length
  | [], _, _ => rfl
  | u :: us, cs, off => by rw [setsL, setsL_length us]; simp
theorem ConL.sets {μ : Mp} {xs ys : List Ce} {vs us : List Value} {off : Nat} (h : ConL μ xs vs) (k : ConL μ ys us) (hb : off + ys.length ≤ xs.length) :
    ConL μ (xs.take off ++ ys ++ xs.drop (off + ys.length)) (setsL vs off us) := by
  rw [setsL_eq us vs off (by rw [← h.length, ← k.length]; exact hb), k.length]
  exact ((h.take off).append k).append (h.drop _)
theorem noLocL.sets {xs ys : List Ce} {off n : Nat} (h : noLocL xs) (k : noLocL ys) : noLocL (xs.take off ++ ys ++ xs.drop (off + n)) :=
  noLocL.append (noLocL.append (h.take off) k) (h.drop _)

theorem con_cells {t : Tv} {v : Value} (h : ConT μ t v) (hn : t.noLoc = true) : ConL μ t.cells v.cells.toList ∧ noLocL t.cells := by
  cases t with
  | c x =>
    have hv : v.cells = #[v] := by
      cases x with
      | int k n => obtain rfl : v = .int k n := h; rfl
      | bool b => obtain rfl : v = .bool b := h; rfl
      | str s => obtain rfl : v = .string s := h; rfl
      | nils => obtain rfl : v = .slice none 0 0 := h; rfl
      | nilp => obtain rfl : v = .pointer none := h; rfl
      | ptr q o => obtain ⟨pl, _, rfl⟩ := h; rfl
      | fn f ps => obtain ⟨l, rfl, _⟩ := h; rfl
      | sl q o n m => obtain ⟨a, c, rfl, _⟩ := h; rfl
    rw [hv]
    exact ⟨⟨h, trivial⟩, hn, trivial⟩
  | agg l =>
    obtain ⟨vs, rfl, hl, hnl⟩ := h
    exact ⟨by simpa [Value.cells, Tv.cells] using hl, hnl⟩

theorem fill_con {place : Nat → Option (Nat × Nat)} : ∀ (parts : List (Nat × Operand)) (ps : List (Nat × Nat × Opd)) (xs r : List Ce) (cs : Array Value), partsOf place parts = some ps → fillA T xs ps = some r → ConL μ xs cs.toList → noLocL xs →
    (∀ p ∈ parts, ConA μ (ev T (opdOf p.2)) (ρ p.2)) → ∃ cs', Instr.fill place cs (parts.map fun p => (p.1, ρ p.2)) = some cs' ∧ ConL μ r cs'.toList ∧ noLocL r ∧ r.length = xs.length
  | [], ps, xs, r, cs, hp, hf, hc, hn, _ => by
    simp only [partsOf, Option.some.injEq] at hp
    subst hp
    simp only [fillA, Option.some.injEq] at hf
    subst hf
    exact ⟨cs, rfl, hc, hn, rfl⟩
  | (i, x) :: parts, ps, xs, r, cs, hp, hf, hc, hn, ha => by
    simp only [partsOf, Option.bind_eq_some_iff, Option.map_eq_some_iff] at hp
    obtain ⟨⟨off, n⟩, hpl, ps', hps, rfl⟩ := hp
    simp only [fillA] at hf
    split at hf
    · rename_i t ht
      split at hf
      · rename_i hcond
        obtain ⟨hl, hlen, hfit⟩ := hcond
        have hv := ha (i, x) (by simp)
        rw [ev_tv ht] at hv
        obtain ⟨hcells, hnl⟩ := con_cells hv hl
        have hvl : (ρ x).cells.size = n := by rw [← hlen, hcells.length]; simp
        have hcl : xs.length = cs.size := by rw [hc.length]; simp
        have e : (((ρ x).cells.zipIdx.foldl (fun cs (p : Value × Nat) => cs.setIfInBounds (off + p.2) p.1) cs)).toList = setsL cs.toList off (ρ x).cells.toList := by
          rw [← Array.foldl_toList, Array.toList_zipIdx]
          simpa using setsL_array off (ρ x).cells.toList 0 cs
        have hc' := ConL.sets hc hcells (off := off) (by rw [hlen]; exact hfit)
        rw [hlen] at hc'
        obtain ⟨cs', h1, h2, h3, h4⟩ := fill_con parts ps' _ r _ hps hf (by rw [e]; exact hc') (hn.sets hnl) (fun p hp => ha p (by simp [hp]))
        refine ⟨cs', ?_, h2, h3, ?_⟩
        · simp only [List.map_cons, Instr.fill, hpl]
          rw [if_neg (by simp [hvl]; omega)]
          exact h1
        · rw [h4]; simp; omega
      · exact absurd hf (by simp)
    · exact absurd hf (by simp)

theorem zero_con {z : List Ce} : ∀ {vs : List Value}, cesOf vs = some z → ConL μ z vs ∧ noLocL z := by
  intro vs
  induction vs generalizing z with
  | nil => intro h; simp only [cesOf, Option.some.injEq] at h; subst h; exact ⟨trivial, trivial⟩
  | cons u us ih =>
    intro h
    simp only [cesOf, Option.bind_eq_some_iff, Option.map_eq_some_iff] at h
    obtain ⟨c, hc, l, hl, rfl⟩ := h
    obtain ⟨h1, h2⟩ := ih hl
    unfold ceOf at hc
    split at hc <;> simp only [Option.some.injEq, reduceCtorEq] at hc <;> subst hc <;> exact ⟨⟨rfl, h1⟩, rfl, h2⟩

theorem zeroOf_some {t : TypeId} {z : List Ce} (h : zeroOf P t = some z) : ∃ i v, P.info? t = some i ∧ i.zero = some v ∧ cesOf v.cells.toList = some z := by
  simp only [zeroOf, Option.bind_eq_some_iff] at h
  obtain ⟨i, hi, v, hv, hz⟩ := h
  exact ⟨i, v, hi, hv, hz⟩

theorem g_build {o : Oper} {t : TypeId} {parts : Array (Nat × Operand)} (ho : o.op = .build t parts) {fs : Array Field} (ht : P.underlying t = some (.struct fs)) {z : List Ce} (hz : zeroOf P t = some z) {ps : List (Nat × Nat)}
    (hps : placesOf P fs.toList = some ps) {l : List (Nat × Nat × Opd)} (hl : partsOf (fun i => ps[i]?) parts.toList = some l) {r : List Ce} (hr : fillA T z l = some r) (ha : ∀ p ∈ parts.toList, ConA μ (ev T (opdOf p.2)) (ρ p.2)) :
    Gives P ρ o w μ (.v (.agg r)) := by
  obtain ⟨it, v, hit, hv, hc⟩ := zeroOf_some hz
  obtain ⟨h1, h2⟩ := zero_con (μ := μ) hc
  obtain ⟨cs', hf, hcs, hn, _⟩ := fill_con parts.toList l z r v.cells hl hr h1 h2 ha
  have hb : P.built t (parts.map fun p => (p.1, ρ p.2)).toList = some cs' := by
    unfold Program.built
    simp only [placesOf] at hps
    simp only [hit, ht, hv, hps]
    simpa using hf
  refine ⟨.agg cs', ?_, cs'.toList, rfl, hcs, hn⟩
  simp only [execOp, ho, Sem.run_bind]
  rw [show (parts.map fun (x : Nat × Operand) => match x with | (i, x) => (i, ρ x)) = parts.map fun p => (p.1, ρ p.2) from rfl, run_build w t _ cs' hb]
  rfl

end Go.Abs
