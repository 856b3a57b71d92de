/-
  Part of the proof's tools.
-/
import Derived.Test.YtenccnpdaldkfaaAbs24
import Derived.Test.YtenccnpdaldkfaaNearCode
namespace Go.Abs
set_option linter.unusedSimpArgs false
def inB (n lo hi : Int) : Bool := decide (n ≥ lo) && decide (n ≤ hi)
attribute [local simp] AW_skip AW_exit AW_ret AW_seq AW_block AW_cond CW_some AW_reg AW_regD RW_nil RW_cons RW_guard GW_bool GW_tup SW_some ThenQ_normal ThenQ_exit ThenQ_ret BlockQ_normal BlockQ_exit BlockQ_ret kill_nil kill_cons killT_at killL_at upo_some upo_none ev_t ev_k FinQ_ret FinQ_normal
  upd_eq upd_ne argsT_zero argsT_succ aop.eq_1 aop.eq_2 aop.eq_3 aop.eq_4 aop.eq_5 aop.eq_6 aop.eq_7 aop.eq_8 aop.eq_9 aop.eq_10 aop.eq_11 aop.eq_12 aop.eq_13 aop.eq_14 aop.eq_15 aop.eq_16 aop.eq_17 aop.eq_18 aop.eq_19 aop.eq_20 aop.eq_21 aop.eq_22 aop.eq_23 aop.eq_24 aop.eq_26 aop.eq_27 aop.eq_28 aop.eq_29 aop.eq_31 aop.eq_32 aop.eq_33 aop.eq_34 aop.eq_35 aop_len aop_iaddr Av.bool? Av.ptr? Av.int? ressA resA resOf noLoc_int noLoc_bool noLoc_str noLoc_nils noLoc_nilp noLoc_ptrl noLoc_ptrr noLoc_sll noLoc_slr noLoc_fn noLoc_tc noLoc_tagg noLoc_av noLoc_atup ce_c tv_v cells_c cells_agg noLocs keyLoc evs callA St.set St.get unAv ints binCe killV_int killV_bool killV_str killV_nils killV_nilp killV_agg killV_no killV_tup killV_ptrl killV_ptrr killV_sll killV_slr killV_fn killV_noLoc
theorem spec_l1In (h : Heap) (n lo hi : Int) : Fspec_l1In [.v (.c (.int .i64 n)), .v (.c (.int .i64 lo)), .v (.c (.int .i64 hi))] h = some (.v (.c (.bool (inB n lo hi))), h) := by
  unfold Fspec_l1In inB
  refine runF_eq ?_
  by_cases h1 : n ≥ lo <;> simp [cspec_l1In, h1]
theorem impl_in (h : Heap) (n lo hi : Int) : Fimpl_in [.v (.c (.int .i64 n)), .v (.c (.int .i64 lo)), .v (.c (.int .i64 hi))] h = some (.v (.c (.bool (inB n lo hi))), h) := by
  unfold Fimpl_in inB
  refine runF_eq ?_
  by_cases h1 : n ≥ lo <;> simp [cimpl_in, h1]

def okB (b : Box) : Bool := inB b.x 0 15 && inB b.y 0 15 && inB b.low 0 b.high && decide (b.high ≤ 6) && inB b.tin 0 b.tout && decide (b.tout ≤ 10000)

theorem spec_l1BoxOk (h : Heap) (b : Box) : Fspec_l1BoxOk [.v (.agg b.ces)] h = some (.v (.c (.bool (okB b))), h) := by
  unfold Fspec_l1BoxOk okB
  refine runF_eq ?_
  cases h1 : inB b.x 0 15
  · simp [cspec_l1BoxOk, Box.ces, espec_l1BoxOk_spec_l1In, spec_l1In, h1]
  cases h2 : inB b.y 0 15
  · simp [cspec_l1BoxOk, Box.ces, espec_l1BoxOk_spec_l1In, spec_l1In, h1, h2]
  cases h3 : inB b.low 0 b.high
  · simp [cspec_l1BoxOk, Box.ces, espec_l1BoxOk_spec_l1In, spec_l1In, h1, h2, h3]
  by_cases h4 : b.high ≤ 6
  · cases h5 : inB b.tin 0 b.tout <;> simp [cspec_l1BoxOk, Box.ces, espec_l1BoxOk_spec_l1In, spec_l1In, h1, h2, h3, h4, h5]
  · simp [cspec_l1BoxOk, Box.ces, espec_l1BoxOk_spec_l1In, spec_l1In, h1, h2, h3, h4]

theorem impl_boxOk (h : Heap) (b : Box) : Fimpl_boxOk [.v (.agg b.ces)] h = some (.v (.c (.bool (okB b))), h) := by
  unfold Fimpl_boxOk okB
  refine runF_eq ?_
  cases h1 : inB b.x 0 15
  · simp [cimpl_boxOk, Box.ces, eimpl_boxOk_impl_in, impl_in, h1]
  cases h2 : inB b.y 0 15
  · simp [cimpl_boxOk, Box.ces, eimpl_boxOk_impl_in, impl_in, h1, h2]
  unfold inB
  by_cases h3 : b.low ≥ 0
  · by_cases h4 : b.low ≤ b.high
    · by_cases h5 : b.high ≤ 6
      · by_cases h6 : b.tin ≥ 0
        · by_cases h7 : b.tin ≤ b.tout <;> simp [cimpl_boxOk, Box.ces, eimpl_boxOk_impl_in, impl_in, h1, h2, h3, h4, h5, h6, h7]
        · simp [cimpl_boxOk, Box.ces, eimpl_boxOk_impl_in, impl_in, h1, h2, h3, h4, h5, h6]
      · simp [cimpl_boxOk, Box.ces, eimpl_boxOk_impl_in, impl_in, h1, h2, h3, h4, h5]
    · simp [cimpl_boxOk, Box.ces, eimpl_boxOk_impl_in, impl_in, h1, h2, h3, h4]
  · simp [cimpl_boxOk, Box.ces, eimpl_boxOk_impl_in, impl_in, h1, h2, h3]
def wrap64 (n : Int) : Int := IntKind.i64.wrap n
def closeB (a b : Box) : Bool := okB a && okB b && inB (wrap64 (a.x - b.x)) (-1) 1 && inB (wrap64 (a.y - b.y)) (-1) 1 && decide (a.low ≤ b.high) && decide (b.low ≤ a.high) && decide (a.tin ≤ b.tout) && decide (b.tin ≤ a.tout)

theorem spec_l1Close (h : Heap) (a b : Box) : Fspec_l1Close [.v (.agg a.ces), .v (.agg b.ces)] h = some (.v (.c (.bool (closeB a b))), h) := by
  unfold Fspec_l1Close closeB
  have A := spec_l1BoxOk
  unfold Box.ces at A
  refine runF_eq ?_
  cases h1 : okB a
  · simp [cspec_l1Close, Box.ces, espec_l1Close_spec_l1In, espec_l1Close_spec_l1BoxOk, spec_l1In, A, h1]
  cases h2 : okB b
  · simp [cspec_l1Close, Box.ces, espec_l1Close_spec_l1In, espec_l1Close_spec_l1BoxOk, spec_l1In, A, h1, h2]
  unfold wrap64
  cases h3 : inB (IntKind.i64.wrap (a.x - b.x)) (-1) 1
  · simp [cspec_l1Close, Box.ces, espec_l1Close_spec_l1In, espec_l1Close_spec_l1BoxOk, spec_l1In, A, h1, h2, h3]
  cases h4 : inB (IntKind.i64.wrap (a.y - b.y)) (-1) 1
  · simp [cspec_l1Close, Box.ces, espec_l1Close_spec_l1In, espec_l1Close_spec_l1BoxOk, spec_l1In, A, h1, h2, h3, h4]
  by_cases h5 : a.low ≤ b.high
  · by_cases h6 : b.low ≤ a.high
    · by_cases h7 : a.tin ≤ b.tout <;> simp [cspec_l1Close, Box.ces, espec_l1Close_spec_l1In, espec_l1Close_spec_l1BoxOk, spec_l1In, A, h1, h2, h3, h4, h5, h6, h7]
    · simp [cspec_l1Close, Box.ces, espec_l1Close_spec_l1In, espec_l1Close_spec_l1BoxOk, spec_l1In, A, h1, h2, h3, h4, h5, h6]
  · simp [cspec_l1Close, Box.ces, espec_l1Close_spec_l1In, espec_l1Close_spec_l1BoxOk, spec_l1In, A, h1, h2, h3, h4, h5]

def max2 (x y : Int) : Int := if x < y then y else x
def min2 (x y : Int) : Int := if y < x then y else x
def besideB (a b : Box) : Bool := okB a && okB b && inB (wrap64 (a.x - b.x)) (-1) 1 && inB (wrap64 (a.y - b.y)) (-1) 1 && decide (max2 a.low b.low ≤ min2 a.high b.high)

theorem impl_beside (h : Heap) (a b : Box) : Fimpl_beside [.v (.agg a.ces), .v (.agg b.ces)] h = some (.v (.c (.bool (besideB a b))), h) := by
  unfold Fimpl_beside besideB
  have A := impl_boxOk
  unfold Box.ces at A
  refine runF_eq ?_
  cases h1 : okB a
  · simp [cimpl_beside, Box.ces, eimpl_beside_impl_in, eimpl_beside_impl_boxOk, impl_in, A, h1]
  cases h2 : okB b
  · simp [cimpl_beside, Box.ces, eimpl_beside_impl_in, eimpl_beside_impl_boxOk, impl_in, A, h1, h2]
  unfold wrap64 max2 min2
  cases h3 : inB (IntKind.i64.wrap (a.x - b.x)) (-1) 1
  · simp [cimpl_beside, Box.ces, eimpl_beside_impl_in, eimpl_beside_impl_boxOk, impl_in, A, h1, h2, h3]
  cases h4 : inB (IntKind.i64.wrap (a.y - b.y)) (-1) 1
  · simp [cimpl_beside, Box.ces, eimpl_beside_impl_in, eimpl_beside_impl_boxOk, impl_in, A, h1, h2, h3, h4]
  simp [cimpl_beside, Box.ces, eimpl_beside_impl_in, eimpl_beside_impl_boxOk, impl_in, A, h1, h2, h3, h4]

theorem laws_toGiveBox (h : Heap) (b : Box) : Flaws_toGiveBox [.v (.agg b.ces)] h = some (.v (.agg b.ces), h) := by
  unfold Flaws_toGiveBox
  refine runF_eq ?_
  simp [claws_toGiveBox, Box.ces]

def eqBox (a b : Box) : Bool := a.x == b.x && a.y == b.y && a.low == b.low && a.high == b.high && a.tin == b.tin && a.tout == b.tout
theorem laws_eqGiveBox (h : Heap) (a b : Box) : Flaws_eqGiveBox [.v (.agg a.ces), .v (.agg b.ces)] h = some (.v (.c (.bool (eqBox a b))), h) := by
  unfold Flaws_eqGiveBox eqBox
  refine runF_eq ?_
  by_cases h1 : a.x = b.x
  · by_cases h2 : a.y = b.y
    · by_cases h3 : a.low = b.low
      · by_cases h4 : a.high = b.high
        · by_cases h5 : a.tin = b.tin
          · by_cases h6 : a.tout = b.tout <;> simp [claws_eqGiveBox, Box.ces, h1, h2, h3, h4, h5, h6]
          · simp [claws_eqGiveBox, Box.ces, h1, h2, h3, h4, h5]
        · simp [claws_eqGiveBox, Box.ces, h1, h2, h3, h4]
      · simp [claws_eqGiveBox, Box.ces, h1, h2, h3]
    · simp [claws_eqGiveBox, Box.ces, h1, h2]
  · simp [claws_eqGiveBox, Box.ces, h1]

theorem ces_x (b : Box) : b.ces[0]? = some (.int .i64 b.x) := rfl
theorem ces_y (b : Box) : b.ces[1]? = some (.int .i64 b.y) := rfl
theorem ces_low (b : Box) : b.ces[2]? = some (.int .i64 b.low) := rfl
theorem ces_high (b : Box) : b.ces[3]? = some (.int .i64 b.high) := rfl
theorem ces_in (b : Box) : b.ces[4]? = some (.int .i64 b.tin) := rfl
theorem ces_out (b : Box) : b.ces[5]? = some (.int .i64 b.tout) := rfl
theorem ces_len (b : Box) : b.ces.length = 6 := rfl
theorem ces_take (b : Box) : b.ces.take 6 = b.ces := rfl

def EBox : Elt Box := ⟨6, fun _ l b => l = b.ces⟩

theorem laws_szGiveBoxS (h : Heap) (c : Ce) (l : List Box) (k : Int) (hc : RdSl EBox h c l) (hk : 0 ≤ k ∧ k ≤ 1048576) :
    Flaws_szGiveBoxS [.v (.c c), .v (.c (.int .i64 k))] h = some (.v (.c (.int .i64 (if k < l.length then -1 else k - l.length))), h) := by
  unfold Flaws_szGiveBoxS
  have hl := hc.len_le
  have e : IntKind.i64.wrap (k - l.length) = k - l.length := wrap_i64 (by omega) (by omega)
  refine runF_eq ?_
  by_cases hb : k < l.length
  · have e1 : k - l.length < 0 := by omega
    simp [claws_szGiveBoxS, hc.slen, hb, e, e1]
  · have e1 : ¬ k - l.length < 0 := by omega
    simp [claws_szGiveBoxS, hc.slen, hb, e, e1]

theorem box_at {h : Heap} {c : Ce} {l : List Box} (hc : RdSl EBox h c l) {i : Nat} (hi : i < l.length) : ∃ b p r, c.eltAt 6 i = some (.inr b, p) ∧ h.hp b = some r ∧ p + 6 ≤ r.cs.length ∧ (r.cs.drop p).take 6 = l[i].ces := hc.at hi

/-- The rows of boxes one behind the other. -/
def boxCells (l : List Box) : List Ce := l.flatMap Box.ces
theorem boxCells_length (l : List Box) : (boxCells l).length = l.length * 6 := by
  induction l with
  | nil => rfl
  | cons b l ih => simp only [boxCells, List.flatMap_cons, List.length_append] at ih ⊢; rw [ih]; simp [Box.ces]; omega
theorem boxCells_append (a b : List Box) : boxCells (a ++ b) = boxCells a ++ boxCells b := by simp [boxCells]
theorem boxCells_at (l : List Box) {i : Nat} (hi : i < l.length) : ((boxCells l).drop (i * 6)).take 6 = l[i].ces := by
  have e : l = l.take i ++ l[i] :: l.drop (i + 1) := by simp
  conv => lhs; rw [e]
  rw [boxCells_append]
  have hl : (boxCells (l.take i)).length = i * 6 := by rw [boxCells_length, List.length_take]; omega
  rw [← hl, List.drop_left]
  show (l[i].ces ++ boxCells (l.drop (i + 1))).take 6 = _
  rw [List.take_append_of_le_length (by simp [Box.ces])]
  rfl
theorem RdSl.ofBoxes {h : Heap} {b n : Nat} {m : Md} {l : List Box} {rw : Bool} (hn : n = l.length) (hl : l.length ≤ 9223372036854775807) (hb : h.hp b = some ⟨boxCells l, 6, rw⟩) : RdSl EBox h (.sl (.inr b) 0 n m) l :=
  .inr (.inr ⟨b, 0, m, _, by rw [hn], hl, hb, by simp [boxCells_length, EBox], fun i a ha => by
    have hi := (List.getElem?_eq_some_iff.1 ha).1
    have := boxCells_at l hi
    rw [List.getElem?_eq_getElem hi] at ha
    obtain rfl := Option.some.inj ha
    simpa [EBox] using this⟩)

theorem boxCells_cons (b : Box) (l : List Box) : boxCells (b :: l) = b.ces ++ boxCells l := rfl
theorem boxCells_put (a c : List Box) (b z : Box) (n : Nat) (hn : n = a.length) : (boxCells (a ++ z :: c)).take (n * 6) ++ (b.ces ++ (boxCells (a ++ z :: c)).drop (n * 6 + 6)) = boxCells (a ++ b :: c) := by
  have ha : (boxCells a).length = n * 6 := by rw [boxCells_length, hn]
  have e1 : (boxCells (a ++ z :: c)).take (n * 6) = boxCells a := by rw [boxCells_append, ← ha, List.take_left]
  have e2 : (boxCells (a ++ z :: c)).drop (n * 6 + 6) = boxCells c := by
    rw [boxCells_append, boxCells_cons, ← List.append_assoc]
    have : (boxCells a ++ z.ces).length = n * 6 + 6 := by rw [List.length_append, ha]; rfl
    rw [← this, List.drop_left]
  rw [e1, e2, boxCells_append, boxCells_cons]

def zeroBox : Box := ⟨0, 0, 0, 0, 0, 0⟩

theorem laws_toGiveBoxS (h : Heap) (c : Ce) (l : List Box) (ho : HOk h) (hc : RdSl EBox h c l) (hl : l.length ≤ 1048576) :
    Flaws_toGiveBoxS [.v (.c c)] h = some (.v (.c (.sl (.inr h.nx) 0 l.length .own)), h.push ⟨boxCells l, 6, true⟩) := by
  unfold Flaws_toGiveBoxS
  have hrepl : repl l.length [.int .i64 0, .int .i64 0, .int .i64 0, .int .i64 0, .int .i64 0, .int .i64 0] = boxCells (List.replicate l.length zeroBox) := by
    simp [repl, boxCells, List.flatMap, Box.ces, zeroBox]
  refine runF_eq ?_
  simp [claws_toGiveBoxS, hc.slen, hc.noLoc, Av.int64?, lim, show (l.length : Int) ≤ 4294967296 by omega, hrepl]
  refine AW_loop (fun i x => i ≤ l.length ∧ x.1 0 = .v (.c c) ∧ x.1 3 = .v (.c (.sl (.inr h.nx) 0 l.length .own)) ∧ x.1 4 = .v (.c (.int .i64 i)) ∧ x.2 = ⟨h.push ⟨boxCells (l.take i ++ List.replicate (l.length - i) zeroBox), 6, true⟩, nol⟩) l.length ?_ ?_
  · refine ⟨by omega, ?_, ?_, ?_, ?_⟩ <;> simp [St.push]
  · rintro i ⟨T, s⟩ hi ⟨_, h0, h3, h4, hs⟩
    simp only at h0 h3 h4 hs
    subst hs
    by_cases hin : i < l.length
    · obtain ⟨b, p, r, e1, e2, e3, e4⟩ := box_at hc hin
      have hne : b ≠ h.nx := by have := ho.lt e2; omega
      have hlen : (boxCells (l.take i ++ List.replicate (l.length - i) zeroBox)).length = l.length * 6 := by rw [boxCells_length]; simp; omega
      have hcut : (boxCells (l.take i ++ List.replicate (l.length - i) zeroBox)).take (i * 6) ++ (l[i].ces ++ (boxCells (l.take i ++ List.replicate (l.length - i) zeroBox)).drop (i * 6 + 6)) = boxCells (l.take (i + 1) ++ List.replicate (l.length - (i + 1)) zeroBox) := by
        have e : l.length - i = (l.length - (i + 1)) + 1 := by omega
        have e2 : l.take (i + 1) = l.take i ++ [l[i]] := by rw [List.take_add_one, List.getElem?_eq_getElem hin]; rfl
        rw [e, List.replicate_succ, boxCells_put _ _ _ _ _ (by rw [List.length_take]; omega), e2, List.append_assoc]
        rfl
      have hw : IntKind.i64.wrap ((i : Int) + 1) = (i : Int) + 1 := wrap_i64 (by omega) (by omega)
      have hi2 : (i : Int) < l.length := by omega
      have he2 : (Ce.sl (Sum.inr h.nx) 0 l.length .own).eltAt 6 i = some (.inr h.nx, i * 6) := by simp [Ce.eltAt, hi2]
      have hfit : i * 6 + 6 ≤ l.length * 6 := by omega
      have hces : l[i].ces.length = 6 := rfl
      set_option maxRecDepth 10000 in
      simp [claws_toGiveBoxS_L0, h0, h3, h4, hc.slen, hi2, e1, e2, Heap.push, upd, hne, e3, e4, elaws_toGiveBoxS_laws_toGiveBox, laws_toGiveBox, he2, hlen, hfit, hces, hw, hcut]
      exact ⟨hin, by omega, upd_upd _ _ _ _⟩
    · have hie : i = l.length := by omega
      subst hie
      simp [claws_toGiveBoxS_L0, h0, h3, h4, hc.slen]

theorem eqBox_iff (a b : Box) : eqBox a b = true ↔ a = b := by
  cases a; cases b
  simp [eqBox, and_assoc]

theorem laws_eqGiveBoxS (h : Heap) (c c' : Ce) (l l' : List Box) (hc : RdSl EBox h c l) (hc' : RdSl EBox h c' l') :
    ∃ r, Flaws_eqGiveBoxS [.v (.c c), .v (.c c')] h = some (.v (.c (.bool r)), h) ∧ (r = true ↔ l = l') := by
  unfold Flaws_eqGiveBoxS
  have hl := hc.len_le
  by_cases hlen : l.length = l'.length
  · obtain ⟨v, h', h1, r, rfl, rfl, h2⟩ := runF_of (env := elaws_eqGiveBoxS) (code := claws_eqGiveBoxS) (rs := [.t 4]) (args := [.v (.c c), .v (.c c')]) (h := h) (K := fun v h' => ∃ r, v = .v (.c (.bool r)) ∧ h' = h ∧ (r = true ↔ l = l')) (by
      simp [claws_eqGiveBoxS, hc.slen, hc'.slen, hc.noLoc, hlen]
      refine AW_loop (fun i x => i ≤ l.length ∧ x.1 0 = .v (.c c) ∧ x.1 1 = .v (.c c') ∧ x.1 5 = .v (.c (.int .i64 i)) ∧ x.2 = ⟨h, nol⟩ ∧ ∀ j, j < i → l[j]? = l'[j]?) l.length ?_ ?_
      · simp
      · rintro i ⟨T, s⟩ hi ⟨_, h0, h1, h5, hs, heq⟩
        simp only at h0 h1 h5 hs
        subst hs
        by_cases hin : i < l.length
        · obtain ⟨b, p, r, e1, e2, e3, e4⟩ := box_at hc hin
          obtain ⟨b', p', r', f1, f2, f3, f4⟩ := box_at hc' (show i < l'.length by omega)
          have hw : IntKind.i64.wrap ((i : Int) + 1) = (i : Int) + 1 := wrap_i64 (by omega) (by omega)
          cases hb : eqBox l[i] l'[i]
          · have hne : l ≠ l' := by
              rintro rfl
              rw [(eqBox_iff _ _).2 rfl] at hb
              cases hb
            simp [claws_eqGiveBoxS_L0, h0, h1, h5, hc.slen, hin, e1, e2, e3, e4, f1, f2, f3, f4, elaws_eqGiveBoxS_laws_eqGiveBox, laws_eqGiveBox, hb, hne]
          · have hbe := (eqBox_iff _ _).1 hb
            simp [claws_eqGiveBoxS_L0, h0, h1, h5, hc.slen, hin, e1, e2, e3, e4, f1, f2, f3, f4, elaws_eqGiveBoxS_laws_eqGiveBox, laws_eqGiveBox, hb, hw]
            refine ⟨hin, fun j hj => ?_⟩
            by_cases hji : j = i
            · subst hji
              rw [List.getElem?_eq_getElem hin, List.getElem?_eq_getElem (by omega), hbe]
            · exact heq j (by omega)
        · have hie : i = l.length := by omega
          subst hie
          have hll : l = l' := by
            apply List.ext_getElem?
            intro j
            by_cases hj : j < l.length
            · exact heq j hj
            · rw [List.getElem?_eq_none (by omega), List.getElem?_eq_none (by omega)]
          simp [claws_eqGiveBoxS_L0, h0, h1, h5, hc.slen, hll])
    exact ⟨r, h1, h2⟩
  · refine ⟨false, ?_, by simp; rintro rfl; exact hlen rfl⟩
    refine runF_eq ?_
    have : ((l.length : Int) == l'.length) = false := by simp; omega
    simp [claws_eqGiveBoxS, hc.slen, hc'.slen, hlen]
    intro hx
    omega

theorem spec_GiveNear (h : Heap) (c c' : Ce) (l l' : List Box) (hc : RdSl EBox h c l) (hc' : RdSl EBox h c' l') :
    Fspec_GiveNear [.v (.c c), .v (.c c')] h = some (.v (.c (.bool (l.any fun a => l'.any fun b => closeB a b))), h) := by
  unfold Fspec_GiveNear
  have hl := hc.len_le
  have hl' := hc'.len_le
  refine runF_eq ?_
  simp [cspec_GiveNear]
  refine AW_loop (fun i x => i ≤ l.length ∧ x.1 0 = .v (.c c) ∧ x.1 1 = .v (.c c') ∧ x.1 5 = .v (.c (.int .i64 i)) ∧ x.2 = ⟨h, nol⟩ ∧ ∀ j (hj : j < l.length), j < i → (l'.any fun b => closeB l[j] b) = false) l.length ?_ ?_
  · simp
  · rintro i ⟨T, s⟩ hi ⟨_, h0, h1, h5, hs, hno⟩
    simp only at h0 h1 h5 hs
    subst hs
    by_cases hin : i < l.length
    · obtain ⟨b, p, r, e1, e2, e3, e4⟩ := box_at hc hin
      have hw : IntKind.i64.wrap ((i : Int) + 1) = (i : Int) + 1 := wrap_i64 (by omega) (by omega)
      simp [cspec_GiveNear_L0, h0, h1, h5, hc.slen, hin]
      refine AW_loop (fun k x => k ≤ l'.length ∧ x.1 0 = .v (.c c) ∧ x.1 1 = .v (.c c') ∧ x.1 5 = .v (.c (.int .i64 i)) ∧ x.1 6 = .v (.c (.int .i64 k)) ∧ x.2 = ⟨h, nol⟩ ∧ ∀ j (hj : j < l'.length), j < k → closeB l[i] l'[j] = false) l'.length ?_ ?_
      · simp [h0, h1, h5]
      · rintro k ⟨T, s⟩ hk ⟨_, h0, h1, h5, h6, hs, hno'⟩
        simp only at h0 h1 h5 h6 hs
        subst hs
        by_cases hkn : k < l'.length
        · obtain ⟨b', p', r', f1, f2, f3, f4⟩ := box_at hc' hkn
          have hw' : IntKind.i64.wrap ((k : Int) + 1) = (k : Int) + 1 := wrap_i64 (by omega) (by omega)
          cases hb : closeB l[i] l'[k]
          · simp [cspec_GiveNear_L1, h0, h1, h5, h6, hc'.slen, hkn, e1, e2, e3, e4, f1, f2, f3, f4, espec_GiveNear_spec_l1Close, spec_l1Close, hb, hw']
            refine ⟨hkn, fun j hj hjk => ?_⟩
            by_cases hjk' : j = k
            · subst hjk'; exact hb
            · exact hno' j hj (by omega)
          · have hany : (l.any fun a => l'.any fun b => closeB a b) = true := List.any_eq_true.2 ⟨l[i], List.getElem_mem hin, List.any_eq_true.2 ⟨l'[k], List.getElem_mem hkn, hb⟩⟩
            simp [cspec_GiveNear_L1, h0, h1, h5, h6, hc'.slen, hkn, e1, e2, e3, e4, f1, f2, f3, f4, espec_GiveNear_spec_l1Close, spec_l1Close, hb, hany]
        · have hie : k = l'.length := by omega
          subst hie
          simp [cspec_GiveNear_L1, h0, h1, h5, h6, hc'.slen, hw]
          refine ⟨hin, fun j hj hji => ?_⟩
          intro x hx
          by_cases hje : j = i
          · subst hje
            obtain ⟨m, hm, rfl⟩ := List.getElem_of_mem hx
            exact hno' m hm hm
          · have := hno j hj (by omega)
            rw [List.any_eq_false] at this
            simpa using this x hx
    · have hie : i = l.length := by omega
      subst hie
      have hany : (l.any fun a => l'.any fun b => closeB a b) = false := by
        rw [List.any_eq_false]
        intro x hx
        obtain ⟨m, hm, rfl⟩ := List.getElem_of_mem hx
        rw [hno m hm hm]
        simp
      simp [cspec_GiveNear_L0, h0, h1, h5, hc.slen, hany]

def nearB (a b : Box) : Bool := besideB a b && decide (max2 a.tin b.tin ≤ min2 a.tout b.tout)

theorem impl_GiveNear (h : Heap) (c c' : Ce) (l l' : List Box) (hc : RdSl EBox h c l) (hc' : RdSl EBox h c' l') :
    Fimpl_GiveNear [.v (.c c), .v (.c c')] h = some (.v (.c (.bool (l.any fun a => l'.any fun b => nearB a b))), h) := by
  unfold Fimpl_GiveNear
  have hl := hc.len_le
  have hl' := hc'.len_le
  have A := impl_beside
  unfold Box.ces at A
  refine runF_eq ?_
  simp [cimpl_GiveNear, hc.slen]
  refine AW_loop (fun i x => i ≤ l.length ∧ x.1 0 = .v (.c c) ∧ x.1 1 = .v (.c c') ∧ x.1 9 = .v (.c c) ∧ x.1 10 = .v (.c (.int .i64 l.length)) ∧ x.1 11 = .v (.c (.int .i64 i)) ∧ x.2.h = h ∧ ∀ j (hj : j < l.length), j < i → (l'.any fun b => nearB l[j] b) = false) l.length ?_ ?_
  · simp
  · rintro i ⟨T, ⟨h', lc⟩⟩ hi ⟨_, h0, h1, h9, h10, h11, hs, hno⟩
    simp only at h0 h1 h9 h10 h11 hs
    subst hs
    by_cases hin : i < l.length
    · obtain ⟨b, p, r, e1, e2, e3, e4⟩ := box_at hc hin
      have hw : IntKind.i64.wrap ((i : Int) + 1) = (i : Int) + 1 := wrap_i64 (by omega) (by omega)
      have hces : l[i].ces.length = 6 := rfl
      simp [cimpl_GiveNear_L0, h0, h1, h9, h10, h11, hc.slen, hc'.slen, hin, e1, e2, e3, e4, hces, hc.noLoc, hc'.noLoc]
      refine AW_loop (fun k x => k ≤ l'.length ∧ x.1 0 = .v (.c c) ∧ x.1 1 = .v (.c c') ∧ x.1 9 = .v (.c c) ∧ x.1 10 = .v (.c (.int .i64 l.length)) ∧ x.1 11 = .v (.c (.int .i64 i)) ∧ x.1 6 = .v (.c (.ptr (.inl 6) 0)) ∧ x.2.lc 6 = some ⟨l[i].ces, 6, true⟩ ∧ x.1 15 = .v (.c c') ∧ x.1 16 = .v (.c (.int .i64 l'.length)) ∧ x.1 17 = .v (.c (.int .i64 k)) ∧ x.2.h = h' ∧ ∀ j (hj : j < l'.length), j < k → nearB l[i] l'[j] = false) l'.length ?_ ?_
      · simp [h0, h1, h9, h10, h11, hc.noLoc, hc'.noLoc]
      · rintro k ⟨T, ⟨h', lc⟩⟩ hk ⟨_, h0, h1, h9, h10, h11, h6, hl6, h15, h16, h17, hs, hno'⟩
        simp only at h0 h1 h9 h10 h11 h6 hl6 h15 h16 h17 hs
        subst hs
        by_cases hkn : k < l'.length
        · obtain ⟨b', p', r', f1, f2, f3, f4⟩ := box_at hc' hkn
          have hw' : IntKind.i64.wrap ((k : Int) + 1) = (k : Int) + 1 := wrap_i64 (by omega) (by omega)
          have hces' : l'[k].ces.length = 6 := rfl
          have fin : ∀ q : nearB l[i] l'[k] = false, k < l'.length ∧ ∀ (j : Nat) (hj : j < l'.length), j < k + 1 → nearB l[i] l'[j] = false := by
            intro q
            refine ⟨hkn, fun j hj hjk => ?_⟩
            by_cases hjk' : j = k
            · subst hjk'; exact q
            · exact hno' j hj (by omega)
          cases hb : besideB l[i] l'[k]
          · simp [cimpl_GiveNear_L1, h0, h1, h9, h10, h11, h6, hl6, h15, h16, h17, hc'.slen, hkn, f1, f2, f3, f4, ces_len, ces_take, hc.noLoc, hc'.noLoc, eimpl_GiveNear_impl_beside, impl_beside, hb, hw']
            exact fin (by simp [nearB, hb])
          · by_cases hm : max2 l[i].tin l'[k].tin ≤ min2 l[i].tout l'[k].tout
            · have hnear : nearB l[i] l'[k] = true := by simp [nearB, hb, hm]
              have hany : (l.any fun a => l'.any fun b => nearB a b) = true := List.any_eq_true.2 ⟨l[i], List.getElem_mem hin, List.any_eq_true.2 ⟨l'[k], List.getElem_mem hkn, hnear⟩⟩
              unfold max2 min2 at hm
              simp [cimpl_GiveNear_L1, h0, h1, h9, h10, h11, h6, hl6, h15, h16, h17, hc'.slen, hkn, f1, f2, f3, f4, ces_len, ces_take, ces_in, ces_out, hc.noLoc, hc'.noLoc, eimpl_GiveNear_impl_beside, impl_beside, hb, hw', hm, hany]
            · have hnear := fin (by simp [nearB, hb, hm])
              unfold max2 min2 at hm
              simp [cimpl_GiveNear_L1, h0, h1, h9, h10, h11, h6, hl6, h15, h16, h17, hc'.slen, hkn, f1, f2, f3, f4, ces_len, ces_take, ces_in, ces_out, hc.noLoc, hc'.noLoc, eimpl_GiveNear_impl_beside, impl_beside, hb, hw', hm]
              exact hnear
        · have hie : k = l'.length := by omega
          subst hie
          simp [cimpl_GiveNear_L1, h0, h1, h9, h10, h11, h6, hl6, h15, h16, h17, hc'.slen, hw]
          refine ⟨hin, fun j hj hji => ?_⟩
          intro x hx
          by_cases hje : j = i
          · subst hje
            obtain ⟨m, hm, rfl⟩ := List.getElem_of_mem hx
            exact hno' m hm hm
          · have := hno j hj (by omega)
            rw [List.any_eq_false] at this
            simpa using this x hx
    · have hie : i = l.length := by omega
      subst hie
      have hany : (l.any fun a => l'.any fun b => nearB a b) = false := by
        rw [List.any_eq_false]
        intro x hx
        obtain ⟨m, hm, rfl⟩ := List.getElem_of_mem hx
        rw [hno m hm hm]
        simp
      simp [cimpl_GiveNear_L0, h0, h1, h9, h10, h11, hc.slen, hany]

theorem near_close (a b : Box) : nearB a b = closeB a b := by
  unfold nearB besideB closeB
  cases h1 : okB a
  · simp
  cases h2 : okB b
  · simp
  simp only [okB, inB, Bool.and_eq_true, decide_eq_true_eq] at h1 h2
  unfold max2 min2
  rw [Bool.eq_iff_iff]
  simp only [Bool.and_eq_true, decide_eq_true_eq]
  constructor
  · rintro ⟨⟨⟨⟨_, h3⟩, h4⟩, h5⟩, h6⟩
    refine ⟨⟨⟨⟨⟨⟨⟨trivial, trivial⟩, h3⟩, h4⟩, ?_⟩, ?_⟩, ?_⟩, ?_⟩ <;> (split at h5 <;> split at h5 <;> split at h6 <;> split at h6 <;> omega)
  · rintro ⟨⟨⟨⟨⟨⟨_, h3⟩, h4⟩, h5⟩, h6⟩, h7⟩, h8⟩
    refine ⟨⟨⟨⟨⟨trivial, trivial⟩, h3⟩, h4⟩, ?_⟩, ?_⟩ <;> (split <;> split <;> omega)

/-- A copy of boxes. -/
theorem toBoxes (h : Heap) (c : Ce) (l : List Box) (ho : HOk h) (hc : RdSl EBox h c l) (hl : l.length ≤ 1048576) :
    ∃ c' h', Flaws_toGiveBoxS [.v (.c c)] h = some (.v (.c c'), h') ∧ Ext h h' ∧ HOk h' ∧ RdSl EBox h' c' l := by
  have e := Ext.push ho ⟨boxCells l, 6, true⟩
  refine ⟨_, _, laws_toGiveBoxS h c l ho hc hl, e, e.ok ho, RdSl.ofBoxes rfl (by omega) (rw := true) ?_⟩
  simp [Heap.push, upd]

theorem RdSl.boxExt {h h' : Heap} (he : Ext h h') {c : Ce} {l : List Box} (hr : RdSl EBox h c l) : RdSl EBox h' c l := RdSl.ext (h := h) (h' := h') (E := EBox) (fun _ _ k => k) he.hp hr

theorem laws_FnExactGiveNear (h : Heap) (c c' : Ce) (l l' : List Box) (ho : HOk h) (hc : RdSl EBox h c l) (hc' : RdSl EBox h c' l') :
    ∃ h', Flaws_FnExactGiveNear [.v (.c c), .v (.c c')] h = some (.v (.c (.bool true)), h') := by
  unfold Flaws_FnExactGiveNear
  have s1 := laws_szGiveBoxS h c l 1048576 hc (by omega)
  by_cases hb : (1048576 : Int) < l.length
  · rw [if_pos hb] at s1
    refine ⟨_, runF_eq (h' := h) ?_⟩
    simp [claws_FnExactGiveNear, elaws_FnExactGiveNear_laws_szGiveBoxS, s1, hc.noLoc]
  rw [if_neg hb] at s1
  have s2 := laws_szGiveBoxS h c' l' (1048576 - l.length) hc' (by omega)
  have n1 : ¬ (1048576 : Int) - l.length < 0 := by omega
  by_cases hb' : (1048576 : Int) - l.length < l'.length
  · rw [if_pos hb'] at s2
    refine ⟨_, runF_eq (h' := h) ?_⟩
    simp [claws_FnExactGiveNear, elaws_FnExactGiveNear_laws_szGiveBoxS, s1, s2, hc.noLoc, hc'.noLoc, n1]
  rw [if_neg hb'] at s2
  have n2 : ¬ (1048576 : Int) - l.length - l'.length < 0 := by omega
  obtain ⟨c1, h1, t1, x1, o1, r1⟩ := toBoxes h c l ho hc (by omega)
  obtain ⟨c2, h2, t2, x2, o2, r2⟩ := toBoxes h1 c' l' o1 (hc'.boxExt x1) (by omega)
  have sp := spec_GiveNear h2 c1 c2 l l' (r1.boxExt x2) r2
  have x02 := x1.trans x2
  obtain ⟨c3, h3, t3, x3, o3, r3⟩ := toBoxes h2 c l o2 (hc.boxExt x02) (by omega)
  have x03 := x02.trans x3
  obtain ⟨c4, h4, t4, x4, o4, r4⟩ := toBoxes h3 c' l' o3 (hc'.boxExt x03) (by omega)
  have x04 := x03.trans x4
  have im := impl_GiveNear h4 c3 c4 l l' (r3.boxExt x4) r4
  simp only [near_close] at im
  obtain ⟨c5, h5, t5, x5, o5, r5⟩ := toBoxes h4 c l o4 (hc.boxExt x04) (by omega)
  have x05 := x04.trans x5
  obtain ⟨q1, e1, b1⟩ := laws_eqGiveBoxS h5 c3 c5 l l ((r3.boxExt x4).boxExt x5) r5
  have b1 := b1.2 rfl
  subst b1
  obtain ⟨c6, h6, t6, x6, o6, r6⟩ := toBoxes h5 c' l' o5 (hc'.boxExt x05) (by omega)
  obtain ⟨q2, e2, b2⟩ := laws_eqGiveBoxS h6 c4 c6 l' l' ((r4.boxExt x5).boxExt x6) r6
  have b2 := b2.2 rfl
  subst b2
  refine ⟨_, runF_eq (h' := h6) ?_⟩
  simp [claws_FnExactGiveNear, elaws_FnExactGiveNear_laws_szGiveBoxS, elaws_FnExactGiveNear_spec_GiveNear, elaws_FnExactGiveNear_laws_toGiveBoxS, elaws_FnExactGiveNear_impl_GiveNear, elaws_FnExactGiveNear_laws_eqGiveBoxS, s1, s2, hc.noLoc, hc'.noLoc, r1.noLoc, r2.noLoc, r3.noLoc, r4.noLoc, r5.noLoc, r6.noLoc, n1, n2, t1, t2, sp, t3, t4, im, t5, e1, t6, e2]

end Go.Abs
