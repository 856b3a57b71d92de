/-
  The helpers of the laws for wishes: sizes, copies, comparisons, marks.
-/
import Derived.Test.YtenccnpdaldkfaaB80350
import Derived.Test.YtenccnpdaldkfaaB97e07
import Derived.Test.YtenccnpdaldkfaaB58efe
import Derived.Test.YtenccnpdaldkfaaB79a77
set_option linter.unusedSimpArgs false
set_option linter.unusedVariables false
namespace Go.Abs
set_option linter.unusedSimpArgs false
set_option linter.unusedVariables false
attribute [local simp] AW_skip AW_exit AW_ret AW_seq AW_block AW_cond CW_ite AW_reg AW_regD AW_regDc RD_nil RD_cons keyEq hasP hasH hasL chkL chkH recK recH inRange lightKey BookC.len BookC.take WishC.len WishC.take RW_nil RW_cons RW_guard GW_t GW_f GW_gt GW_gf GW_tup GY_some GY_tt GY_ff gd_t gd_f pk_t pk_f pk_and pk_or pk_andc pk_orc pk_bool gd_gd SW_some ThenQ_normal ThenQ_exit ThenQ_ret BlockQ_normal BlockQ_exit BlockQ_ret kill_nil kill_cons killT_at killL_at upo_some upo_none ev_t ev_k FinQ_ret FinQ_normal upd_eq upd_ne argsT_zero argsT_succ aop.eq_1 aop_pick aop.eq_3 aop.eq_4 aop.eq_5 aop.eq_6 aop.eq_7 aop.eq_8 aop.eq_9 aop.eq_10 aop.eq_11 aop.eq_12 aop.eq_13 aop.eq_14 aop.eq_15 aop.eq_16 aop.eq_17 aop.eq_18 aop.eq_19 aop.eq_20 aop.eq_21 aop_slice_hi aop_slice_lo aop.eq_23 aop.eq_24 aop.eq_26 aop.eq_27 aop.eq_28 aop.eq_29 aop.eq_31 aop.eq_32 aop_maxs2 aop_mins2 aop_mins3 aop_len aop_iaddr Av.bool? Av.ptr? Av.int? Av.int64? Av.str? Av.agg? ressA resA resOf noLoc_int noLoc_bool noLoc_str noLoc_nils noLoc_nilp noLoc_ptrl noLoc_ptrr noLoc_sll noLoc_slr noLoc_fn noLoc_tc noLoc_tagg noLoc_av noLoc_atup ce_c tv_v cells_c cells_agg noLocs keyLoc evs callA St.set St.get unAv binCe killV_int killV_bool killV_str killV_nils killV_nilp killV_agg killV_no killV_tup killV_ptrl killV_ptrr killV_sll killV_slr killV_fn killV_noLoc fillA repl ptrs List.map
attribute [local congr] GY_congr

theorem laws_szGiveCellS {S : Nat → Prop} (h : Heap) (c : Ce) (l : List Cell) (k : Int) (hc : RdF fCell S h c l) (hk : 0 ≤ k ∧ k ≤ 1048576) :
    Flaws_szGiveCellS [.v (.c c), .v (.c (.int .i64 k))] h = some (.v (.c (.int .i64 (if k < l.length then -1 else k - l.length))), h) := by
  unfold Flaws_szGiveCellS
  have hl := hc.le
  have e : IntKind.i64.wrap (k - l.length) = k - l.length := wrap_i64 (by omega) (by omega)
  have e1 : k - (l.length : Int) < 0 ↔ k < l.length := by omega
  refine runF_eq ?_
  simp +contextual [claws_szGiveCellS, hc.slen, e, e1]
  intros; omega

theorem laws_szIntS {S : Nat → Prop} (h : Heap) (c : Ce) (l : List Int) (k : Int) (hc : RdF fInt S h c l) (hk : 0 ≤ k ∧ k ≤ 1048576) :
    Flaws_szIntS [.v (.c c), .v (.c (.int .i64 k))] h = some (.v (.c (.int .i64 (if k < l.length then -1 else k - l.length))), h) := by
  unfold Flaws_szIntS
  have hl := hc.le
  have e : IntKind.i64.wrap (k - l.length) = k - l.length := wrap_i64 (by omega) (by omega)
  have e1 : k - (l.length : Int) < 0 ↔ k < l.length := by omega
  refine runF_eq ?_
  simp +contextual [claws_szIntS, hc.slen, e, e1]
  intros; omega

def zCell : Cell := ⟨0, 0⟩
theorem laws_toGiveCell (h : Heap) (b : Cell) : Flaws_toGiveCell [.v (.agg (fCell.ces b))] h = some (.v (.agg (fCell.ces b)), h) := by
  unfold Flaws_toGiveCell
  refine runF_eq ?_
  simp [claws_toGiveCell, fCell]
theorem laws_toGiveCellS {S : Nat → Prop} (h : Heap) (c : Ce) (l : List Cell) (ho : HOk h) (hc : RdF fCell S h c l) (hl : l.length ≤ 1048576) :
    Flaws_toGiveCellS [.v (.c c)] h = some (.v (.c (.sl (.inr h.nx) 0 l.length .own)), h.push ⟨fCell.all l, 2, true⟩) := by
  unfold Flaws_toGiveCellS
  have A := laws_toGiveCell
  simp only [fCell] at A
  have hz : (List.replicate l.length [.int .i64 0, .int .i64 0]).flatten = fCell.all (List.replicate l.length zCell) := fCell.all_repl _ zCell
  refine runF_eq ?_
  simp [claws_toGiveCellS, hc.slen, hc.noLoc, lim, show (l.length : Int) ≤ 4294967296 by omega, hz]
  refine AW_each l.length (fun i x => x.1 0 = .v (.c c) ∧ x.1 3 = .v (.c (.sl (.inr h.nx) 0 l.length .own)) ∧ x.1 4 = .v (.c (.int .i64 i)) ∧ x.2 = ⟨h.push ⟨fCell.all (l.take i ++ List.replicate (l.length - i) zCell), 2, true⟩, nol⟩) (by simp [St.push]) ?_ ?_
  · rintro i ⟨T, s⟩ hin ⟨h0, h3, h4, rfl⟩
    simp only at h0 h3 h4
    obtain ⟨eb, ep, er, e1, _, e2, e3, e4, e5, e6⟩ := hc.cell hin
    have hne : eb ≠ h.nx := by have := ho.lt e2; omega
    have hlen : (fCell.all (l.take i ++ List.replicate (l.length - i) zCell)).length = l.length * 2 := by rw [fCell.all_length]; simp [fCell]; omega
    have hcut := fCell.all_put (l.take i ++ List.replicate (l.length - i) zCell) (i := i) (by simp; omega) l[i]
    rw [take_repl_put l zCell hin] at hcut
    simp only [fCell] at hcut hlen
    have hw := wrap1 (i := i) (by omega)
    have he2 : (Ce.sl (Sum.inr h.nx) 0 l.length .own).eltAt 2 i = some (.inr h.nx, i * 2) := by simp [Ce.eltAt, hin]
    have hfit : i * 2 + 2 ≤ l.length * 2 := by omega
    simp [claws_toGiveCellS_L0, h0, h3, h4, hc.slen, hin, e1, e2, Heap.push, upd, hne, e3, e4, elaws_toGiveCellS_laws_toGiveCell, A, he2, hlen, hfit, hw, fCell]
    rw [← hcut]
    exact upd_upd _ _ _ _
  · rintro ⟨T, s⟩ ⟨h0, h3, h4, rfl⟩
    simp only at h0 h3 h4
    simp [claws_toGiveCellS_L0, h0, h3, h4, hc.slen]

def eqCell (a b : Cell) : Bool := a.x == b.x && a.y == b.y
theorem eqCell_iff (a b : Cell) : eqCell a b = true ↔ a = b := by
  cases a; cases b
  simp [eqCell, and_assoc]
theorem laws_eqGiveCell (h : Heap) (a b : Cell) : Flaws_eqGiveCell [.v (.agg (fCell.ces a)), .v (.agg (fCell.ces b))] h = some (.v (.c (.bool (eqCell a b))), h) := by
  unfold Flaws_eqGiveCell eqCell
  refine runF_eq ?_
  simp +contextual [claws_eqGiveCell, fCell]

theorem laws_eqGiveCellS {S S' : Nat → Prop} (h : Heap) (c c' : Ce) (l l' : List Cell) (hc : RdF fCell S h c l) (hc' : RdF fCell S' h c' l') :
    ∃ r, Flaws_eqGiveCellS [.v (.c c), .v (.c c')] h = some (.v (.c (.bool r)), h) ∧ (r = true ↔ l = l') := by
  unfold Flaws_eqGiveCellS
  have hl := hc.le
  have A := laws_eqGiveCell
  simp only [fCell] at A
  obtain ⟨v, h', h1, r, rfl, rfl, h2⟩ := runF_of (env := elaws_eqGiveCellS) (code := claws_eqGiveCellS) (rs := [.t 4]) (args := [.v (.c c), .v (.c c')]) (h := h) (K := fun v h' => ∃ r, v = .v (.c (.bool r)) ∧ h' = h ∧ (r = true ↔ l = l')) (by
    by_cases hlen : l.length = l'.length
    · simp [claws_eqGiveCellS, hc.slen, hc'.slen, hc.noLoc, hlen]
      refine AW_for1 l.length (fun i => !eqCell (l.getD i default) (l'.getD i default)) (fun i x => x.1 0 = .v (.c c) ∧ x.1 1 = .v (.c c') ∧ x.1 5 = .v (.c (.int .i64 i)) ∧ x.2 = ⟨h, nol⟩) (by simp) ?_ ?_
      · rintro i ⟨T, s⟩ hin _ ⟨h0, h1, h5, rfl⟩
        simp only at h0 h1 h5
        have hin' : i < l'.length := by omega
        obtain ⟨eb, ep, er, e1, _, e2, e3, e4, e5, e6⟩ := hc.cell hin
        obtain ⟨fb, fp, fr, f1, _, f2, f3, f4, f5, f6⟩ := hc'.cell hin'
        have hw := wrap1 (i := i) (by omega)
        simp +contextual [claws_eqGiveCellS_L0, h0, h1, h5, hc.slen, hin, hin', e1, e2, e3, e4, f1, f2, f3, f4, elaws_eqGiveCellS_laws_eqGiveCell, A, hw]
        rintro hb rfl
        rw [(eqCell_iff _ _).2 rfl] at hb
        cases hb
      · rintro ⟨T, s⟩ hno ⟨h0, h1, h5, rfl⟩
        simp only at h0 h1 h5
        have hll : l = l' := by
          apply List.ext_getElem hlen
          intro j hj hj'
          exact (eqCell_iff _ _).1 (by simpa [hj, hj'] using hno j hj)
        simp [claws_eqGiveCellS_L0, h0, h1, h5, hc.slen, hll]
    · have hne : l ≠ l' := fun e => hlen (by rw [e])
      have : ¬ (l.length : Int) = l'.length := by omega
      simp [claws_eqGiveCellS, hc.slen, hc'.slen, hlen, this, hne])
  exact ⟨r, h1, h2⟩

/-- What the marks write. -/
def mkCell (k : Int) (i : Nat) : Cell := ⟨k + 2 * i, k + 2 * i + 1⟩
def marksCell (k : Int) (n : Nat) : List Cell := (List.range n).map (mkCell k)
theorem marksCell_length (k : Int) (n : Nat) : (marksCell k n).length = n := by simp [marksCell]
theorem marksCell_at (k : Int) (n i : Nat) (h : i < (marksCell k n).length) : (marksCell k n)[i] = mkCell k i := by simp [marksCell]
theorem laws_markGiveCellS (h : Heap) (c : Ce) (l : List Cell) (fp : List Nat) (k : Int) (ho : HOk h) (hc : OwnF fCell h c l fp) (hl : l.length ≤ 1048576) (hk : 0 ≤ k ∧ k ≤ 1152921504606846976) :
    ∃ h', Flaws_markGiveCellS [.v (.c c), .v (.c (.int .i64 k))] h = some (.v (.c (.int .i64 (k + 2 * l.length))), h') ∧ OwnF fCell h' c (marksCell k l.length) fp ∧ Chg fp h h' := by
  unfold Flaws_markGiveCellS
  rcases hc with ⟨rfl, rfl, rfl⟩ | ⟨b, rfl, hb, rfl⟩
  · refine ⟨h, runF_eq ?_, .inl ⟨rfl, rfl, rfl⟩, Chg.refl ho⟩
    simp [claws_markGiveCellS]
    refine AW_each 0 (fun i x => x.1 0 = .v (.c .nils) ∧ x.1 1 = .v (.c (.int .i64 k)) ∧ x.1 5 = .v (.c (.int .i64 0)) ∧ x.2 = ⟨h, nol⟩) (by simp) (by intros; omega) ?_
    rintro ⟨T, s⟩ ⟨h0, h1, h5, rfl⟩
    simp only at h0 h1 h5
    simp [claws_markGiveCellS_L0, h0, h1, h5, Ce.slen]
  · refine ⟨⟨h.nx, upd h.hp b (some ⟨fCell.all (marksCell k l.length), 2, true⟩)⟩, runF_eq ?_, .inr ⟨b, by rw [marksCell_length], by simp [upd, fCell], rfl⟩, Chg.one ho (ho.lt hb) _⟩
    simp [claws_markGiveCellS]
    refine AW_each l.length (fun i x => x.1 0 = .v (.c (.sl (.inr b) 0 l.length .own)) ∧ x.1 1 = .v (.c (.int .i64 (k + 2 * i))) ∧ x.1 5 = .v (.c (.int .i64 i)) ∧ x.2 = ⟨⟨h.nx, upd h.hp b (some ⟨fCell.all ((marksCell k l.length).take i ++ l.drop i), 2, true⟩)⟩, nol⟩) ?_ ?_ ?_
    · have := upd_same hb
      simp only [show fCell.sz = 2 from rfl] at this
      simp [this]
    · rintro i ⟨T, s⟩ hin ⟨h0, h1, h5, rfl⟩
      simp only at h0 h1 h5
      obtain ⟨K0, k0⟩ : ∃ K, K = k + 2 * (i : Int) := ⟨_, rfl⟩
      rw [← k0] at h1
      obtain ⟨K1, k1⟩ : ∃ K, K = K0 + 1 := ⟨_, rfl⟩
      have w0 : IntKind.i64.wrap (K0 + 1) = K1 := by rw [k1]; exact wrap_i64 (by omega) (by omega)
      obtain ⟨K2, k2⟩ : ∃ K, K = K1 + 1 := ⟨_, rfl⟩
      have w1 : IntKind.i64.wrap (K1 + 1) = K2 := by rw [k2]; exact wrap_i64 (by omega) (by omega)
      obtain ⟨L, hL⟩ : ∃ L, L = (marksCell k l.length).take i ++ l.drop i := ⟨_, rfl⟩
      rw [← hL]
      have hiL : i < L.length := by rw [hL]; simp [marksCell]; omega
      have hLi : L[i] = l[i] := by
        simp only [hL]
        rw [List.getElem_append_right (by simp; omega)]
        simp [marksCell, Nat.min_eq_left (Nat.le_of_lt hin)]
      have hlen : (fCell.all L).length = l.length * 2 := by rw [fCell.all_length, hL]; simp [fCell, marksCell]; omega
      have hlenS : ∀ B, (fCell.all (L.set i B)).length = l.length * 2 := by intro B; rw [fCell.all_length, List.length_set, ← fCell.all_length, hlen]
      have s0 := fCell.all_set L (i := i) (k := 0) (by simpa using hiL) (by decide) (b := ⟨K0, l[i].y⟩) (v := .int .i64 K0) (by simp [fCell, hLi])
      simp only [show fCell.sz = 2 from rfl, Nat.add_zero, Nat.add_assoc, Nat.reduceAdd] at s0
      have s1 := fCell.all_set (L.set i ⟨K0, l[i].y⟩) (i := i) (k := 1) (by simpa using hiL) (by decide) (b := ⟨K0, K1⟩) (v := .int .i64 K1) (by simp [fCell])
      rw [List.set_set] at s1
      simp only [show fCell.sz = 2 from rfl, Nat.add_zero, Nat.add_assoc, Nat.reduceAdd] at s1
      have q1 : i * 2 + 1 ≤ l.length * 2 := by omega
      have q2 : i * 2 + 2 ≤ l.length * 2 := by omega
      have g1 : (fCell.all (L.set i ⟨K0, l[i].y⟩)).length = l.length * 2 := hlenS _
      have g2 : (fCell.all (L.set i ⟨K0, K1⟩)).length = l.length * 2 := hlenS _
      have hw := wrap1 (i := i) (by omega)
      have he2 : (Ce.sl (Sum.inr b) 0 l.length .own).eltAt 2 i = some (.inr b, i * 2) := by simp [Ce.eltAt, hin]
      have hend : L.set i ⟨K0, K1⟩ = (marksCell k l.length).take (i + 1) ++ l.drop (i + 1) := by
        rw [hL, ← take_drop_set _ _ hin (by rw [marksCell_length]; omega), marksCell_at]
        simp only [mkCell]
        congr 2 <;> omega
      have hK : K2 = k + 2 * ((i : Int) + 1) := by omega
      simp [claws_markGiveCellS_L0, h0, h1, h5, Ce.slen, hin, he2, upd_upd, hlen, s0, w0, q1, g1, s1, w1, q2, g2, hw]
      exact ⟨hK, by rw [hend]⟩
    · rintro ⟨T, s⟩ ⟨h0, h1, h5, rfl⟩
      simp only at h0 h1 h5
      have e1 : (marksCell k l.length).take l.length = marksCell k l.length := by
        apply List.take_of_length_le
        rw [marksCell_length]; omega
      simp [claws_markGiveCellS_L0, h0, h1, h5, Ce.slen, e1]

theorem laws_toIntS {S : Nat → Prop} (h : Heap) (c : Ce) (l : List Int) (ho : HOk h) (hc : RdF fInt S h c l) (hl : l.length ≤ 1048576) :
    Flaws_toIntS [.v (.c c)] h = some (.v (.c (.sl (.inr h.nx) 0 l.length .own)), h.push ⟨fInt.all l, 1, true⟩) := by
  unfold Flaws_toIntS
  have hz : List.replicate l.length (Ce.int .i64 0) = fInt.all (List.replicate l.length 0) := by rw [← fInt.all_repl l.length 0]; simp [fInt]
  refine runF_eq ?_
  simp [claws_toIntS, hc.slen, hc.noLoc, lim, show (l.length : Int) ≤ 4294967296 by omega, hz]
  refine AW_each l.length (fun i x => x.1 0 = .v (.c c) ∧ x.1 3 = .v (.c (.sl (.inr h.nx) 0 l.length .own)) ∧ x.1 4 = .v (.c (.int .i64 i)) ∧ x.2 = ⟨h.push ⟨fInt.all (l.take i ++ List.replicate (l.length - i) 0), 1, true⟩, nol⟩) (by simp [St.push]) ?_ ?_
  · rintro i ⟨T, s⟩ hin ⟨h0, h3, h4, rfl⟩
    simp only at h0 h3 h4
    obtain ⟨eb, ep, er, e1, _, e2, e3, e5⟩ := hc.int1 hin
    have hne : eb ≠ h.nx := by have := ho.lt e2; omega
    have hlen : (fInt.all (l.take i ++ List.replicate (l.length - i) 0)).length = l.length := by rw [fInt.all_length]; simp [fInt]; omega
    have hcut := fInt.all_put (l.take i ++ List.replicate (l.length - i) 0) (i := i) (by simp; omega) l[i]
    rw [take_repl_put l 0 hin] at hcut
    simp only [fInt] at hcut hlen
    have hw := wrap1 (i := i) (by omega)
    have he2 : (Ce.sl (Sum.inr h.nx) 0 l.length .own).eltAt 1 i = some (.inr h.nx, i) := by simp [Ce.eltAt, hin]
    have hfit : i + 1 ≤ l.length := by omega
    simp at hcut
    simp [claws_toIntS_L0, h0, h3, h4, hc.slen, hin, e1, e2, Heap.push, upd, hne, e3, e5, he2, hlen, hfit, hw, fInt]
    rw [← hcut]
    exact upd_upd _ _ _ _
  · rintro ⟨T, s⟩ ⟨h0, h3, h4, rfl⟩
    simp only at h0 h3 h4
    simp [claws_toIntS_L0, h0, h3, h4, hc.slen]

theorem laws_eqIntS {S S' : Nat → Prop} (h : Heap) (c c' : Ce) (l l' : List Int) (hc : RdF fInt S h c l) (hc' : RdF fInt S' h c' l') :
    ∃ r, Flaws_eqIntS [.v (.c c), .v (.c c')] h = some (.v (.c (.bool r)), h) ∧ (r = true ↔ l = l') := by
  unfold Flaws_eqIntS
  have hl := hc.le
  obtain ⟨v, h', h1, r, rfl, rfl, h2⟩ := runF_of (env := elaws_eqIntS) (code := claws_eqIntS) (rs := [.t 4]) (args := [.v (.c c), .v (.c c')]) (h := h) (K := fun v h' => ∃ r, v = .v (.c (.bool r)) ∧ h' = h ∧ (r = true ↔ l = l')) (by
    by_cases hlen : l.length = l'.length
    · simp [claws_eqIntS, hc.slen, hc'.slen, hc.noLoc, hlen]
      refine AW_for1 l.length (fun i => !decide (l.getD i default = l'.getD i default)) (fun i x => x.1 0 = .v (.c c) ∧ x.1 1 = .v (.c c') ∧ x.1 5 = .v (.c (.int .i64 i)) ∧ x.2 = ⟨h, nol⟩) (by simp) ?_ ?_
      · rintro i ⟨T, s⟩ hin _ ⟨h0, h1, h5, rfl⟩
        simp only at h0 h1 h5
        have hin' : i < l'.length := by omega
        obtain ⟨eb, ep, er, e1, _, e2, e3, e5⟩ := hc.int1 hin
        obtain ⟨fb, fp, fr, f1, _, f2, f3, f5⟩ := hc'.int1 hin'
        have hw := wrap1 (i := i) (by omega)
        by_cases hb : l[i] = l'[i]
        · simp [claws_eqIntS_L0, h0, h1, h5, hc.slen, hin, hin', e1, e2, e5, f1, f2, f5, hw, hb]
        · have hne : l ≠ l' := by rintro rfl; exact hb rfl
          simp [claws_eqIntS_L0, h0, h1, h5, hc.slen, hin, hin', e1, e2, e5, f1, f2, f5, hw, hb, hne]
      · rintro ⟨T, s⟩ hno ⟨h0, h1, h5, rfl⟩
        simp only at h0 h1 h5
        have hll : l = l' := by
          apply List.ext_getElem hlen
          intro j hj hj'
          simpa [hj, hj'] using hno j hj
        simp [claws_eqIntS_L0, h0, h1, h5, hc.slen, hll]
    · have hne : l ≠ l' := fun e => hlen (by rw [e])
      have : ¬ (l.length : Int) = l'.length := by omega
      simp [claws_eqIntS, hc.slen, hc'.slen, hlen, this, hne])
  exact ⟨r, h1, h2⟩
end Go.Abs

/-
  The helpers of the laws for wishes, second part: ways.
-/

namespace Go.Abs
set_option linter.unusedSimpArgs false
set_option linter.unusedVariables false
attribute [local simp] AW_skip AW_exit AW_ret AW_seq AW_block AW_cond CW_ite AW_reg AW_regD AW_regDc RD_nil RD_cons keyEq hasP hasH hasL chkL chkH recK recH inRange lightKey BookC.len BookC.take WishC.len WishC.take RW_nil RW_cons RW_guard GW_t GW_f GW_gt GW_gf GW_tup GY_some GY_tt GY_ff gd_t gd_f pk_t pk_f pk_and pk_or pk_andc pk_orc pk_bool gd_gd SW_some ThenQ_normal ThenQ_exit ThenQ_ret BlockQ_normal BlockQ_exit BlockQ_ret kill_nil kill_cons killT_at killL_at upo_some upo_none ev_t ev_k FinQ_ret FinQ_normal upd_eq upd_ne argsT_zero argsT_succ aop.eq_1 aop_pick aop.eq_3 aop.eq_4 aop.eq_5 aop.eq_6 aop.eq_7 aop.eq_8 aop.eq_9 aop.eq_10 aop.eq_11 aop.eq_12 aop.eq_13 aop.eq_14 aop.eq_15 aop.eq_16 aop.eq_17 aop.eq_18 aop.eq_19 aop.eq_20 aop.eq_21 aop_slice_hi aop_slice_lo aop.eq_23 aop.eq_24 aop.eq_26 aop.eq_27 aop.eq_28 aop.eq_29 aop.eq_31 aop.eq_32 aop_maxs2 aop_mins2 aop_mins3 aop_len aop_iaddr Av.bool? Av.ptr? Av.int? Av.int64? Av.str? Av.agg? ressA resA resOf noLoc_int noLoc_bool noLoc_str noLoc_nils noLoc_nilp noLoc_ptrl noLoc_ptrr noLoc_sll noLoc_slr noLoc_fn noLoc_tc noLoc_tagg noLoc_av noLoc_atup ce_c tv_v cells_c cells_agg noLocs keyLoc evs callA St.set St.get unAv binCe killV_int killV_bool killV_str killV_nils killV_nilp killV_agg killV_no killV_tup killV_ptrl killV_ptrr killV_sll killV_slr killV_fn killV_noLoc fillA repl ptrs List.map
attribute [local congr] GY_congr

theorem toCells' {S : Nat → Prop} (h : Heap) (c : Ce) (l : List Cell) (ho : HOk h) (hc : RdF fCell S h c l) (hl : l.length ≤ 1048576) :
    ∃ c' h' fp, Flaws_toGiveCellS [.v (.c c)] h = some (.v (.c c'), h') ∧ NewF fCell h h' c' l fp := ⟨_, _, _, laws_toGiveCellS h c l ho hc hl, NewF.push ho l _ rfl⟩
theorem toInts' {S : Nat → Prop} (h : Heap) (c : Ce) (l : List Int) (ho : HOk h) (hc : RdF fInt S h c l) (hl : l.length ≤ 1048576) :
    ∃ c' h' fp, Flaws_toIntS [.v (.c c)] h = some (.v (.c c'), h') ∧ NewF fInt h h' c' l fp := ⟨_, _, _, laws_toIntS h c l ho hc hl, NewF.push ho l _ rfl⟩

theorem laws_szGiveWay {S : Nat → Prop} (h : Heap) (c : Ce) (a : List Cell) (k : Int) (hr : RdF fCell S h c a) (hk : 0 ≤ k ∧ k ≤ 1048576) :
    ∃ r, Flaws_szGiveWay [.v (.agg [c]), .v (.c (.int .i64 k))] h = some (.v (.c (.int .i64 r)), h) ∧ Left k r ∧ (0 ≤ r → a.length ≤ 1048576) := by
  unfold Flaws_szGiveWay
  have s := laws_szGiveCellS h c a k hr hk
  by_cases hb : k < a.length
  · rw [if_pos hb] at s
    refine ⟨-1, runF_eq ?_, .inl rfl, by omega⟩
    simp [claws_szGiveWay, hr.noLoc, elaws_szGiveWay_laws_szGiveCellS, s]
  · rw [if_neg hb] at s
    have n : ¬ k - (a.length : Int) < 0 := by omega
    refine ⟨k - a.length, runF_eq ?_, .inr (by omega), fun _ => by omega⟩
    simp [claws_szGiveWay, hr.noLoc, elaws_szGiveWay_laws_szGiveCellS, s, n]
theorem laws_szGiveWayS {S : Nat → Prop} (h : Heap) (c : Ce) (l : List (List Cell)) (hs : List Ce) (k : Int) (hc : RdF fCe S h c hs) (hlen : hs.length = l.length) (hel : ∀ i (hi : i < hs.length) (hi' : i < l.length), RdF fCell S h hs[i] l[i]) (hk : 0 ≤ k ∧ k ≤ 1048576) :
    ∃ r, Flaws_szGiveWayS [.v (.c c), .v (.c (.int .i64 k))] h = some (.v (.c (.int .i64 r)), h) ∧ Left k r ∧ (0 ≤ r → l.length ≤ 1048576 ∧ ∀ a, a ∈ l → a.length ≤ 1048576) := by
  unfold Flaws_szGiveWayS
  have hl := hc.le
  have e := sub_left (n := hs.length) hk hl
  obtain ⟨v, h', h1, r, rfl, rfl, h2⟩ := runF_of (env := elaws_szGiveWayS) (code := claws_szGiveWayS) (rs := [.t 4]) (args := [.v (.c c), .v (.c (.int .i64 k))]) (h := h) (K := fun v h' => ∃ r, v = .v (.c (.int .i64 r)) ∧ h' = h ∧ Left k r ∧ (0 ≤ r → l.length ≤ 1048576 ∧ ∀ a, a ∈ l → a.length ≤ 1048576)) (by
    by_cases hb : k < hs.length
    · have e1 : k - (hs.length : Int) < 0 := by omega
      simp [claws_szGiveWayS, hc.slen, e, e1]
      exact .inl rfl
    · have e1 : ¬ k - (hs.length : Int) < 0 := by omega
      simp [claws_szGiveWayS, hc.slen, hc.noLoc, e, e1]
      refine AW_loop (fun i x => i ≤ hs.length ∧ x.1 0 = .v (.c c) ∧ x.1 5 = .v (.c (.int .i64 i)) ∧ x.2 = ⟨h, nol⟩ ∧ (∀ j (hj : j < l.length), j < i → l[j].length ≤ 1048576) ∧ ∃ r, x.1 1 = .v (.c (.int .i64 r)) ∧ 0 ≤ r ∧ r ≤ k) hs.length (by simp; omega) ?_
      rintro i ⟨T, s⟩ hi ⟨_, h0, h5, rfl, hsm, r, h1, hr⟩
      simp only at h0 h1 h5
      by_cases hin : i < hs.length
      · obtain ⟨eb, ep, er, e1, _, e2, e3, e5, e4⟩ := hc.ce1 hin
        have hin' : i < l.length := by omega
        have hw1 := wrap1 (i := i) (by omega)
        obtain ⟨r', A1, A2, A3⟩ := laws_szGiveWay h hs[i] l[i] r (hel i hin hin') (by omega)
        rcases A2 with rfl | A2
        · simp [claws_szGiveWayS_L0, h0, h1, h5, hc.slen, hin, e1, e2, e3, e4, elaws_szGiveWayS_laws_szGiveWay, A1, hw1]
          exact .inl rfl
        · have A4 : ¬ r' < 0 := by omega
          simp [claws_szGiveWayS_L0, h0, h1, h5, hc.slen, hin, e1, e2, e3, e4, elaws_szGiveWayS_laws_szGiveWay, A1, A4, hw1]
          refine ⟨hin, fun j hj hji => ?_, by omega, by omega⟩
          by_cases hje : j = i
          · subst hje; exact A3 A2.1
          · exact hsm j hj (by omega)
      · have hie : i = hs.length := by omega
        subst hie
        simp [claws_szGiveWayS_L0, h0, h1, h5, hc.slen]
        refine ⟨.inr hr, fun _ => ⟨by omega, fun a ha => ?_⟩⟩
        obtain ⟨j, hj, rfl⟩ := List.getElem_of_mem ha
        exact hsm j hj (by omega))
  exact ⟨r, h1, h2⟩


def zWay : Ce := .nils
theorem laws_toGiveWay {S : Nat → Prop} (h : Heap) (c : Ce) (a : List Cell) (ho : HOk h) (hr : RdF fCell S h c a) (ht : a.length ≤ 1048576) :
    ∃ c' h' f, Flaws_toGiveWay [.v (.agg [c])] h = some (.v (.agg [c']), h') ∧ NewF fCell h h' c' a f := by
  unfold Flaws_toGiveWay
  obtain ⟨c1, h1, f1, t1, m1⟩ := toCells' h c a ho hr ht
  refine ⟨c1, h1, f1, runF_eq ?_, m1⟩
  simp [claws_toGiveWay, hr.noLoc, m1.own.noLoc, elaws_toGiveWay_laws_toGiveCellS, t1]

theorem laws_toGiveWayS {S : Nat → Prop} (h : Heap) (c : Ce) (l : List (List Cell)) (hs : List Ce) (ho : HOk h) (hc : RdF fCe S h c hs) (hlen : hs.length = l.length) (hel : ∀ i (hi : i < hs.length) (hi' : i < l.length), RdF fCell S h hs[i] l[i]) (hl : l.length ≤ 1048576) (ht : ∀ a, a ∈ l → a.length ≤ 1048576) :
    ∃ c' h' fp, Flaws_toGiveWayS [.v (.c c)] h = some (.v (.c c'), h') ∧ OwnWayS h' c' l fp ∧ Fr h h' ∧ ∀ x, x ∈ fp → h.nx ≤ x := by
  unfold Flaws_toGiveWayS
  have hz : List.replicate hs.length Ce.nils = fCe.all (List.replicate hs.length zWay) := by rw [← fCe.all_repl hs.length zWay]; simp [fCe, zWay]
  have f0 := Fr.push ho ⟨fCe.all (List.replicate hs.length zWay), 1, true⟩
  obtain ⟨v, h', h1, c', fp, rfl, h2⟩ := runF_of (env := elaws_toGiveWayS) (code := claws_toGiveWayS) (rs := [.t 2]) (args := [.v (.c c)]) (h := h) (K := fun v h' => ∃ c' fp, v = .v (.c c') ∧ OwnWayS h' c' l fp ∧ Fr h h' ∧ ∀ x, x ∈ fp → h.nx ≤ x) (by
    simp [claws_toGiveWayS, hc.slen, hc.noLoc, lim, show (hs.length : Int) ≤ 4294967296 by omega, hz]
    refine AW_each hs.length (fun i x => x.1 0 = .v (.c c) ∧ x.1 3 = .v (.c (.sl (.inr h.nx) 0 hs.length .own)) ∧ x.1 4 = .v (.c (.int .i64 i)) ∧ Fr h x.2.h ∧ h.nx < x.2.h.nx ∧ ∃ (bs : List Ce) (fps : List (List Nat)), bs.length = i ∧ fps.length = i ∧ x.2.h.hp h.nx = some ⟨fCe.all (bs ++ List.replicate (hs.length - i) zWay), 1, true⟩ ∧ (∀ (j : Nat) (b : Ce) (a : List Cell) (f : List Nat), bs[j]? = some b → l[j]? = some a → fps[j]? = some f → OwnWay x.2.h b a f) ∧ fps.flatten.Nodup ∧ ∀ y, y ∈ fps.flatten → h.nx < y) ?_ ?_ ?_
    · simp [St.push, f0, push_nx]
      exact push_at _ _
    · rintro i ⟨T, ⟨h', lc⟩⟩ hin ⟨h0, h3, h4, fr, hnx, bs, fps, q1, q2, q3, q4, q5, q6⟩
      simp only at h0 h3 h4 fr hnx q3 q4
      have hin' : i < l.length := by omega
      have hc' := hc.keep ho fr
      obtain ⟨eb, ep, er, e1, _, e2, e3, e5, e4⟩ := hc'.ce1 hin
      have hr := (hel i hin hin').keep ho fr
      obtain ⟨cc, h'', f, t1, n1⟩ := laws_toGiveWay h' hs[i] l[i] fr.ok hr (ht _ (List.getElem_mem hin'))
      have o1 : OwnWay h'' cc l[i] f := n1.own
      have fr2 := n1.fr
      have nd := n1.own.nodup
      have ge := n1.ge
      have hw := wrap1 (i := i) (by omega)
      have he2 : (Ce.sl (Sum.inr h.nx) 0 hs.length .own).eltAt 1 i = some (.inr h.nx, i) := by simp [Ce.eltAt, hin]
      have q3' : h''.hp h.nx = some ⟨fCe.all (bs ++ List.replicate (hs.length - i) zWay), 1, true⟩ := by rw [fr2.hp _ hnx]; exact q3
      have hlen2 : (fCe.all (bs ++ List.replicate (hs.length - i) zWay)).length = hs.length := by rw [fCe.all_length]; simp [fCe]; omega
      have hfit : i + 1 ≤ hs.length := by omega
      have hput := fCe.all_put (bs ++ List.replicate (hs.length - i) zWay) (i := i) (by simp; omega) cc
      have hset : (bs ++ List.replicate (hs.length - i) zWay).set i cc = (bs ++ [cc]) ++ List.replicate (hs.length - (i + 1)) zWay := by
        rw [List.set_append_right _ _ (by omega), q1, Nat.sub_self, show hs.length - i = (hs.length - (i + 1)) + 1 by omega, List.replicate_succ, List.append_assoc]
        rfl
      rw [hset] at hput
      have hces : fCe.ces cc = [cc] := rfl
      rw [hces] at hput
      simp only [show fCe.sz = 1 from rfl] at hput
      simp at hput
      have hnx2 := fr2.nx
      simp [claws_toGiveWayS_L0, h0, h3, h4, hc.slen, hin, e1, e2, e3, e4, elaws_toGiveWayS_laws_toGiveWay, t1, n1.own.noLoc, he2, q3', hlen2, hfit, hw, hput]
      have fr3 := fr.trans fr2
      have c1 := Chg.one fr2.ok (show h.nx < h''.nx by omega) (some ⟨fCe.all (bs ++ cc :: List.replicate (hs.length - (i + 1)) zWay), 1, true⟩)
      refine ⟨⟨Nat.le_trans fr3.nx c1.nx, fun x hx => ?_, c1.ok⟩, by omega, bs ++ [cc], by simp [q1], fps ++ [f], by simp [q2], by simp [upd], ?_, ?_, ?_⟩
      · rw [c1.hp x (Nat.lt_of_lt_of_le hx fr3.nx) (by simp; omega)]
        exact fr3.hp x hx
      · intro j b a f' hb ha hf
        by_cases hj : j < i
        · rw [List.getElem?_append_left (by omega)] at hb hf
          have old := q4 j b a f' hb ha hf
          refine okWay.frame (fun x hx => ?_) old
          have hxm : x ∈ fps.flatten := List.mem_flatten.2 ⟨f', List.mem_of_getElem? hf, hx⟩
          have hx1 := okWay.lt fr.ok old x hx
          have hx2 := q6 x hxm
          show upd h''.hp h.nx _ x = h'.hp x
          simp only [upd]
          rw [if_neg (by omega)]
          exact fr2.hp x hx1
        · have hjl := (List.getElem?_eq_some_iff.1 hb).1
          simp [q1] at hjl
          have hji : j = i := by omega
          subst hji
          rw [List.getElem?_append_right (by omega), q1, Nat.sub_self] at hb
          rw [List.getElem?_append_right (by omega), q2, Nat.sub_self] at hf
          rw [List.getElem?_eq_getElem hin'] at ha
          simp at hb ha hf
          subst hb ha hf
          refine okWay.frame (fun x hx => ?_) o1
          have := ge x hx
          show upd h''.hp h.nx _ x = h''.hp x
          simp only [upd]
          rw [if_neg (by omega)]
      · rw [List.flatten_append, List.nodup_append]
        refine ⟨q5, by simpa using nd, fun x hx y hy => ?_⟩
        simp at hy
        have := ge y hy
        obtain ⟨f', hf', hxf⟩ := List.mem_flatten.1 hx
        obtain ⟨j, hj, rfl⟩ := List.getElem_of_mem hf'
        have := okWay.lt fr.ok (q4 j (bs[j]'(by omega)) (l[j]'(by omega)) fps[j] (List.getElem?_eq_getElem _) (List.getElem?_eq_getElem _) (List.getElem?_eq_getElem hj)) x hxf
        omega
      · intro y g hg hy
        rw [List.mem_append] at hg
        rcases hg with hg | hg
        · exact q6 y (List.mem_flatten.2 ⟨g, hg, hy⟩)
        · simp at hg
          subst hg
          have := ge y hy
          omega
    · rintro ⟨T, ⟨h', lc⟩⟩ ⟨h0, h3, h4, fr, hnx, bs, fps, q1, q2, q3, q4, q5, q6⟩
      simp only at h0 h3 h4 fr hnx q3 q4
      simp at q3
      simp [claws_toGiveWayS_L0, h0, h3, h4, hc.slen]
      refine ⟨h.nx :: fps.flatten, ⟨bs, fps, [h.nx], .inr ⟨h.nx, by rw [q1], q3, rfl⟩, by omega, by omega, q4, rfl, ?_⟩, fr, fun x hx => ?_⟩
      · rw [List.nodup_cons]
        exact ⟨fun hm => by have := q6 _ hm; omega, q5⟩
      · simp only [List.mem_cons] at hx
        rcases hx with rfl | hx
        · exact Nat.le_refl _
        · exact Nat.le_of_lt (q6 x hx))
  exact ⟨c', h', fp, h1, h2⟩

theorem laws_eqGiveWay {S S' : Nat → Prop} (h : Heap) (c c' : Ce) (a a' : List Cell) (hr : RdF fCell S h c a) (hr' : RdF fCell S' h c' a') :
    ∃ r, Flaws_eqGiveWay [.v (.agg [c]), .v (.agg [c'])] h = some (.v (.c (.bool r)), h) ∧ (r = true ↔ a = a') := by
  unfold Flaws_eqGiveWay
  obtain ⟨r1, e1, i1⟩ := laws_eqGiveCellS h c c' _ _ hr hr'
  refine ⟨r1, runF_eq ?_, i1⟩
  cases r1 <;> simp [claws_eqGiveWay, hr.noLoc, hr'.noLoc, elaws_eqGiveWay_laws_eqGiveCellS, e1]

theorem laws_eqGiveWayS {S S' : Nat → Prop} (h : Heap) (c c' : Ce) (l l' : List (List Cell)) (hs hs' : List Ce) (hc : RdF fCe S h c hs) (hlen : hs.length = l.length) (hel : ∀ i (hi : i < hs.length) (hi' : i < l.length), RdF fCell S h hs[i] l[i])
    (hc' : RdF fCe S' h c' hs') (hlen' : hs'.length = l'.length) (hel' : ∀ i (hi : i < hs'.length) (hi' : i < l'.length), RdF fCell S' h hs'[i] l'[i]) :
    ∃ r, Flaws_eqGiveWayS [.v (.c c), .v (.c c')] h = some (.v (.c (.bool r)), h) ∧ (r = true ↔ l = l') := by
  unfold Flaws_eqGiveWayS
  have hl := hc.le
  obtain ⟨v, h', h1, r, rfl, rfl, h2⟩ := runF_of (env := elaws_eqGiveWayS) (code := claws_eqGiveWayS) (rs := [.t 4]) (args := [.v (.c c), .v (.c c')]) (h := h) (K := fun v h' => ∃ r, v = .v (.c (.bool r)) ∧ h' = h ∧ (r = true ↔ l = l')) (by
    by_cases hll : hs.length = hs'.length
    · simp [claws_eqGiveWayS, hc.slen, hc'.slen, hc.noLoc, hll]
      refine AW_loop (fun i x => i ≤ hs.length ∧ x.1 0 = .v (.c c) ∧ x.1 1 = .v (.c c') ∧ x.1 5 = .v (.c (.int .i64 i)) ∧ x.2 = ⟨h, nol⟩ ∧ ∀ j, j < i → l[j]? = l'[j]?) hs.length (by simp) ?_
      rintro i ⟨T, s⟩ hi ⟨_, h0, h1, h5, rfl, heq⟩
      simp only at h0 h1 h5
      by_cases hin : i < hs.length
      · have hin' : i < hs'.length := by omega
        have hil : i < l.length := by omega
        have hil' : i < l'.length := by omega
        obtain ⟨eb, ep, er, e1, _, e2, e3, e5, e4⟩ := hc.ce1 hin
        obtain ⟨fb, fp, fr, f1, _, f2, f3, f5, f4⟩ := hc'.ce1 hin'
        have hw := wrap1 (i := i) (by omega)
        obtain ⟨r, A1, A2⟩ := laws_eqGiveWay h hs[i] hs'[i] l[i] l'[i] (hel i hin hil) (hel' i hin' hil')
        cases r
        · have hne : l ≠ l' := by
            rintro rfl
            have := A2.2 rfl
            cases this
          simp [claws_eqGiveWayS_L0, h0, h1, h5, hc.slen, hin, hin', e1, e2, e3, e4, f1, f2, f3, f4, elaws_eqGiveWayS_laws_eqGiveWay, A1, hw, hne]
        · have hbe := A2.1 rfl
          simp [claws_eqGiveWayS_L0, h0, h1, h5, hc.slen, hin, hin', e1, e2, e3, e4, f1, f2, f3, f4, elaws_eqGiveWayS_laws_eqGiveWay, A1, hw]
          refine ⟨hin, fun j hj => ?_⟩
          by_cases hji : j = i
          · subst hji
            rw [List.getElem?_eq_getElem hil, List.getElem?_eq_getElem hil', hbe]
          · exact heq j (by omega)
      · have hie : i = hs.length := by omega
        subst hie
        have : l = l' := by
          apply List.ext_getElem?
          intro j
          by_cases hj : j < l.length
          · exact heq j (by omega)
          · rw [List.getElem?_eq_none (by omega), List.getElem?_eq_none (by omega)]
        simp [claws_eqGiveWayS_L0, h0, h1, h5, hc.slen, this]
    · have hne : l ≠ l' := fun e => hll (by rw [hlen, hlen', e])
      have : ¬ (hs.length : Int) = hs'.length := by omega
      simp [claws_eqGiveWayS, hc.slen, hc'.slen, hll, this, hne])
  exact ⟨r, h1, h2⟩
end Go.Abs

/-
  The helpers of the laws for wishes, third part: wishes whole.
-/

namespace Go.Abs
set_option linter.unusedSimpArgs false
set_option linter.unusedVariables false
attribute [local simp] AW_skip AW_exit AW_ret AW_seq AW_block AW_cond CW_ite AW_reg AW_regD AW_regDc RD_nil RD_cons keyEq hasP hasH hasL chkL chkH recK recH inRange lightKey BookC.len BookC.take WishC.len WishC.take RW_nil RW_cons RW_guard GW_t GW_f GW_gt GW_gf GW_tup GY_some GY_tt GY_ff gd_t gd_f pk_t pk_f pk_and pk_or pk_andc pk_orc pk_bool gd_gd SW_some ThenQ_normal ThenQ_exit ThenQ_ret BlockQ_normal BlockQ_exit BlockQ_ret kill_nil kill_cons killT_at killL_at upo_some upo_none ev_t ev_k FinQ_ret FinQ_normal upd_eq upd_ne argsT_zero argsT_succ aop.eq_1 aop_pick aop.eq_3 aop.eq_4 aop.eq_5 aop.eq_6 aop.eq_7 aop.eq_8 aop.eq_9 aop.eq_10 aop.eq_11 aop.eq_12 aop.eq_13 aop.eq_14 aop.eq_15 aop.eq_16 aop.eq_17 aop.eq_18 aop.eq_19 aop.eq_20 aop.eq_21 aop_slice_hi aop_slice_lo aop.eq_23 aop.eq_24 aop.eq_26 aop.eq_27 aop.eq_28 aop.eq_29 aop.eq_31 aop.eq_32 aop_maxs2 aop_mins2 aop_mins3 aop_len aop_iaddr Av.bool? Av.ptr? Av.int? Av.int64? Av.str? Av.agg? ressA resA resOf noLoc_int noLoc_bool noLoc_str noLoc_nils noLoc_nilp noLoc_ptrl noLoc_ptrr noLoc_sll noLoc_slr noLoc_fn noLoc_tc noLoc_tagg noLoc_av noLoc_atup ce_c tv_v cells_c cells_agg noLocs keyLoc evs callA St.set St.get unAv binCe killV_int killV_bool killV_str killV_nils killV_nilp killV_agg killV_no killV_tup killV_ptrl killV_ptrr killV_sll killV_slr killV_fn killV_noLoc fillA repl ptrs List.map
attribute [local congr] GY_congr

/-- What the marks write. -/
def mkInt (k : Int) (i : Nat) : Int := k + i
def marksInt (k : Int) (n : Nat) : List Int := (List.range n).map (mkInt k)
theorem marksInt_length (k : Int) (n : Nat) : (marksInt k n).length = n := by simp [marksInt]
theorem marksInt_at (k : Int) (n i : Nat) (h : i < (marksInt k n).length) : (marksInt k n)[i] = mkInt k i := by simp [marksInt]
theorem laws_markIntS (h : Heap) (c : Ce) (l : List Int) (fp : List Nat) (k : Int) (ho : HOk h) (hc : OwnF fInt h c l fp) (hl : l.length ≤ 1048576) (hk : 0 ≤ k ∧ k ≤ 1152921504606846976) :
    ∃ h', Flaws_markIntS [.v (.c c), .v (.c (.int .i64 k))] h = some (.v (.c (.int .i64 (k + l.length))), h') ∧ OwnF fInt h' c (marksInt k l.length) fp ∧ Chg fp h h' := by
  unfold Flaws_markIntS
  rcases hc with ⟨rfl, rfl, rfl⟩ | ⟨b, rfl, hb, rfl⟩
  · refine ⟨h, runF_eq ?_, .inl ⟨rfl, rfl, rfl⟩, Chg.refl ho⟩
    simp [claws_markIntS]
    refine AW_each 0 (fun i x => x.1 0 = .v (.c .nils) ∧ x.1 1 = .v (.c (.int .i64 k)) ∧ x.1 5 = .v (.c (.int .i64 0)) ∧ x.2 = ⟨h, nol⟩) (by simp) (by intros; omega) ?_
    rintro ⟨T, s⟩ ⟨h0, h1, h5, rfl⟩
    simp only at h0 h1 h5
    simp [claws_markIntS_L0, h0, h1, h5, Ce.slen]
  · refine ⟨⟨h.nx, upd h.hp b (some ⟨fInt.all (marksInt k l.length), 1, true⟩)⟩, runF_eq ?_, .inr ⟨b, by rw [marksInt_length], by simp [upd, fInt], rfl⟩, Chg.one ho (ho.lt hb) _⟩
    simp [claws_markIntS]
    refine AW_each l.length (fun i x => x.1 0 = .v (.c (.sl (.inr b) 0 l.length .own)) ∧ x.1 1 = .v (.c (.int .i64 (k + i))) ∧ x.1 5 = .v (.c (.int .i64 i)) ∧ x.2 = ⟨⟨h.nx, upd h.hp b (some ⟨fInt.all ((marksInt k l.length).take i ++ l.drop i), 1, true⟩)⟩, nol⟩) ?_ ?_ ?_
    · have := upd_same hb
      simp only [show fInt.sz = 1 from rfl] at this
      simp [this]
    · rintro i ⟨T, s⟩ hin ⟨h0, h1, h5, rfl⟩
      simp only at h0 h1 h5
      obtain ⟨K0, k0⟩ : ∃ K, K = k + (i : Int) := ⟨_, rfl⟩
      rw [← k0] at h1
      obtain ⟨K1, k1⟩ : ∃ K, K = K0 + 1 := ⟨_, rfl⟩
      have w0 : IntKind.i64.wrap (K0 + 1) = K1 := by rw [k1]; exact wrap_i64 (by omega) (by omega)
      obtain ⟨L, hL⟩ : ∃ L, L = (marksInt k l.length).take i ++ l.drop i := ⟨_, rfl⟩
      rw [← hL]
      have hiL : i < L.length := by rw [hL]; simp [marksInt]; omega
      have hLi : L[i] = l[i] := by
        simp only [hL]
        rw [List.getElem_append_right (by simp; omega)]
        simp [marksInt, Nat.min_eq_left (Nat.le_of_lt hin)]
      have hlen : (fInt.all L).length = l.length := by rw [fInt.all_length, hL]; simp [fInt, marksInt]; omega
      have hlenS : ∀ B, (fInt.all (L.set i B)).length = l.length := by intro B; rw [fInt.all_length, List.length_set, ← fInt.all_length, hlen]
      have s0 := fInt.all_set L (i := i) (k := 0) (by simpa using hiL) (by decide) (b := K0) (v := .int .i64 K0) (by simp [fInt, hLi])
      simp only [show fInt.sz = 1 from rfl, Nat.add_zero, Nat.mul_one, Nat.add_assoc, Nat.reduceAdd] at s0
      have q1 : i + 1 ≤ l.length := by omega
      have g1 : (fInt.all (L.set i K0)).length = l.length := hlenS _
      have hw := wrap1 (i := i) (by omega)
      have he2 : (Ce.sl (Sum.inr b) 0 l.length .own).eltAt 1 i = some (.inr b, i) := by simp [Ce.eltAt, hin]
      have hend : L.set i K0 = (marksInt k l.length).take (i + 1) ++ l.drop (i + 1) := by
        rw [hL, ← take_drop_set _ _ hin (by rw [marksInt_length]; omega), marksInt_at]
        simp only [mkInt]
        congr 2 <;> omega
      have hK : K1 = k + ((i : Int) + 1) := by omega
      simp [claws_markIntS_L0, h0, h1, h5, Ce.slen, hin, he2, upd_upd, hlen, s0, w0, q1, g1, hw]
      exact ⟨hK, by rw [hend]⟩
    · rintro ⟨T, s⟩ ⟨h0, h1, h5, rfl⟩
      simp only at h0 h1 h5
      have e1 : (marksInt k l.length).take l.length = marksInt k l.length := by
        apply List.take_of_length_le
        rw [marksInt_length]; omega
      simp [claws_markIntS_L0, h0, h1, h5, Ce.slen, e1]

def cntWays : List (List Cell) → Int
  | [] => 0
  | a :: r => 2 * (a.length : Int) + cntWays r
theorem cntWays_append (a b : List (List Cell)) : cntWays (a ++ b) = cntWays a + cntWays b := by
  induction a with
  | nil => simp [cntWays]
  | cons x r ih => simp only [List.cons_append, cntWays, ih]; omega
theorem cntWays_take (l : List (List Cell)) {i : Nat} (hi : i < l.length) : cntWays (l.take (i + 1)) = cntWays (l.take i) + 2 * (l[i].length : Int) := by
  rw [List.take_add_one, List.getElem?_eq_getElem hi, cntWays_append]
  simp [cntWays]
theorem cntWays_le (l : List (List Cell)) (ht : ∀ a, a ∈ l → a.length ≤ 1048576) : 0 ≤ cntWays l ∧ cntWays l ≤ 3000000 * l.length := by
  induction l with
  | nil => simp [cntWays]
  | cons x r ih =>
    have h1 := ht x (by simp)
    have h2 := ih fun a ha => ht a (by simp [ha])
    simp only [cntWays, List.length_cons]
    omega
def marksWays (k : Int) (l : List (List Cell)) : List (List Cell) := (List.range l.length).map fun i => marksCell (k + cntWays (l.take i)) (l.getD i default).length
theorem marksWays_length (k : Int) (l : List (List Cell)) : (marksWays k l).length = l.length := by simp [marksWays]
theorem marksWays_at (k : Int) (l : List (List Cell)) (i : Nat) (h : i < (marksWays k l).length) (hl : i < l.length) : (marksWays k l)[i] = marksCell (k + cntWays (l.take i)) l[i].length := by simp [marksWays, hl]

theorem laws_markGiveWayS (h : Heap) (c : Ce) (l : List (List Cell)) (fp : List Nat) (k : Int) (ho : HOk h) (hc : OwnWayS h c l fp) (hl : l.length ≤ 1048576) (ht : ∀ a, a ∈ l → a.length ≤ 1048576) (hk : 0 ≤ k ∧ k ≤ 1125899906842624) :
    ∃ h', Flaws_markGiveWayS [.v (.c c), .v (.c (.int .i64 k))] h = some (.v (.c (.int .i64 (k + cntWays l))), h') ∧ OwnWayS h' c (marksWays k l) fp ∧ Chg fp h h' := by
  unfold Flaws_markGiveWayS
  have hcn := hc.noLoc
  have hcs := hc.slen
  obtain ⟨v, h', h1, rfl, h2, h3⟩ := runF_of (env := elaws_markGiveWayS) (code := claws_markGiveWayS) (rs := [.t 4]) (args := [.v (.c c), .v (.c (.int .i64 k))]) (h := h) (K := fun v h' => v = .v (.c (.int .i64 (k + cntWays l))) ∧ OwnWayS h' c (marksWays k l) fp ∧ Chg fp h h') (by
    simp [claws_markGiveWayS]
    refine AW_each l.length (fun i x => x.1 0 = .v (.c c) ∧ x.1 1 = .v (.c (.int .i64 (k + cntWays (l.take i)))) ∧ x.1 5 = .v (.c (.int .i64 i)) ∧ Chg fp h x.2.h ∧ OwnWayS x.2.h c ((marksWays k l).take i ++ l.drop i) fp) ?_ ?_ ?_
    · simp [Chg.refl ho, cntWays, hcn]
      exact hc
    · rintro i ⟨T, ⟨h', lc⟩⟩ hin ⟨h0, h1, h5, cg, ow⟩
      simp only at h0 h1 h5 cg ow
      have hcnt := cntWays_le (l.take i) (fun a ha => ht a (List.mem_of_mem_take ha))
      have htl : (l.take i).length ≤ 1048576 := by rw [List.length_take]; omega
      obtain ⟨K0, k0⟩ : ∃ K, K = k + cntWays (l.take i) := ⟨_, rfl⟩
      rw [← k0] at h1
      have hK0 : 0 ≤ K0 ∧ K0 ≤ 1152921504606846976 - 100000000 := by omega
      have t1 := ht _ (List.getElem_mem hin)
      obtain ⟨L, hL⟩ : ∃ L, L = (marksWays k l).take i ++ l.drop i := ⟨_, rfl⟩
      rw [← hL] at ow
      have hiL : i < L.length := by rw [hL]; simp [marksWays]; omega
      have hLl : L.length = l.length := by rw [hL]; simp [marksWays]; omega
      have hLi : L[i] = l[i] := by
        simp only [hL]
        rw [List.getElem_append_right (by simp; omega)]
        simp [marksWays, Nat.min_eq_left (Nat.le_of_lt hin)]
      obtain ⟨qb, bs, f, hib, rfl, hbl, hrow, hR, q1, q2, q3, q4, upd'⟩ := OwnS.update okWay ow hiL
      rw [hLi] at hR
      obtain ⟨hd, tc, oc, cd⟩ := laws_markGiveCellS h' bs[i] l[i] f K0 cg.ok hR t1 (by omega)
      obtain ⟨K1, k1⟩ : ∃ K, K = K0 + 2 * (l[i].length : Int) := ⟨_, rfl⟩
      rw [← k1] at tc
      have hqlt := cg.ok.lt hrow
      have hrowd : hd.hp qb = some ⟨fCe.all bs, 1, true⟩ := by rw [cd.hp _ hqlt q2]; exact hrow
      have c1 := fCe.all_cell bs (i := i) (k := 0) hib (by decide)
      simp only [show fCe.sz = 1 from rfl, Nat.mul_one, Nat.add_zero] at c1
      replace c1 : (fCe.all bs)[i]? = some bs[i] := c1
      have hw := wrap1 (i := i) (by omega)
      have he2 : (Ce.sl (Sum.inr qb) 0 l.length .own).eltAt 1 i = some (.inr qb, i) := by simp [Ce.eltAt, hin]
      have hset : bs.set i bs[i] = bs := List.set_getElem_self hib
      have hown := upd' hd bs[i] (marksCell K0 l[i].length) (by rw [hset]; exact hrowd) oc (fun x hx hne hnf => cd.hp x (ow.lt okWay cg.ok hx) hnf)
      have hend : L.set i (marksCell K0 l[i].length) = (marksWays k l).take (i + 1) ++ l.drop (i + 1) := by
        rw [hL, ← take_drop_set _ _ hin (by rw [marksWays_length]; omega), marksWays_at _ _ _ _ hin, ← k0]
      have hK : K1 = k + cntWays (l.take (i + 1)) := by rw [cntWays_take _ hin]; omega
      have n1 := hR.noLoc
      have hrow' : h'.hp qb = some ⟨fCe.all bs, 1, true⟩ := hrow
      rw [hend] at hown
      simp [claws_markGiveWayS_L0, h0, h1, h5, Ce.slen, hLl, hin, he2, elaws_markGiveWayS_laws_markGiveCellS, hrow', c1, n1, tc, hw]
      rw [hLl] at hown
      exact ⟨hK, cg.trans cd (fun _ h => h) (fun x hx => q3 x hx), hown⟩
    · rintro ⟨T, ⟨h', lc⟩⟩ ⟨h0, h1, h5, cg, ow⟩
      simp only at h0 h1 h5 cg ow
      have e1 : (marksWays k l).take l.length = marksWays k l := by
        apply List.take_of_length_le
        rw [marksWays_length]; omega
      rw [e1, List.drop_length, List.append_nil] at ow
      rw [List.take_length] at h1
      simp [claws_markGiveWayS_L0, h0, h1, h5, hcs]
      exact ⟨ow, cg⟩)
  exact ⟨h', h1, h2, h3⟩

section
variable {S : Nat → Prop} {h : Heap} {c : WishC} {w : Wish}
theorem RdWish.e0 (hr : RdWish S h c w) : c.ces[0]? = some (.str w.name) := by rw [← hr.name]; rfl
theorem RdWish.e1 (hr : RdWish S h c w) : c.ces[1]? = some (.int .i64 w.quick) := by rw [← hr.quick]; rfl
theorem RdWish.e2 (hr : RdWish S h c w) : c.ces[2]? = some (.int .i64 w.slow) := by rw [← hr.slow]; rfl
theorem RdWish.e3 (hr : RdWish S h c w) : c.ces[3]? = some (.int .i64 w.from_) := by rw [← hr.from_]; rfl
theorem RdWish.e4 (hr : RdWish S h c w) : c.ces[4]? = some (.int .i64 w.by_) := by rw [← hr.by_]; rfl
theorem RdWish.e5 (hr : RdWish S h c w) : c.ces[5]? = some (.int .i64 w.late) := by rw [← hr.late]; rfl
theorem WishC.e6 (c : WishC) : c.ces[6]? = some c.w := rfl
theorem WishC.e7 (c : WishC) : c.ces[7]? = some c.l := rfl
end

theorem laws_szGiveWish {S : Nat → Prop} (h : Heap) (c : WishC) (w : Wish) (k : Int) (hr : RdWish S h c w) (hw : SzS w.name) (hk : 0 ≤ k ∧ k ≤ 1048576) :
    ∃ r, Flaws_szGiveWish [.v (.agg c.ces), .v (.c (.int .i64 k))] h = some (.v (.c (.int .i64 r)), h) ∧ Left k r ∧ (0 ≤ r → SmallWish w) := by
  unfold Flaws_szGiveWish
  have e0 := hr.e0
  have e6 := c.e6
  have e7 := c.e7
  obtain ⟨ws, hh, hlen, hel⟩ := hr.ws
  have hls := hr.ls
  have x0 := sub_left (n := w.name.size) hk hw
  by_cases b0 : k - (w.name.size : Int) < 0
  · refine ⟨-1, runF_eq ?_, .inl rfl, by omega⟩
    simp [claws_szGiveWish, e0, x0, b0]
  obtain ⟨r1, s1, l1, m1⟩ := laws_szGiveWayS h c.w w.ways ws (k - w.name.size) hh hlen hel (by omega)
  rcases l1 with rfl | l1
  · refine ⟨-1, runF_eq ?_, .inl rfl, by omega⟩
    simp [claws_szGiveWish, e0, e6, x0, b0, hh.noLoc, elaws_szGiveWish_laws_szGiveWayS, s1]
  have n1 : ¬ r1 < 0 := by omega
  have s2 := laws_szIntS h c.l w.levels r1 hls (by omega)
  by_cases b2 : r1 < w.levels.length
  · rw [if_pos b2] at s2
    refine ⟨-1, runF_eq ?_, .inl rfl, by omega⟩
    simp [claws_szGiveWish, e0, e6, e7, x0, b0, n1, hh.noLoc, hls.noLoc, elaws_szGiveWish_laws_szGiveWayS, elaws_szGiveWish_laws_szIntS, s1, s2]
  rw [if_neg b2] at s2
  have n2 : ¬ r1 - (w.levels.length : Int) < 0 := by omega
  refine ⟨r1 - w.levels.length, runF_eq ?_, .inr (by omega), fun q => ⟨(m1 l1.1).1, (m1 l1.1).2, by omega⟩⟩
  simp [claws_szGiveWish, e0, e6, e7, x0, b0, n1, n2, hh.noLoc, hls.noLoc, elaws_szGiveWish_laws_szGiveWayS, elaws_szGiveWish_laws_szIntS, s1, s2]

theorem toWish' {S : Nat → Prop} (h : Heap) (c : WishC) (w : Wish) (ho : HOk h) (hr : RdWish S h c w) (sm : SmallWish w) :
    ∃ (c' : WishC) (h' : Heap) (fp : List Nat), Flaws_toGiveWish [.v (.agg c.ces)] h = some (.v (.agg c'.ces), h') ∧ New (fun h fp => OwnWish h c' w fp) h h' fp := by
  unfold Flaws_toGiveWish
  have e0 := hr.e0
  have e1 := hr.e1
  have e2 := hr.e2
  have e3 := hr.e3
  have e4 := hr.e4
  have e5 := hr.e5
  have e6 := c.e6
  have e7 := c.e7
  obtain ⟨ws, hh, hlen, hel⟩ := hr.ws
  have hls := hr.ls
  obtain ⟨c1, h1, f1, t1, o1, fr1, ge1⟩ := laws_toGiveWayS h c.w w.ways ws ho hh hlen hel sm.ws sm.c
  obtain ⟨c2, h2, f2, t2, m2⟩ := toInts' h1 c.l w.levels fr1.ok (hls.keep ho fr1) sm.l
  have o1' := o1.chg okWay fr1.ok (Fr.chg (fp := []) m2.fr) (by simp)
  refine ⟨⟨w.name, w.quick, w.slow, w.from_, w.by_, w.late, c1, c2⟩, h2, f1 ++ f2, runF_eq ?_, ⟨⟨rfl, rfl, rfl, rfl, rfl, rfl, f1, f2, o1', m2.own, rfl, ?_⟩, fr1.trans m2.fr, fun x hx => ?_⟩⟩
  · simp [claws_toGiveWish, e0, e1, e2, e3, e4, e5, e6, e7, hh.noLoc, hls.noLoc, m2.own.noLoc, o1.noLoc, elaws_toGiveWish_laws_toGiveWayS, elaws_toGiveWish_laws_toIntS, t1, t2]
    rfl
  · rw [List.nodup_append]
    refine ⟨o1.nodup, m2.own.nodup, fun x hx y hy => ?_⟩
    have q1 := o1.lt okWay fr1.ok hx
    have q2 := m2.ge y hy
    omega
  · rw [List.mem_append] at hx
    rcases hx with hx | hx
    · exact ge1 x hx
    · exact Nat.le_trans fr1.nx (m2.ge x hx)

theorem laws_eqGiveWish {S S' : Nat → Prop} (h : Heap) (c c' : WishC) (w w' : Wish) (hr : RdWish S h c w) (hr' : RdWish S' h c' w') :
    ∃ r, Flaws_eqGiveWish [.v (.agg c.ces), .v (.agg c'.ces)] h = some (.v (.c (.bool r)), h) ∧ (r = true ↔ w = w') := by
  unfold Flaws_eqGiveWish
  have e0 := hr.e0
  have e1 := hr.e1
  have e2 := hr.e2
  have e3 := hr.e3
  have e4 := hr.e4
  have e5 := hr.e5
  have e6 := c.e6
  have e7 := c.e7
  have d0 := hr'.e0
  have d1 := hr'.e1
  have d2 := hr'.e2
  have d3 := hr'.e3
  have d4 := hr'.e4
  have d5 := hr'.e5
  have d6 := c'.e6
  have d7 := c'.e7
  obtain ⟨ws, hh, hlen, hel⟩ := hr.ws
  have hls := hr.ls
  obtain ⟨ws', hh', hlen', hel'⟩ := hr'.ws
  have hls' := hr'.ls
  obtain ⟨r1, x1, i1⟩ := laws_eqGiveWayS h c.w c'.w _ _ _ _ hh hlen hel hh' hlen' hel'
  obtain ⟨r2, x2, i2⟩ := laws_eqIntS h c.l c'.l _ _ hls hls'
  have hiff : (decide (w.name = w'.name) && (decide (w.quick = w'.quick) && (decide (w.slow = w'.slow) && (decide (w.from_ = w'.from_) && (decide (w.by_ = w'.by_) && (decide (w.late = w'.late) && (r1 && r2))))))) = true ↔ w = w' := by
    cases w; cases w'
    simp [i1, i2]
  refine ⟨_, runF_eq ?_, hiff⟩
  have nl1 := hh.noLoc
  have nl2 := hh'.noLoc
  have nl3 := hls.noLoc
  have nl4 := hls'.noLoc
  have F : ∀ (P : Prop) [Decidable P], ¬ P → decide P = false := fun P _ h => by simp [h]
  by_cases b0 : w.name = w'.name
  rotate_left
  · simp [claws_eqGiveWish, e0, d0, bytes_beq, b0]
  by_cases b1 : w.quick = w'.quick
  rotate_left
  · simp [claws_eqGiveWish, e0, d0, e1, d1, bytes_beq, b0, b1]
  by_cases b2 : w.slow = w'.slow
  rotate_left
  · simp [claws_eqGiveWish, e0, d0, e1, d1, e2, d2, bytes_beq, b0, b1, b2]
  by_cases b3 : w.from_ = w'.from_
  rotate_left
  · simp [claws_eqGiveWish, e0, d0, e1, d1, e2, d2, e3, d3, bytes_beq, b0, b1, b2, b3]
  by_cases b4 : w.by_ = w'.by_
  rotate_left
  · simp [claws_eqGiveWish, e0, d0, e1, d1, e2, d2, e3, d3, e4, d4, bytes_beq, b0, b1, b2, b3, b4]
  by_cases b5 : w.late = w'.late
  rotate_left
  · simp [claws_eqGiveWish, e0, d0, e1, d1, e2, d2, e3, d3, e4, d4, e5, d5, bytes_beq, b0, b1, b2, b3, b4, b5]
  cases r1 <;> cases r2 <;> simp [claws_eqGiveWish, e0, d0, e1, d1, e2, d2, e3, d3, e4, d4, e5, d5, e6, d6, e7, d7, nl1, nl2, nl3, nl4, elaws_eqGiveWish_laws_eqGiveWayS, elaws_eqGiveWish_laws_eqIntS, x1, x2, bytes_beq, b0, b1, b2, b3, b4, b5]

def marksWish (k : Int) (w : Wish) : Wish := { w with ways := marksWays k w.ways, levels := marksInt (k + cntWays w.ways) w.levels.length }
def cntWish (w : Wish) : Int := cntWays w.ways + (w.levels.length : Int)
theorem cntWish_le {w : Wish} (sm : SmallWish w) : 0 ≤ cntWish w ∧ cntWish w ≤ 1099511627776 * 16 := by
  have h1 := cntWays_le w.ways sm.c
  have h2 := sm.ws
  have h3 := sm.l
  unfold cntWish
  omega
theorem laws_markGiveWish (h : Heap) (c : WishC) (w : Wish) (fp : List Nat) (k : Int) (ho : HOk h) (hc : OwnWish h c w fp) (sm : SmallWish w) (hk : 0 ≤ k ∧ k ≤ 1125899906842624) :
    ∃ h', Flaws_markGiveWish [.v (.agg c.ces), .v (.c (.int .i64 k))] h = some (.v (.c (.int .i64 (k + cntWish w))), h') ∧ OwnWish h' c (marksWish k w) fp ∧ Chg fp h h' := by
  unfold Flaws_markGiveWish
  obtain ⟨a0, a1, a2, a3, a4, a5, f1, f2, o1, o2, rfl, nd⟩ := hc
  have nd' := List.nodup_append.1 nd
  have hcw := cntWays_le w.ways sm.c
  have hws := sm.ws
  obtain ⟨h1, t1, p1, c1⟩ := laws_markGiveWayS h c.w w.ways f1 k ho o1 sm.ws sm.c (by omega)
  have o2' := o2.chg ho c1 (fun x hx hx' => nd'.2.2 x hx' x hx rfl)
  obtain ⟨h2, t2, p2, c2⟩ := laws_markIntS h1 c.l w.levels f2 (k + cntWays w.ways) c1.ok o2' sm.l (by omega)
  have p1' := p1.chg okWay c1.ok c2 (fun x hx hx' => nd'.2.2 x hx x hx' rfl)
  have e6 := c.e6
  have e7 := c.e7
  refine ⟨h2, runF_eq ?_, ⟨a0, a1, a2, a3, a4, a5, f1, f2, p1', p2, rfl, nd⟩, c1.trans c2 (fun x hx => by simp [hx]) (fun x hx => by simp [hx])⟩
  simp [claws_markGiveWish, e6, e7, o1.noLoc, o2.noLoc, elaws_markGiveWish_laws_markGiveWayS, elaws_markGiveWish_laws_markIntS, t1, t2]
  unfold cntWish
  omega
end Go.Abs

/-
  The tube of a wish.
-/

namespace Go.Abs
set_option linter.unusedSimpArgs false
set_option linter.unusedVariables false
attribute [local simp] AW_skip AW_exit AW_ret AW_seq AW_block AW_cond CW_ite AW_reg AW_regD AW_regDc RD_nil RD_cons keyEq hasP hasH hasL chkL chkH recK recH inRange lightKey BookC.len BookC.take WishC.len WishC.take RW_nil RW_cons RW_guard GW_t GW_f GW_gt GW_gf GW_tup GY_some GY_tt GY_ff gd_t gd_f pk_t pk_f pk_and pk_or pk_andc pk_orc pk_bool gd_gd SW_some ThenQ_normal ThenQ_exit ThenQ_ret BlockQ_normal BlockQ_exit BlockQ_ret kill_nil kill_cons killT_at killL_at upo_some upo_none ev_t ev_k FinQ_ret FinQ_normal upd_eq upd_ne argsT_zero argsT_succ aop.eq_1 aop_pick aop.eq_3 aop.eq_4 aop.eq_5 aop.eq_6 aop.eq_7 aop.eq_8 aop.eq_9 aop.eq_10 aop.eq_11 aop.eq_12 aop.eq_13 aop.eq_14 aop.eq_15 aop.eq_16 aop.eq_17 aop.eq_18 aop.eq_19 aop.eq_20 aop.eq_21 aop_slice_hi aop_slice_lo aop.eq_23 aop.eq_24 aop.eq_26 aop.eq_27 aop.eq_28 aop.eq_29 aop.eq_31 aop.eq_32 aop_maxs2 aop_mins2 aop_mins3 aop_len aop_iaddr Av.bool? Av.ptr? Av.int? Av.int64? Av.str? Av.agg? ressA resA resOf noLoc_int noLoc_bool noLoc_str noLoc_nils noLoc_nilp noLoc_ptrl noLoc_ptrr noLoc_sll noLoc_slr noLoc_fn noLoc_tc noLoc_tagg noLoc_av noLoc_atup ce_c tv_v cells_c cells_agg noLocs keyLoc evs callA St.set St.get unAv binCe killV_int killV_bool killV_str killV_nils killV_nilp killV_agg killV_no killV_tup killV_ptrl killV_ptrr killV_sll killV_slr killV_fn killV_noLoc fillA repl ptrs List.map
attribute [local congr] GY_congr

def lvl (v i n : Int) : Int := min v (min i (n - 1 - i))
def tubeAt (w : Wish) (cs : List Cell) (v s : Int) (i : Nat) : Box :=
  ⟨(cs.getD i default).x, (cs.getD i default).y, min (lvl v (if 0 < (i : Int) then (i : Int) - 1 else i) cs.length) (lvl v i cs.length), max (lvl v (if 0 < (i : Int) then (i : Int) - 1 else i) cs.length) (lvl v i cs.length), w.from_ + s + i * w.quick, w.by_ + s + (i + 1) * w.slow - 1⟩
def smallB (w : Wish) (s : Int) : Bool := inB w.quick 1 50 && inB w.slow 1 50 && inB w.from_ 0 10000 && inB w.by_ 0 10000 && inB s 0 300
def tubeArgs (w : Wish) (k j s : Int) : Bool := inB k 0 ((w.ways.length : Int) - 1) && inB j 0 ((w.levels.length : Int) - 1) && smallB w s
def tubeOfB (w : Wish) (k j s : Int) : List Box :=
  if tubeArgs w k j s then (List.range (min (w.ways.getD k.toNat default).length 40)).map (tubeAt w (w.ways.getD k.toNat default) (w.levels.getD j.toNat 0) s) else []
theorem tubeOfB_len (w : Wish) (k j s : Int) : (tubeOfB w k j s).length ≤ 40 := by
  unfold tubeOfB
  split
  · rw [List.length_map, List.length_range]; omega
  · simp

theorem spec_l4Min (h : Heap) (x y : Int) : Fspec_l4Min [.v (.c (.int .i64 x)), .v (.c (.int .i64 y))] h = some (.v (.c (.int .i64 (min x y))), h) := by
  unfold Fspec_l4Min
  refine runF_eq ?_
  by_cases hxy : x < y
  · have : min x y = x := by omega
    simp [cspec_l4Min, hxy, this]
  · have : min x y = y := by omega
    simp [cspec_l4Min, hxy, this]
theorem spec_l4Max (h : Heap) (x y : Int) : Fspec_l4Max [.v (.c (.int .i64 x)), .v (.c (.int .i64 y))] h = some (.v (.c (.int .i64 (max x y))), h) := by
  unfold Fspec_l4Max
  refine runF_eq ?_
  by_cases hxy : y < x
  · have : max x y = x := by omega
    simp [cspec_l4Max, hxy, this]
  · have : max x y = y := by omega
    simp [cspec_l4Max, hxy, this]
theorem spec_l4Level (h : Heap) (i n v : Int) (hi : 0 ≤ i) (hn : i ≤ n) (hn' : n ≤ 9223372036854775807) : Fspec_l4Level [.v (.c (.int .i64 i)), .v (.c (.int .i64 n)), .v (.c (.int .i64 v))] h = some (.v (.c (.int .i64 (lvl v i n))), h) := by
  unfold Fspec_l4Level lvl
  refine runF_eq ?_
  have w1 : IntKind.i64.wrap (n - 1) = n - 1 := wrap_i64 (by omega) (by omega)
  have w2 : IntKind.i64.wrap (n - 1 - i) = n - 1 - i := wrap_i64 (by omega) (by omega)
  simp [cspec_l4Level, espec_l4Level_spec_l4Min, spec_l4Min, w1, w2]
theorem spec_l4Small {S : Nat → Prop} (h : Heap) (c : WishC) (w : Wish) (s : Int) (hr : RdWish S h c w) : Fspec_l4Small [.v (.agg c.ces), .v (.c (.int .i64 s))] h = some (.v (.c (.bool (smallB w s))), h) := by
  unfold Fspec_l4Small smallB
  have e1 := hr.e1
  have e2 := hr.e2
  have e3 := hr.e3
  have e4 := hr.e4
  refine runF_eq ?_
  simp +contextual [cspec_l4Small, e1, e2, e3, e4, espec_l4Small_spec_l1In, spec_l1In, Bool.and_assoc]

theorem inB_nat {k : Int} {n : Nat} (h : inB k 0 ((n : Int) - 1) = true) : ∃ a : Nat, k = a ∧ a < n := by
  simp only [inB, Bool.and_eq_true, decide_eq_true_eq] at h
  exact ⟨k.toNat, by omega, by omega⟩
theorem small_bounds {w : Wish} {s : Int} (h : smallB w s = true) : (1 ≤ w.quick ∧ w.quick ≤ 50) ∧ (1 ≤ w.slow ∧ w.slow ≤ 50) ∧ (0 ≤ w.from_ ∧ w.from_ ≤ 10000) ∧ (0 ≤ w.by_ ∧ w.by_ ≤ 10000) ∧ 0 ≤ s ∧ s ≤ 300 := by
  simp only [smallB, inB, Bool.and_eq_true, decide_eq_true_eq] at h
  exact ⟨h.1.1.1.1, h.1.1.1.2, h.1.1.2, h.1.2, h.2⟩
theorem mul_bound {i q : Int} (h1 : 0 ≤ i) (h2 : i ≤ 41) (h3 : 0 ≤ q) (h4 : q ≤ 50) : 0 ≤ i * q ∧ i * q ≤ 2050 := by
  refine ⟨Int.mul_nonneg h1 h3, ?_⟩
  have := Int.mul_le_mul h2 h4 h3 (by omega)
  omega
theorem range_succ_map {α : Type} (f : Nat → α) (i : Nat) : (List.range (i + 1)).map f = (List.range i).map f ++ [f i] := by
  rw [List.range_succ, List.map_append]; rfl

set_option maxHeartbeats 4000000 in
theorem spec_GiveTubeOf {S : Nat → Prop} (h : Heap) (c : WishC) (w : Wish) (k j s : Int) (ho : HOk h) (hr : RdWish S h c w) :
    ∃ c' h' fp, Fspec_GiveTubeOf [.v (.agg c.ces), .v (.c (.int .i64 k)), .v (.c (.int .i64 j)), .v (.c (.int .i64 s))] h = some (.v (.c c'), h') ∧ NewF fBox h h' c' (tubeOfB w k j s) fp := by
  unfold Fspec_GiveTubeOf
  have f0 := Fr.push ho ⟨[], 6, true⟩
  have hr1 := hr.keep ho f0
  have sm := fun x => spec_l4Small (h.push ⟨[], 6, true⟩) c w x hr1
  have e1 := hr.e1
  have e2 := hr.e2
  have e3 := hr.e3
  have e4 := hr.e4
  have e6 := c.e6
  have e7 := c.e7
  obtain ⟨ws, hh0, hlen, hel0⟩ := hr.ws
  have hls0 := hr.ls
  have hh := hh0.keep ho f0
  have hls := hls0.keep ho f0
  have hl1 := hh.le
  have hl2 := hls.le
  have x1 : IntKind.i64.wrap ((w.ways.length : Int) - 1) = (w.ways.length : Int) - 1 := wrap_i64 (by omega) (by omega)
  have x2 : IntKind.i64.wrap ((w.levels.length : Int) - 1) = (w.levels.length : Int) - 1 := wrap_i64 (by omega) (by omega)
  have sl1 := hh.slen
  rw [hlen] at sl1
  have n0 : NewF fBox h (h.push ⟨[], 6, true⟩) (.sl (.inr h.nx) 0 0 .own) [] [h.nx] := NewF.push ho [] 0 rfl
  have bad : tubeArgs w k j s = false → AW espec_GiveTubeOf cspec_GiveTubeOf (FinQ [.t 8] fun v h' => ∃ c' fp, v = .v (.c c') ∧ NewF fBox h h' c' (tubeOfB w k j s) fp) (argsT [.v (.agg c.ces), .v (.c (.int .i64 k)), .v (.c (.int .i64 j)), .v (.c (.int .i64 s))], ⟨h, nol⟩) := by
    intro hb
    rw [show tubeOfB w k j s = [] by simp [tubeOfB, hb]]
    cases k1 : inB k 0 ((w.ways.length : Int) - 1)
    · simp [cspec_GiveTubeOf, St.push, e6, sl1, hh.noLoc, x1, k1, espec_GiveTubeOf_spec_l1In, spec_l1In]
      exact ⟨_, n0⟩
    cases k2 : inB j 0 ((w.levels.length : Int) - 1)
    · simp [cspec_GiveTubeOf, St.push, e6, e7, sl1, hls.slen, hh.noLoc, hls.noLoc, x1, x2, k1, k2, espec_GiveTubeOf_spec_l1In, spec_l1In]
      exact ⟨_, n0⟩
    have k3 : smallB w s = false := by simpa [tubeArgs, k1, k2] using hb
    have y := sm s
    rw [k3] at y
    simp [cspec_GiveTubeOf, St.push, e6, e7, sl1, hls.slen, hh.noLoc, hls.noLoc, x1, x2, k1, k2, k3, espec_GiveTubeOf_spec_l1In, spec_l1In, espec_GiveTubeOf_spec_l4Small, y]
    exact ⟨_, n0⟩
  cases hb : tubeArgs w k j s
  · obtain ⟨v, h', h1, c', fp, rfl, h2⟩ := runF_of (bad hb)
    exact ⟨c', h', fp, h1, h2⟩
  have hb' := hb
  simp only [tubeArgs, Bool.and_eq_true] at hb'
  obtain ⟨⟨k1, k2⟩, k3⟩ := hb'
  have y := sm s
  rw [k3] at y
  obtain ⟨kn, rfl, hkn⟩ := inB_nat k1
  obtain ⟨jn, rfl, hjn⟩ := inB_nat k2
  obtain ⟨bq, bs, bf, bb, bt⟩ := small_bounds k3
  have hkw : kn < ws.length := by omega
  have hri0 := hel0 kn hkw hkn
  obtain ⟨cs, hcs⟩ : ∃ cs, cs = w.ways[kn] := ⟨_, rfl⟩
  rw [← hcs] at hri0
  obtain ⟨wc, hwc⟩ : ∃ wc, wc = ws[kn] := ⟨_, rfl⟩
  rw [← hwc] at hri0
  have hri := hri0.keep ho f0
  have hrl := hri.le
  obtain ⟨vb, vp, vr, v1, _, v2, v3, v5⟩ := hls.int1 hjn
  obtain ⟨V, hV⟩ : ∃ V, V = w.levels[jn] := ⟨_, rfl⟩
  rw [← hV] at v5
  obtain ⟨ub, up, ur, u1, _, u2, u3, u5, u4⟩ := hh.ce1 hkw
  rw [← hwc] at u5 u4
  have hval : tubeOfB w kn jn s = (List.range (min cs.length 40)).map (tubeAt w cs V s) := by
    simp [tubeOfB, hb, hcs, hV, hkn, hjn]
  rw [hval]
  obtain ⟨v, h', h1, c', fp, rfl, h2⟩ := runF_of (env := espec_GiveTubeOf) (code := cspec_GiveTubeOf) (rs := [.t 8]) (args := [.v (.agg c.ces), .v (.c (.int .i64 kn)), .v (.c (.int .i64 jn)), .v (.c (.int .i64 s))]) (h := h) (K := fun v h' => ∃ c' fp, v = .v (.c c') ∧ NewF fBox h h' c' ((List.range (min cs.length 40)).map (tubeAt w cs V s)) fp) (by
    simp [cspec_GiveTubeOf, St.push, e6, e7, sl1, hls.slen, hh.noLoc, hls.noLoc, x1, x2, k1, k2, k3, espec_GiveTubeOf_spec_l1In, spec_l1In, espec_GiveTubeOf_spec_l4Small, y, u1, u2, u3, u5, hri.noLoc, hri.slen]
    refine AW_each (min cs.length 40) (fun i x => x.1 2 = .v (.c (.int .i64 jn)) ∧ x.1 3 = .v (.c (.int .i64 s)) ∧ x.1 4 = .v (.c (.ptr (.inl 4) 0)) ∧ x.1 10 = .v (.c wc) ∧ x.1 11 = .v (.c (.int .i64 cs.length)) ∧ x.1 12 = .v (.c (.int .i64 i)) ∧ x.2.lc 4 = some ⟨c.ces, 8, true⟩ ∧ ∃ c9 fp, x.1 9 = .v (.c c9) ∧ NewF fBox h x.2.h c9 ((List.range i).map (tubeAt w cs V s)) fp) ?_ ?_ ?_
    · simp [hri.noLoc]
      exact ⟨_, n0⟩
    · rintro i ⟨T, ⟨H, lc⟩⟩ hin ⟨t2, t3, t4, t10, t11, t12, l4, c9, fp, t9, nw⟩
      simp only at t2 t3 t4 t9 t10 t11 t12 l4 nw
      have hin' : i < cs.length := by omega
      obtain ⟨vb, vp, vr, v1, _, v2, v3, v5⟩ := (hls0.keep ho nw.fr).int1 hjn
      rw [← hV] at v5
      obtain ⟨eb, ep, er, g1, _, g2, g3, g4, g5, g6⟩ := (hri0.keep ho nw.fr).cell hin'
      have hlt : (List.map (tubeAt w cs V s) (List.range i)).length + 1 ≤ lim := by rw [List.length_map, List.length_range]; simp only [lim]; omega
      obtain ⟨c'', h'', fp'', nw', _, _, _, hap⟩ := nw.append1 (tubeAt w cs V s i) hlt
      rw [← range_succ_map] at nw'
      have hwr := wrap1 (i := i) (by omega)
      have hin2 : (i : Int) < cs.length := by omega
      have hin3 : (i : Int) < 40 := by omega
      have hi0 : 0 ≤ (i : Int) := by omega
      have hnl : (cs.length : Int) ≤ 9223372036854775807 := by omega
      have hcast : ((i + 1 : Nat) : Int) = (i : Int) + 1 := rfl
      rw [hcast] at hwr
      have hB : fBox.ces (tubeAt w cs V s i) = [.int .i64 cs[i].x, .int .i64 cs[i].y, .int .i64 (min (lvl V (if 0 < (i : Int) then (i : Int) - 1 else i) cs.length) (lvl V i cs.length)), .int .i64 (max (lvl V (if 0 < (i : Int) then (i : Int) - 1 else i) cs.length) (lvl V i cs.length)), .int .i64 (w.from_ + s + i * w.quick), .int .i64 (w.by_ + s + (i + 1) * w.slow - 1)] := by
        simp [fBox, tubeAt, hin']
      rw [hB] at hap
      simp only [show fBox.sz = 6 from rfl] at hap
      obtain ⟨I, hI⟩ : ∃ I : Int, I = i := ⟨_, rfl⟩
      rw [← hI] at t12 g1 hwr hin2 hin3 hi0 hap
      have b1 := mul_bound hi0 (by omega) (show 0 ≤ w.quick by omega) bq.2
      have b2 := mul_bound (show 0 ≤ I + 1 by omega) (by omega) (show 0 ≤ w.slow by omega) bs.2
      obtain ⟨P, hP⟩ : ∃ P, P = I * w.quick := ⟨_, rfl⟩
      obtain ⟨Q, hQ⟩ : ∃ Q, Q = (I + 1) * w.slow := ⟨_, rfl⟩
      rw [← hP] at b1 hap
      rw [← hQ] at b2 hap
      have w0 : IntKind.i64.wrap (I - 1) = I - 1 := wrap_i64 (by omega) (by omega)
      have w1 : IntKind.i64.wrap (w.from_ + s) = w.from_ + s := wrap_i64 (by omega) (by omega)
      have w2 : IntKind.i64.wrap P = P := wrap_i64 (by omega) (by omega)
      have w3 : IntKind.i64.wrap (w.from_ + s + P) = w.from_ + s + P := wrap_i64 (by omega) (by omega)
      have w4 : IntKind.i64.wrap (w.by_ + s) = w.by_ + s := wrap_i64 (by omega) (by omega)
      have w6 : IntKind.i64.wrap Q = Q := wrap_i64 (by omega) (by omega)
      have w7 : IntKind.i64.wrap (w.by_ + s + Q) = w.by_ + s + Q := wrap_i64 (by omega) (by omega)
      have w8 : IntKind.i64.wrap (w.by_ + s + Q - 1) = w.by_ + s + Q - 1 := wrap_i64 (by omega) (by omega)
      have y1 := fun H' => spec_l4Level H' I cs.length V hi0 (by omega) hnl
      have hfin : I + 1 = (i : Int) + 1 := by omega
      have hfl := nw.own.noLoc
      have hfl' := nw'.own.noLoc
      have nl := hri0.noLoc
      by_cases hz : 0 < I
      · rw [if_pos hz] at hap
        have y2 := fun H' => spec_l4Level H' (I - 1) cs.length V (by omega) (by omega) hnl
        simp [cspec_GiveTubeOf_L0, t2, t3, t4, t9, t10, t11, t12, l4, e1, e2, e3, e4, e7, hin2, hin3, hz, v1, v2, v3, v5, g1, g2, g3, g5, g6, hls0.noLoc, nl, hfl, hfl', espec_GiveTubeOf_spec_l4Level, espec_GiveTubeOf_spec_l4Min, espec_GiveTubeOf_spec_l4Max, spec_l4Min, spec_l4Max, y1, y2, w0, w1, ← hP, ← hQ, w2, w3, w4, w6, w7, w8, hwr, hap]
        exact ⟨hI, fp'', nw'⟩
      · rw [if_neg hz] at hap
        simp [cspec_GiveTubeOf_L0, t2, t3, t4, t9, t10, t11, t12, l4, e1, e2, e3, e4, e7, hin2, hin3, hz, v1, v2, v3, v5, g1, g2, g3, g5, g6, hls0.noLoc, nl, hfl, hfl', espec_GiveTubeOf_spec_l4Level, espec_GiveTubeOf_spec_l4Min, espec_GiveTubeOf_spec_l4Max, spec_l4Min, spec_l4Max, y1, w0, w1, ← hP, ← hQ, w2, w3, w4, w6, w7, w8, hwr, hap]
        exact ⟨hI, fp'', nw'⟩
    · rintro ⟨T, ⟨H, lc⟩⟩ ⟨t2, t3, t4, t10, t11, t12, l4, c9, fp, t9, nw⟩
      simp only at t2 t3 t4 t9 t10 t11 t12 l4 nw
      by_cases hq : cs.length ≤ 40
      · have hm : min cs.length 40 = cs.length := by omega
        rw [hm] at t12 nw
        simp [cspec_GiveTubeOf_L0, t9, t11, t12, nw.own.noLoc]
        rw [hm]
        exact ⟨fp, nw⟩
      · have hm : min cs.length 40 = 40 := by omega
        rw [hm] at t12 nw
        simp [cspec_GiveTubeOf_L0, t9, t11, t12, nw.own.noLoc, show 40 < cs.length by omega, show (40 : Int) < cs.length by omega, hm]
        exact ⟨fp, nw⟩)
  exact ⟨c', h', fp, h1, h2⟩
end Go.Abs

/-
  A wish is in order.
-/

namespace Go.Abs
set_option linter.unusedSimpArgs false
set_option linter.unusedVariables false
attribute [local simp] AW_skip AW_exit AW_ret AW_seq AW_block AW_cond CW_ite AW_reg AW_regD AW_regDc RD_nil RD_cons keyEq hasP hasH hasL chkL chkH recK recH inRange lightKey BookC.len BookC.take WishC.len WishC.take RW_nil RW_cons RW_guard GW_t GW_f GW_gt GW_gf GW_tup GY_some GY_tt GY_ff gd_t gd_f pk_t pk_f pk_and pk_or pk_andc pk_orc pk_bool gd_gd SW_some ThenQ_normal ThenQ_exit ThenQ_ret BlockQ_normal BlockQ_exit BlockQ_ret kill_nil kill_cons killT_at killL_at upo_some upo_none ev_t ev_k FinQ_ret FinQ_normal upd_eq upd_ne argsT_zero argsT_succ aop.eq_1 aop_pick aop.eq_3 aop.eq_4 aop.eq_5 aop.eq_6 aop.eq_7 aop.eq_8 aop.eq_9 aop.eq_10 aop.eq_11 aop.eq_12 aop.eq_13 aop.eq_14 aop.eq_15 aop.eq_16 aop.eq_17 aop.eq_18 aop.eq_19 aop.eq_20 aop.eq_21 aop_slice_hi aop_slice_lo aop.eq_23 aop.eq_24 aop.eq_26 aop.eq_27 aop.eq_28 aop.eq_29 aop.eq_31 aop.eq_32 aop_maxs2 aop_mins2 aop_mins3 aop_len aop_iaddr Av.bool? Av.ptr? Av.int? Av.int64? Av.str? Av.agg? ressA resA resOf noLoc_int noLoc_bool noLoc_str noLoc_nils noLoc_nilp noLoc_ptrl noLoc_ptrr noLoc_sll noLoc_slr noLoc_fn noLoc_tc noLoc_tagg noLoc_av noLoc_atup ce_c tv_v cells_c cells_agg noLocs keyLoc evs callA St.set St.get unAv binCe killV_int killV_bool killV_str killV_nils killV_nilp killV_agg killV_no killV_tup killV_ptrl killV_ptrr killV_sll killV_slr killV_fn killV_noLoc fillA repl ptrs List.map
attribute [local congr] GY_congr

def okC (c : Cell) : Bool := inB c.x 0 15 && inB c.y 0 15
def stepC (p c : Cell) : Bool := inB (wrap64 (c.x - p.x)) (-1) 1 && inB (wrap64 (c.y - p.y)) (-1) 1 && !(eqCell c p)
def wayStep (t : List Cell) (i : Nat) : Bool := okC (t.getD i default) && (i == 0 || stepC (t.getD (i - 1) default) (t.getD i default))
def wayOkB (fs : List Fld) (t : List Cell) : Bool := decide (2 ≤ t.length) && decide (t.length ≤ 40) && allN t.length (wayStep t) && isFieldB fs (t.getD 0 default).x (t.getD 0 default).y && isFieldB fs (t.getD (t.length - 1) default).x (t.getD (t.length - 1) default).y
theorem eqCes_cell (a b : Cell) : eqCes [0, 0] [.int .i64 a.x, .int .i64 a.y] [.int .i64 b.x, .int .i64 b.y] = some (eqCell a b) := by
  by_cases h1 : a.x = b.x <;> by_cases h2 : a.y = b.y <;> simp [eqCes, eqCell, h1, h2]
theorem inB_len2 {n : Nat} : inB (n : Int) 2 40 = (decide (2 ≤ n) && decide (n ≤ 40)) := by
  unfold inB
  congr 1 <;> (rw [Bool.eq_iff_iff]; simp; try omega)

theorem spec_l4Field {S : Nat → Prop} (h : Heap) (c : Ce) (l : List Fld) (b : Cell) (hc : RdF fField S h c l) :
    Fspec_l4Field [.v (.c c), .v (.agg [.int .i64 b.x, .int .i64 b.y])] h = some (.v (.c (.bool (isFieldB l b.x b.y))), h) := by
  unfold Fspec_l4Field
  have hl := hc.le
  refine runF_eq ?_
  simp [cspec_l4Field, hc.noLoc]
  refine AW_for1 l.length (fun i => (l.getD i default).x == b.x && (l.getD i default).y == b.y) (fun i x => x.1 0 = .v (.c c) ∧ x.1 3 = .v (.c (.ptr (.inl 3) 0)) ∧ x.2.lc 3 = some ⟨[.int .i64 b.x, .int .i64 b.y], 2, true⟩ ∧ x.1 5 = .v (.c (.int .i64 i)) ∧ x.2.h = h) (by simp [hc.noLoc]) ?_ ?_
  · rintro i ⟨T, ⟨h', lc⟩⟩ hin _ ⟨h0, h3, hl3, h5, hs⟩
    simp only at h0 h3 hl3 h5 hs
    subst hs
    obtain ⟨eb, ep, er, e1, _, e2, e3, e4, e5, e6, e7⟩ := hc.field hin
    have hw := wrap1 (i := i) (by omega)
    have fin : l[i].x = b.x → l[i].y = b.y → isFieldB l b.x b.y = true := fun k1 k2 => any_of hin (by simp [k1, k2])
    simp +contextual [cspec_l4Field_L0, h0, h3, hl3, h5, hc.slen, hc.noLoc, hin, e1, e2, e3, e5, e6, e7, hw, fin]
  · rintro ⟨T, ⟨h', lc⟩⟩ hno ⟨h0, h3, hl3, h5, hs⟩
    simp only at h0 h3 hl3 h5 hs
    subst hs
    have : isFieldB l b.x b.y = false := any_no (fun j hj => by simpa [hj] using hno j hj)
    simp [cspec_l4Field_L0, h0, h5, hc.slen, this]

set_option maxHeartbeats 4000000 in
theorem spec_l4WayOk {S S' : Nat → Prop} (h : Heap) (cf c : Ce) (fs : List Fld) (l : List Cell) (hf : RdF fField S h cf fs) (hc : RdF fCell S' h c l) :
    Fspec_l4WayOk [.v (.c cf), .v (.agg [c])] h = some (.v (.c (.bool (wayOkB fs l))), h) := by
  unfold Fspec_l4WayOk
  have hl := hc.le
  have C := fun b => spec_l4Field h cf fs b hf
  refine runF_eq ?_
  by_cases h1 : 2 ≤ l.length ∧ l.length ≤ 40
  rotate_left
  · have e0 : inB (l.length : Int) 2 40 = false := by
      rw [inB_len2]
      by_cases k : 2 ≤ l.length
      · simp [show ¬ l.length ≤ 40 by omega]
      · simp [k]
    have e1 : wayOkB fs l = false := by
      rw [inB_len2] at e0
      simp [wayOkB, e0]
    simp [cspec_l4WayOk, hc.slen, hc.noLoc, hf.noLoc, espec_l4WayOk_spec_l1In, spec_l1In, e0, e1]
  have e0 : inB (l.length : Int) 2 40 = true := by rw [inB_len2]; simp [h1]
  simp [cspec_l4WayOk, hc.slen, hc.noLoc, hf.noLoc, espec_l4WayOk_spec_l1In, spec_l1In, e0]
  refine AW_for1 l.length (fun i => !wayStep l i) (fun i x => x.1 0 = .v (.c cf) ∧ x.1 3 = .v (.c (.ptr (.inl 3) 0)) ∧ x.1 5 = .v (.c (.int .i64 l.length)) ∧ x.1 6 = .v (.c (.int .i64 i)) ∧ x.2.lc 3 = some ⟨[c], 1, true⟩ ∧ x.2.h = h) (by simp [hf.noLoc]) ?_ ?_
  · rintro i ⟨T, ⟨h', lc⟩⟩ hin _ ⟨h0, h3, h5, h6, hl3, hs⟩
    simp only at h0 h3 h5 h6 hl3 hs
    subst hs
    obtain ⟨eb, ep, er, e1, _, e2, e3, e4, e5, e6⟩ := hc.cell hin
    have hw := wrap1 (i := i) (by omega)
    have fin : wayStep l i = false → wayOkB fs l = false := fun k => by simp [wayOkB, allN_no hin k]
    rcases i with _ | k
    · simp only [wayStep] at fin ⊢
      simp at e1 hw
      simp [hin] at fin
      cases k1 : inB l[0].x 0 15 <;> cases k2 : inB l[0].y 0 15 <;> simp [okC, k1, k2] at fin <;>
        simp [cspec_l4WayOk_L0, okC, h0, h3, h5, h6, hl3, hc.noLoc, hf.noLoc, hin, e1, e2, e3, e4, espec_l4WayOk_spec_l1In, spec_l1In, hw, k1, k2, fin]
    · obtain ⟨gb, gp, gr, g1, _, g2, g3, g4, g5, g6⟩ := hc.cell (show k < l.length by omega)
      have hk0 := wrap_nat (n := k) (by omega)
      have hkl : k < l.length := by omega
      simp only [wayStep] at fin ⊢
      simp at e1 hw
      simp [hin, hkl] at fin
      have hin' : (k : Int) + 1 < l.length := by omega
      cases k1 : inB l[k + 1].x 0 15
      · simp [okC, k1] at fin
        simp [cspec_l4WayOk_L0, okC, h0, h3, h5, h6, hl3, hc.noLoc, hf.noLoc, hin, hin', e1, e2, e3, e4, espec_l4WayOk_spec_l1In, spec_l1In, hw, k1, fin]
      cases k2 : inB l[k + 1].y 0 15
      · simp [okC, k1, k2] at fin
        simp [cspec_l4WayOk_L0, okC, h0, h3, h5, h6, hl3, hc.noLoc, hf.noLoc, hin, hin', e1, e2, e3, e4, espec_l4WayOk_spec_l1In, spec_l1In, hw, k1, k2, fin]
      cases k3 : inB (IntKind.i64.wrap (l[k + 1].x - l[k].x)) (-1) 1 <;> cases k4 : inB (IntKind.i64.wrap (l[k + 1].y - l[k].y)) (-1) 1 <;> cases k5 : eqCell l[k + 1] l[k] <;> simp [okC, stepC, wrap64, k1, k2, k3, k4, k5] at fin <;>
        simp [cspec_l4WayOk_L0, okC, stepC, wrap64, h0, h3, h5, h6, hl3, hc.noLoc, hf.noLoc, hin, hin', hkl, e1, e2, e3, e4, e5, e6, g1, g2, g3, g4, g5, g6, hk0, espec_l4WayOk_spec_l1In, spec_l1In, hw, k1, k2, k3, k4, k5, fin, eqCes_cell]
  · rintro ⟨T, ⟨h', lc⟩⟩ hno ⟨h0, h3, h5, h6, hl3, hs⟩
    simp only at h0 h3 h5 h6 hl3 hs
    subst hs
    obtain ⟨k, hk⟩ : ∃ k, l.length = k + 1 := ⟨l.length - 1, by omega⟩
    have hkl : k < l.length := by omega
    have h0l : 0 < l.length := by omega
    obtain ⟨eb, ep, er, e1, _, e2, e3, e4, _⟩ := hc.cell hkl
    obtain ⟨gb, gp, gr, g1, _, g2, g3, g4, _⟩ := hc.cell h0l
    have hk0 := wrap_nat (n := k) (by omega)
    have fin : wayOkB fs l = (isFieldB fs l[0].x l[0].y && isFieldB fs l[k].x l[k].y) := by
      have : allN l.length (wayStep l) = true := allN_of fun j hj => by simpa using hno j hj
      have e : l.getD (l.length - 1) default = l[k] := by simp [hk, hkl]
      have e' : l.getD 0 default = l[0] := by simp [h0l]
      unfold wayOkB
      rw [this, e, e']
      simp [h1]
    simp at g1
    cases b1 : isFieldB fs l[0].x l[0].y <;> simp [cspec_l4WayOk_L0, h0, h3, h5, h6, hl3, hc.slen, hc.noLoc, hf.noLoc, hk, e1, e2, e3, e4, g1, g2, g3, g4, espec_l4WayOk_spec_l4Field, C, hk0, fin, b1]

set_option maxHeartbeats 4000000 in
theorem impl_wayOk {S S' : Nat → Prop} (h : Heap) (cf c : Ce) (fs : List Fld) (l : List Cell) (hf : RdF fField S h cf fs) (hc : RdF fCell S' h c l) :
    Fimpl_wayOk [.v (.c cf), .v (.agg [c])] h = some (.v (.c (.bool (wayOkB fs l))), h) := by
  unfold Fimpl_wayOk
  have hl := hc.le
  have C := fun x y => impl_isField h cf fs x y hf
  refine runF_eq ?_
  by_cases h1 : 2 ≤ l.length ∧ l.length ≤ 40
  rotate_left
  · have e0 : inB (l.length : Int) 2 40 = false := by
      rw [inB_len2]
      by_cases k : 2 ≤ l.length
      · simp [show ¬ l.length ≤ 40 by omega]
      · simp [k]
    have e1 : wayOkB fs l = false := by
      rw [inB_len2] at e0
      simp [wayOkB, e0]
    simp [cimpl_wayOk, hc.slen, hc.noLoc, hf.noLoc, eimpl_wayOk_impl_in, impl_in, e0, e1]
  have e0 : inB (l.length : Int) 2 40 = true := by rw [inB_len2]; simp [h1]
  simp [cimpl_wayOk, hc.slen, hc.noLoc, hf.noLoc, eimpl_wayOk_impl_in, impl_in, e0]
  refine AW_for1 l.length (fun i => !wayStep l i) (fun i x => x.1 0 = .v (.c cf) ∧ x.1 3 = .v (.c (.ptr (.inl 3) 0)) ∧ x.1 16 = .v (.c c) ∧ x.1 17 = .v (.c (.int .i64 l.length)) ∧ x.1 18 = .v (.c (.int .i64 i)) ∧ x.2.lc 3 = some ⟨[c], 1, true⟩ ∧ x.2.h = h) (by simp [hf.noLoc, hc.noLoc]) ?_ ?_
  · rintro i ⟨T, ⟨h', lc⟩⟩ hin _ ⟨h0, h3, h16, h17, h18, hl3, hs⟩
    simp only at h0 h3 h16 h17 h18 hl3 hs
    subst hs
    obtain ⟨eb, ep, er, e1, _, e2, e3, e4, e5, e6⟩ := hc.cell hin
    have hw := wrap1 (i := i) (by omega)
    have fin : wayStep l i = false → wayOkB fs l = false := fun k => by simp [wayOkB, allN_no hin k]
    rcases i with _ | k
    · simp only [wayStep] at fin ⊢
      simp at e1 hw
      simp [hin] at fin
      cases k1 : inB l[0].x 0 15 <;> cases k2 : inB l[0].y 0 15 <;> simp [okC, k1, k2] at fin <;>
        simp [cimpl_wayOk_L0, okC, h0, h3, h16, h17, h18, hl3, hc.noLoc, hf.noLoc, hin, e1, e2, e3, e4, eimpl_wayOk_impl_in, impl_in, hw, k1, k2, fin]
    · obtain ⟨gb, gp, gr, g1, _, g2, g3, g4, g5, g6⟩ := hc.cell (show k < l.length by omega)
      have hk0 := wrap_nat (n := k) (by omega)
      have hkl : k < l.length := by omega
      simp only [wayStep] at fin ⊢
      simp at e1 hw
      simp [hin, hkl] at fin
      have hin' : (k : Int) + 1 < l.length := by omega
      cases k1 : inB l[k + 1].x 0 15
      · simp [okC, k1] at fin
        simp [cimpl_wayOk_L0, okC, h0, h3, h16, h17, h18, hl3, hc.noLoc, hf.noLoc, hin, hin', e1, e2, e3, e4, eimpl_wayOk_impl_in, impl_in, hw, k1, fin]
      cases k2 : inB l[k + 1].y 0 15
      · simp [okC, k1, k2] at fin
        simp [cimpl_wayOk_L0, okC, h0, h3, h16, h17, h18, hl3, hc.noLoc, hf.noLoc, hin, hin', e1, e2, e3, e4, eimpl_wayOk_impl_in, impl_in, hw, k1, k2, fin]
      have q := eqCell_iff l[k + 1] l[k]
      have hq : eqCes [0, 0] [.int .i64 l[k].x, .int .i64 l[k].y] [.int .i64 l[k + 1].x, .int .i64 l[k + 1].y] = some (eqCell l[k + 1] l[k]) := by
        rw [eqCes_cell, show eqCell l[k] l[k + 1] = eqCell l[k + 1] l[k] by rw [Bool.eq_iff_iff, eqCell_iff, eqCell_iff]; exact eq_comm]
      cases k3 : inB (IntKind.i64.wrap (l[k + 1].x - l[k].x)) (-1) 1 <;> cases k4 : inB (IntKind.i64.wrap (l[k + 1].y - l[k].y)) (-1) 1 <;> cases k5 : eqCell l[k + 1] l[k] <;> rw [k5] at hq <;> simp [okC, stepC, wrap64, k1, k2, k3, k4, k5] at fin <;>
        simp [cimpl_wayOk_L0, okC, stepC, wrap64, h0, h3, h16, h17, h18, hl3, hc.noLoc, hf.noLoc, hin, hin', hkl, e1, e2, e3, e4, e5, e6, g1, g2, g3, g4, g5, g6, hk0, eimpl_wayOk_impl_in, impl_in, hw, k1, k2, k3, k4, k5, fin, hq]
  · rintro ⟨T, ⟨h', lc⟩⟩ hno ⟨h0, h3, h16, h17, h18, hl3, hs⟩
    simp only at h0 h3 h16 h17 h18 hl3 hs
    subst hs
    obtain ⟨k, hk⟩ : ∃ k, l.length = k + 1 := ⟨l.length - 1, by omega⟩
    have hkl : k < l.length := by omega
    have h0l : 0 < l.length := by omega
    obtain ⟨eb, ep, er, e1, _, e2, e3, e4, e5, e6⟩ := hc.cell hkl
    obtain ⟨gb, gp, gr, g1, _, g2, g3, g4, g5, g6⟩ := hc.cell h0l
    have hk0 := wrap_nat (n := k) (by omega)
    have fin : wayOkB fs l = (isFieldB fs l[0].x l[0].y && isFieldB fs l[k].x l[k].y) := by
      have : allN l.length (wayStep l) = true := allN_of fun j hj => by simpa using hno j hj
      have e : l.getD (l.length - 1) default = l[k] := by simp [hk, hkl]
      have e' : l.getD 0 default = l[0] := by simp [h0l]
      unfold wayOkB
      rw [this, e, e']
      simp [h1]
    simp at g1
    cases b1 : isFieldB fs l[0].x l[0].y <;> simp [cimpl_wayOk_L0, h0, h3, h16, h17, h18, hl3, hc.slen, hc.noLoc, hf.noLoc, hk, e1, e2, e3, e4, g1, g2, g3, g4, eimpl_wayOk_impl_isField, C, hk0, fin, b1]
end Go.Abs

/-
  A wish is in order, whole.
-/

namespace Go.Abs
set_option linter.unusedSimpArgs false
set_option linter.unusedVariables false
attribute [local simp] AW_skip AW_exit AW_ret AW_seq AW_block AW_cond CW_ite AW_reg AW_regD AW_regDc RD_nil RD_cons keyEq hasP hasH hasL chkL chkH recK recH inRange lightKey BookC.len BookC.take WishC.len WishC.take RW_nil RW_cons RW_guard GW_t GW_f GW_gt GW_gf GW_tup GY_some GY_tt GY_ff gd_t gd_f pk_t pk_f pk_and pk_or pk_andc pk_orc pk_bool gd_gd SW_some ThenQ_normal ThenQ_exit ThenQ_ret BlockQ_normal BlockQ_exit BlockQ_ret kill_nil kill_cons killT_at killL_at upo_some upo_none ev_t ev_k FinQ_ret FinQ_normal upd_eq upd_ne argsT_zero argsT_succ aop.eq_1 aop_pick aop.eq_3 aop.eq_4 aop.eq_5 aop.eq_6 aop.eq_7 aop.eq_8 aop.eq_9 aop.eq_10 aop.eq_11 aop.eq_12 aop.eq_13 aop.eq_14 aop.eq_15 aop.eq_16 aop.eq_17 aop.eq_18 aop.eq_19 aop.eq_20 aop.eq_21 aop_slice_hi aop_slice_lo aop.eq_23 aop.eq_24 aop.eq_26 aop.eq_27 aop.eq_28 aop.eq_29 aop.eq_31 aop.eq_32 aop_maxs2 aop_mins2 aop_mins3 aop_len aop_iaddr Av.bool? Av.ptr? Av.int? Av.int64? Av.str? Av.agg? ressA resA resOf noLoc_int noLoc_bool noLoc_str noLoc_nils noLoc_nilp noLoc_ptrl noLoc_ptrr noLoc_sll noLoc_slr noLoc_fn noLoc_tc noLoc_tagg noLoc_av noLoc_atup ce_c tv_v cells_c cells_agg noLocs keyLoc evs callA St.set St.get unAv binCe killV_int killV_bool killV_str killV_nils killV_nilp killV_agg killV_no killV_tup killV_ptrl killV_ptrr killV_sll killV_slr killV_fn killV_noLoc fillA repl ptrs List.map
attribute [local congr] GY_congr

def wishHead (fs : List Fld) (w : Wish) : Bool := fieldsOkB fs && nameOkB w.name && inB w.quick 1 w.slow && decide (w.slow ≤ 50) && inB w.from_ 0 w.by_ && decide (w.by_ ≤ 10000) && inB w.late 0 300 && inB (w.ways.length : Int) 1 3 && inB (w.levels.length : Int) 1 6
def wishOkB (fs : List Fld) (w : Wish) : Bool := wishHead fs w && w.ways.all (wayOkB fs) && w.levels.all (fun n => inB n 1 6)
theorem inB_t {n lo hi : Int} (h1 : lo ≤ n) (h2 : n ≤ hi) : inB n lo hi = true := by simp [inB, h1, h2]

set_option maxHeartbeats 4000000 in
theorem spec_GiveWishOk {S S' : Nat → Prop} (h : Heap) (cf : Ce) (fs : List Fld) (c : WishC) (w : Wish) (hf : RdF fField S h cf fs) (hwf : FieldsWf fs) (hr : RdWish S' h c w) (hw : SzS w.name) :
    Fspec_GiveWishOk [.v (.c cf), .v (.agg c.ces)] h = some (.v (.c (.bool (wishOkB fs w))), h) := by
  unfold Fspec_GiveWishOk
  have e0 := hr.e0
  have e1 := hr.e1
  have e2 := hr.e2
  have e3 := hr.e3
  have e4 := hr.e4
  have e5 := hr.e5
  have e6 := c.e6
  have e7 := c.e7
  obtain ⟨ws, hh, hlen, hel⟩ := hr.ws
  have hls := hr.ls
  have hfl := hf.noLoc
  have nl1 := hh.noLoc
  have nl2 := hls.noLoc
  have sl1 := hh.slen
  have sl2 := hls.slen
  have x1 := spec_l2FieldsOk h cf fs hf hwf
  have x2 := spec_l1NameOk h w.name hw
  have hl1 := hh.le
  have hl2 := hls.le
  refine runF_eq ?_
  cases c1 : fieldsOkB fs
  · rw [c1] at x1
    simp [cspec_GiveWishOk, hfl, espec_GiveWishOk_spec_l2FieldsOk, espec_GiveWishOk_spec_l1NameOk, espec_GiveWishOk_spec_l1In, spec_l1In, e0, e1, e2, e3, e4, e5, e6, e7, nl1, nl2, sl1, sl2, hlen, x1, x2, c1, wishOkB, wishHead]
  rw [c1] at x1
  cases c2 : nameOkB w.name
  · rw [c2] at x2
    simp [cspec_GiveWishOk, hfl, espec_GiveWishOk_spec_l2FieldsOk, espec_GiveWishOk_spec_l1NameOk, espec_GiveWishOk_spec_l1In, spec_l1In, e0, e1, e2, e3, e4, e5, e6, e7, nl1, nl2, sl1, sl2, hlen, x1, x2, c1, c2, wishOkB, wishHead]
  rw [c2] at x2
  cases c3 : inB w.quick 1 w.slow
  · simp [cspec_GiveWishOk, hfl, espec_GiveWishOk_spec_l2FieldsOk, espec_GiveWishOk_spec_l1NameOk, espec_GiveWishOk_spec_l1In, spec_l1In, e0, e1, e2, e3, e4, e5, e6, e7, nl1, nl2, sl1, sl2, hlen, x1, x2, c1, c2, c3, wishOkB, wishHead]
  by_cases c5 : 50 < w.slow
  · have c5' : ¬ w.slow ≤ 50 := by omega
    simp [cspec_GiveWishOk, hfl, espec_GiveWishOk_spec_l2FieldsOk, espec_GiveWishOk_spec_l1NameOk, espec_GiveWishOk_spec_l1In, spec_l1In, e0, e1, e2, e3, e4, e5, e6, e7, nl1, nl2, sl1, sl2, hlen, x1, x2, c1, c2, c3, c5, c5', wishOkB, wishHead]
  have c5' : w.slow ≤ 50 := by omega
  cases c6 : inB w.from_ 0 w.by_
  · simp [cspec_GiveWishOk, hfl, espec_GiveWishOk_spec_l2FieldsOk, espec_GiveWishOk_spec_l1NameOk, espec_GiveWishOk_spec_l1In, spec_l1In, e0, e1, e2, e3, e4, e5, e6, e7, nl1, nl2, sl1, sl2, hlen, x1, x2, c1, c2, c3, c5, c6, wishOkB, wishHead]
  by_cases c8 : 10000 < w.by_
  · have c8' : ¬ w.by_ ≤ 10000 := by omega
    simp [cspec_GiveWishOk, hfl, espec_GiveWishOk_spec_l2FieldsOk, espec_GiveWishOk_spec_l1NameOk, espec_GiveWishOk_spec_l1In, spec_l1In, e0, e1, e2, e3, e4, e5, e6, e7, nl1, nl2, sl1, sl2, hlen, x1, x2, c1, c2, c3, c5, c6, c8, c8', wishOkB, wishHead]
  have c8' : w.by_ ≤ 10000 := by omega
  cases c9 : inB w.late 0 300
  · simp [cspec_GiveWishOk, hfl, espec_GiveWishOk_spec_l2FieldsOk, espec_GiveWishOk_spec_l1NameOk, espec_GiveWishOk_spec_l1In, spec_l1In, e0, e1, e2, e3, e4, e5, e6, e7, nl1, nl2, sl1, sl2, hlen, x1, x2, c1, c2, c3, c5, c6, c8, c9, wishOkB, wishHead]
  cases c10 : inB (w.ways.length : Int) 1 3
  · simp [cspec_GiveWishOk, hfl, espec_GiveWishOk_spec_l2FieldsOk, espec_GiveWishOk_spec_l1NameOk, espec_GiveWishOk_spec_l1In, spec_l1In, e0, e1, e2, e3, e4, e5, e6, e7, nl1, nl2, sl1, sl2, hlen, x1, x2, c1, c2, c3, c5, c6, c8, c9, c10, wishOkB, wishHead]
  cases c11 : inB (w.levels.length : Int) 1 6
  · simp [cspec_GiveWishOk, hfl, espec_GiveWishOk_spec_l2FieldsOk, espec_GiveWishOk_spec_l1NameOk, espec_GiveWishOk_spec_l1In, spec_l1In, e0, e1, e2, e3, e4, e5, e6, e7, nl1, nl2, sl1, sl2, hlen, x1, x2, c1, c2, c3, c5, c6, c8, c9, c10, c11, wishOkB, wishHead]
  have hhd : wishHead fs w = true := by simp [wishHead, c1, c2, c3, c5', c6, c8', c9, c10, c11]
  simp [cspec_GiveWishOk, hfl, espec_GiveWishOk_spec_l2FieldsOk, espec_GiveWishOk_spec_l1NameOk, espec_GiveWishOk_spec_l1In, spec_l1In, e0, e1, e2, e3, e4, e5, e6, e7, nl1, nl2, sl1, sl2, hlen, x1, x2, c1, c2, c3, c5, c6, c8, c9, c10, c11]
  refine AW_for1 ws.length (fun i => !wayOkB fs (w.ways.getD i default)) (fun i x => x.1 0 = .v (.c cf) ∧ x.1 3 = .v (.c (.ptr (.inl 3) 0)) ∧ x.1 5 = .v (.c (.int .i64 i)) ∧ x.2.lc 3 = some ⟨c.ces, 8, true⟩ ∧ x.2.h = h) (by simp [hlen, hfl, nl1]) ?_ ?_
  · rintro i ⟨T, ⟨h', lc⟩⟩ hin _ ⟨h0, h3, h5, hl3, hs⟩
    simp only at h0 h3 h5 hl3 hs
    subst hs
    obtain ⟨eb, ep, er, g1, _, g2, g3, g5, g4⟩ := hh.ce1 hin
    have hin' : i < w.ways.length := by omega
    have hwr := wrap1 (i := i) (by omega)
    have hri := hel i hin hin'
    have y := spec_l4WayOk h' cf ws[i] fs _ hf hri
    have fin : wayOkB fs w.ways[i] = false → wishOkB fs w = false := fun k => by
      have : w.ways.all (wayOkB fs) = false := all_no hin' k
      simp [wishOkB, this]
    cases d1 : wayOkB fs w.ways[i] <;> rw [d1] at y <;> simp [d1] at fin <;>
      simp [cspec_GiveWishOk_L0, h0, h3, h5, hl3, e6, nl1, sl1, hfl, hri.noLoc, hin, hin', g1, g2, g3, g4, g5, espec_GiveWishOk_spec_l4WayOk, y, hwr, d1, fin, hlen]
  · rintro ⟨T, ⟨h', lc⟩⟩ hno ⟨h0, h3, h5, hl3, hs⟩
    simp only at h0 h3 h5 hl3 hs
    subst hs
    have hall : w.ways.all (wayOkB fs) = true := all_of fun j hj => by
      have := hno j (by omega)
      simpa [hj] using this
    simp [cspec_GiveWishOk_L0, h0, h3, h5, hl3, e6, e7, nl1, nl2, sl1, sl2, hlen]
    refine AW_for1 w.levels.length (fun i => !inB (w.levels.getD i 0) 1 6) (fun i x => x.1 3 = .v (.c (.ptr (.inl 3) 0)) ∧ x.1 6 = .v (.c (.int .i64 i)) ∧ x.2.lc 3 = some ⟨c.ces, 8, true⟩ ∧ x.2.h = h') (by simp [h0, h3, h5, hl3, nl2]) ?_ ?_
    · rintro i ⟨T', ⟨h'', lc'⟩⟩ hin _ ⟨g3, g6, gl3, hs⟩
      simp only at g3 g6 gl3 hs
      subst hs
      obtain ⟨eb, ep, er, q1, _, q2, q3, q5⟩ := hls.int1 hin
      have hwr := wrap1 (i := i) (by omega)
      have fin : inB w.levels[i] 1 6 = false → wishOkB fs w = false := fun k => by
        have : w.levels.all (fun n => inB n 1 6) = false := all_no hin k
        simp [wishOkB, this]
      cases d1 : inB w.levels[i] 1 6 <;> simp [d1] at fin <;>
        simp [cspec_GiveWishOk_L1, g3, g6, gl3, e7, nl2, sl2, hin, q1, q2, q3, q5, espec_GiveWishOk_spec_l1In, spec_l1In, hwr, d1, fin]
    · rintro ⟨T', ⟨h'', lc'⟩⟩ hno ⟨g3, g6, gl3, hs⟩
      simp only at g3 g6 gl3 hs
      subst hs
      have hall2 : w.levels.all (fun n => inB n 1 6) = true := all_of fun j hj => by
        have := hno j hj
        simpa [hj] using this
      have : wishOkB fs w = true := by simp only [wishOkB, hhd, hall, hall2, Bool.and_self]
      simp [cspec_GiveWishOk_L1, g3, g6, gl3, e7, nl2, sl2, this]

set_option maxHeartbeats 4000000 in
theorem impl_GiveWishOk {S S' : Nat → Prop} (h : Heap) (cf : Ce) (fs : List Fld) (c : WishC) (w : Wish) (hf : RdF fField S h cf fs) (hwf : FieldsWf fs) (hr : RdWish S' h c w) (hw : SzS w.name) :
    Fimpl_GiveWishOk [.v (.c cf), .v (.agg c.ces)] h = some (.v (.c (.bool (wishOkB fs w))), h) := by
  unfold Fimpl_GiveWishOk
  have e0 := hr.e0
  have e1 := hr.e1
  have e2 := hr.e2
  have e3 := hr.e3
  have e4 := hr.e4
  have e5 := hr.e5
  have e6 := c.e6
  have e7 := c.e7
  obtain ⟨ws, hh, hlen, hel⟩ := hr.ws
  have hls := hr.ls
  have hfl := hf.noLoc
  have nl1 := hh.noLoc
  have nl2 := hls.noLoc
  have sl1 := hh.slen
  have sl2 := hls.slen
  have x1 := impl_fieldsOk h cf fs hf hwf
  have x2 := impl_name h w.name hw
  have hl1 := hh.le
  have hl2 := hls.le
  refine runF_eq ?_
  cases c1 : fieldsOkB fs
  · rw [c1] at x1
    simp [cimpl_GiveWishOk, hfl, eimpl_GiveWishOk_impl_fieldsOk, eimpl_GiveWishOk_impl_name, eimpl_GiveWishOk_impl_in, impl_in, e0, e1, e2, e3, e4, e5, e6, e7, nl1, nl2, sl1, sl2, hlen, x1, x2, c1, wishOkB, wishHead]
  rw [c1] at x1
  cases c2 : nameOkB w.name
  · rw [c2] at x2
    simp [cimpl_GiveWishOk, hfl, eimpl_GiveWishOk_impl_fieldsOk, eimpl_GiveWishOk_impl_name, eimpl_GiveWishOk_impl_in, impl_in, e0, e1, e2, e3, e4, e5, e6, e7, nl1, nl2, sl1, sl2, hlen, x1, x2, c1, c2, wishOkB, wishHead]
  rw [c2] at x2
  by_cases c3 : w.quick < 1
  · have c3' : ¬ 1 ≤ w.quick := by omega
    simp [cimpl_GiveWishOk, hfl, eimpl_GiveWishOk_impl_fieldsOk, eimpl_GiveWishOk_impl_name, eimpl_GiveWishOk_impl_in, impl_in, e0, e1, e2, e3, e4, e5, e6, e7, nl1, nl2, sl1, sl2, hlen, x1, x2, c1, c2, c3, c3', wishOkB, wishHead, inB]
  have c3' : 1 ≤ w.quick := by omega
  by_cases c4 : w.slow < w.quick
  · have c4' : ¬ w.quick ≤ w.slow := by omega
    simp [cimpl_GiveWishOk, hfl, eimpl_GiveWishOk_impl_fieldsOk, eimpl_GiveWishOk_impl_name, eimpl_GiveWishOk_impl_in, impl_in, e0, e1, e2, e3, e4, e5, e6, e7, nl1, nl2, sl1, sl2, hlen, x1, x2, c1, c2, c3, c4, c4', wishOkB, wishHead, inB]
  have c4' : w.quick ≤ w.slow := by omega
  by_cases c5 : 50 < w.slow
  · have c5' : ¬ w.slow ≤ 50 := by omega
    simp [cimpl_GiveWishOk, hfl, eimpl_GiveWishOk_impl_fieldsOk, eimpl_GiveWishOk_impl_name, eimpl_GiveWishOk_impl_in, impl_in, e0, e1, e2, e3, e4, e5, e6, e7, nl1, nl2, sl1, sl2, hlen, x1, x2, c1, c2, c3, c4, c5, c5', wishOkB, wishHead, inB]
  have c5' : w.slow ≤ 50 := by omega
  by_cases c6 : w.from_ < 0
  · have c6' : ¬ 0 ≤ w.from_ := by omega
    simp [cimpl_GiveWishOk, hfl, eimpl_GiveWishOk_impl_fieldsOk, eimpl_GiveWishOk_impl_name, eimpl_GiveWishOk_impl_in, impl_in, e0, e1, e2, e3, e4, e5, e6, e7, nl1, nl2, sl1, sl2, hlen, x1, x2, c1, c2, c3, c4, c5, c6, c6', wishOkB, wishHead, inB]
  have c6' : 0 ≤ w.from_ := by omega
  by_cases c7 : w.by_ < w.from_
  · have c7' : ¬ w.from_ ≤ w.by_ := by omega
    simp [cimpl_GiveWishOk, hfl, eimpl_GiveWishOk_impl_fieldsOk, eimpl_GiveWishOk_impl_name, eimpl_GiveWishOk_impl_in, impl_in, e0, e1, e2, e3, e4, e5, e6, e7, nl1, nl2, sl1, sl2, hlen, x1, x2, c1, c2, c3, c4, c5, c6, c7, c7', wishOkB, wishHead, inB]
  have c7' : w.from_ ≤ w.by_ := by omega
  by_cases c8 : 10000 < w.by_
  · have c8' : ¬ w.by_ ≤ 10000 := by omega
    simp [cimpl_GiveWishOk, hfl, eimpl_GiveWishOk_impl_fieldsOk, eimpl_GiveWishOk_impl_name, eimpl_GiveWishOk_impl_in, impl_in, e0, e1, e2, e3, e4, e5, e6, e7, nl1, nl2, sl1, sl2, hlen, x1, x2, c1, c2, c3, c4, c5, c6, c7, c8, c8', wishOkB, wishHead, inB]
  have c8' : w.by_ ≤ 10000 := by omega
  cases c9 : inB w.late 0 300
  · simp [cimpl_GiveWishOk, hfl, eimpl_GiveWishOk_impl_fieldsOk, eimpl_GiveWishOk_impl_name, eimpl_GiveWishOk_impl_in, impl_in, e0, e1, e2, e3, e4, e5, e6, e7, nl1, nl2, sl1, sl2, hlen, x1, x2, c1, c2, c3, c4, c5, c6, c7, c8, c9, wishOkB, wishHead]
  cases c10 : inB (w.ways.length : Int) 1 3
  · simp [cimpl_GiveWishOk, hfl, eimpl_GiveWishOk_impl_fieldsOk, eimpl_GiveWishOk_impl_name, eimpl_GiveWishOk_impl_in, impl_in, e0, e1, e2, e3, e4, e5, e6, e7, nl1, nl2, sl1, sl2, hlen, x1, x2, c1, c2, c3, c4, c5, c6, c7, c8, c9, c10, wishOkB, wishHead]
  cases c11 : inB (w.levels.length : Int) 1 6
  · simp [cimpl_GiveWishOk, hfl, eimpl_GiveWishOk_impl_fieldsOk, eimpl_GiveWishOk_impl_name, eimpl_GiveWishOk_impl_in, impl_in, e0, e1, e2, e3, e4, e5, e6, e7, nl1, nl2, sl1, sl2, hlen, x1, x2, c1, c2, c3, c4, c5, c6, c7, c8, c9, c10, c11, wishOkB, wishHead]
  have hhd : wishHead fs w = true := by simp [wishHead, c1, c2, c5', c8', c9, c10, c11, inB_t c3' c4', inB_t c6' c7']
  simp [cimpl_GiveWishOk, hfl, eimpl_GiveWishOk_impl_fieldsOk, eimpl_GiveWishOk_impl_name, eimpl_GiveWishOk_impl_in, impl_in, e0, e1, e2, e3, e4, e5, e6, e7, nl1, nl2, sl1, sl2, hlen, x1, x2, c1, c2, c3, c4, c5, c6, c7, c8, c9, c10, c11]
  refine AW_for1 ws.length (fun i => !wayOkB fs (w.ways.getD i default)) (fun i x => x.1 0 = .v (.c cf) ∧ x.1 3 = .v (.c (.ptr (.inl 3) 0)) ∧ x.1 73 = .v (.c c.w) ∧ x.1 74 = .v (.c (.int .i64 ws.length)) ∧ x.1 75 = .v (.c (.int .i64 i)) ∧ x.2.lc 3 = some ⟨c.ces, 8, true⟩ ∧ x.2.h = h) (by simp [hlen, hfl, nl1]) ?_ ?_
  · rintro i ⟨T, ⟨h', lc⟩⟩ hin _ ⟨h0, h3, h73, h74, h75, hl3, hs⟩
    simp only at h0 h3 h73 h74 h75 hl3 hs
    subst hs
    obtain ⟨eb, ep, er, g1, _, g2, g3, g5, g4⟩ := hh.ce1 hin
    have hin' : i < w.ways.length := by omega
    have hwr := wrap1 (i := i) (by omega)
    have hri := hel i hin hin'
    have y := impl_wayOk h' cf ws[i] fs _ hf hri
    have fin : wayOkB fs w.ways[i] = false → wishOkB fs w = false := fun k => by
      have : w.ways.all (wayOkB fs) = false := all_no hin' k
      simp [wishOkB, this]
    cases d1 : wayOkB fs w.ways[i] <;> rw [d1] at y <;> simp [d1] at fin <;>
      simp [cimpl_GiveWishOk_L0, h0, h3, h73, h74, h75, hl3, e6, nl1, sl1, hfl, hri.noLoc, hin, hin', g1, g2, g3, g4, g5, eimpl_GiveWishOk_impl_wayOk, y, hwr, d1, fin, hlen]
  · rintro ⟨T, ⟨h', lc⟩⟩ hno ⟨h0, h3, h73, h74, h75, hl3, hs⟩
    simp only at h0 h3 h73 h74 h75 hl3 hs
    subst hs
    have hall : w.ways.all (wayOkB fs) = true := all_of fun j hj => by
      have := hno j (by omega)
      simpa [hj] using this
    simp [cimpl_GiveWishOk_L0, h0, h3, h73, h74, h75, hl3, e6, e7, nl1, nl2, sl1, sl2, hlen]
    refine AW_for1 w.levels.length (fun i => !inB (w.levels.getD i 0) 1 6) (fun i x => x.1 85 = .v (.c c.l) ∧ x.1 86 = .v (.c (.int .i64 w.levels.length)) ∧ x.1 87 = .v (.c (.int .i64 i)) ∧ x.2.h = h') (by simp [h0, h3, h73, h74, h75, hl3, nl2]) ?_ ?_
    · rintro i ⟨T', ⟨h'', lc'⟩⟩ hin _ ⟨g85, g86, g87, hs⟩
      simp only at g85 g86 g87 hs
      subst hs
      obtain ⟨eb, ep, er, q1, _, q2, q3, q5⟩ := hls.int1 hin
      have hwr := wrap1 (i := i) (by omega)
      have fin : inB w.levels[i] 1 6 = false → wishOkB fs w = false := fun k => by
        have : w.levels.all (fun n => inB n 1 6) = false := all_no hin k
        simp [wishOkB, this]
      cases d1 : inB w.levels[i] 1 6 <;> simp [d1] at fin <;>
        simp [cimpl_GiveWishOk_L1, g85, g86, g87, e7, nl2, sl2, hin, q1, q2, q3, q5, eimpl_GiveWishOk_impl_in, impl_in, hwr, d1, fin]
    · rintro ⟨T', ⟨h'', lc'⟩⟩ hno ⟨g85, g86, g87, hs⟩
      simp only at g85 g86 g87 hs
      subst hs
      have hall2 : w.levels.all (fun n => inB n 1 6) = true := all_of fun j hj => by
        have := hno j hj
        simpa [hj] using this
      have : wishOkB fs w = true := by simp only [wishOkB, hhd, hall, hall2, Bool.and_self]
      simp [cimpl_GiveWishOk_L1, g85, g86, g87, e7, nl2, sl2, this]
end Go.Abs

/-
  The choices of a wish, as the specification lists them.
-/

namespace Go.Abs
set_option linter.unusedSimpArgs false
set_option linter.unusedVariables false
attribute [local simp] AW_skip AW_exit AW_ret AW_seq AW_block AW_cond CW_ite AW_reg AW_regD AW_regDc RD_nil RD_cons keyEq hasP hasH hasL chkL chkH recK recH inRange lightKey BookC.len BookC.take WishC.len WishC.take RW_nil RW_cons RW_guard GW_t GW_f GW_gt GW_gf GW_tup GY_some GY_tt GY_ff gd_t gd_f pk_t pk_f pk_and pk_or pk_andc pk_orc pk_bool gd_gd SW_some ThenQ_normal ThenQ_exit ThenQ_ret BlockQ_normal BlockQ_exit BlockQ_ret kill_nil kill_cons killT_at killL_at upo_some upo_none ev_t ev_k FinQ_ret FinQ_normal upd_eq upd_ne argsT_zero argsT_succ aop.eq_1 aop_pick aop.eq_3 aop.eq_4 aop.eq_5 aop.eq_6 aop.eq_7 aop.eq_8 aop.eq_9 aop.eq_10 aop.eq_11 aop.eq_12 aop.eq_13 aop.eq_14 aop.eq_15 aop.eq_16 aop.eq_17 aop.eq_18 aop.eq_19 aop.eq_20 aop.eq_21 aop_slice_hi aop_slice_lo aop.eq_23 aop.eq_24 aop.eq_26 aop.eq_27 aop.eq_28 aop.eq_29 aop.eq_31 aop.eq_32 aop_maxs2 aop_mins2 aop_mins3 aop_len aop_iaddr Av.bool? Av.ptr? Av.int? Av.int64? Av.str? Av.agg? ressA resA resOf noLoc_int noLoc_bool noLoc_str noLoc_nils noLoc_nilp noLoc_ptrl noLoc_ptrr noLoc_sll noLoc_slr noLoc_fn noLoc_tc noLoc_tagg noLoc_av noLoc_atup ce_c tv_v cells_c cells_agg noLocs keyLoc evs callA St.set St.get unAv binCe killV_int killV_bool killV_str killV_nils killV_nilp killV_agg killV_no killV_tup killV_ptrl killV_ptrr killV_sll killV_slr killV_fn killV_noLoc fillA repl ptrs List.map
attribute [local congr] GY_congr

def chB (b : Book) (w : Wish) (la wa le : Nat) : Bool :=
  tubeOkB b.fields (tubeOfB w wa le la) && fromB (tubeOfB w wa le la) b.now && freeB b w.name (tubeOfB w wa le la)
def chO (b : Book) (w : Wish) (la wa le : Nat) : Option Choice := if chB b w la wa le then some ⟨la, wa, le⟩ else none
def rowL (b : Book) (w : Wish) (la wa n : Nat) : List Choice := (List.range n).filterMap (chO b w la wa)
def wayL (b : Book) (w : Wish) (la n nl : Nat) : List Choice := (List.range n).flatMap fun wa => rowL b w la wa nl
def lateL (b : Book) (w : Wish) (n nw nl : Nat) : List Choice := (List.range n).flatMap fun la => wayL b w la nw nl
def choicesB (b : Book) (w : Wish) : List Choice :=
  if bookOkB b && wishOkB b.fields w then lateL b w (w.late.toNat + 1) w.ways.length w.levels.length else []
section
variable {b : Book} {w : Wish} {la wa le n m nl nw : Nat}
theorem rowL_succ : rowL b w la wa (n + 1) = rowL b w la wa n ++ (chO b w la wa n).toList := by
  simp only [rowL, List.range_succ, List.filterMap_append]
  cases h : chO b w la wa n <;> simp [h]
theorem wayL_succ : wayL b w la (n + 1) nl = wayL b w la n nl ++ rowL b w la n nl := by
  simp [wayL, List.range_succ]
theorem lateL_succ : lateL b w (n + 1) nw nl = lateL b w n nw nl ++ wayL b w n nw nl := by
  simp [lateL, List.range_succ]
theorem rowL_len : (rowL b w la wa n).length ≤ n := by
  have := List.length_filterMap_le (chO b w la wa) (List.range n)
  rw [List.length_range] at this
  exact this
theorem wayL_len : (wayL b w la n nl).length ≤ n * nl := by
  induction n with
  | zero => simp [wayL]
  | succ n ih =>
    rw [wayL_succ, List.length_append, Nat.succ_mul]
    have := rowL_len (b := b) (w := w) (la := la) (wa := n) (n := nl)
    omega
theorem lateL_len : (lateL b w n nw nl).length ≤ n * (nw * nl) := by
  induction n with
  | zero => simp [lateL]
  | succ n ih =>
    rw [lateL_succ, List.length_append, Nat.succ_mul]
    have := wayL_len (b := b) (w := w) (la := n) (n := nw) (nl := nl)
    omega
end

theorem spec_l5Can {S S' : Nat → Prop} (h : Heap) (cb : BookC) (b : Book) (cw : WishC) (w : Wish) (la wa le : Nat) (ho : HOk h) (hb : RdBook S h cb b) (hw : RdWish S' h cw w) :
    ∃ h', Fspec_l5Can [.v (.agg cb.ces), .v (.agg cw.ces), .v (.agg [.int .i64 la, .int .i64 wa, .int .i64 le])] h = some (.v (.c (.bool (chB b w la wa le))), h') ∧ Fr h h' := by
  unfold Fspec_l5Can
  obtain ⟨ct, H, fp, u1, nw⟩ := spec_GiveTubeOf h cw w wa le la ho hw
  have hb1 := hb.keep ho nw.fr
  have ll := tubeOfB_len w wa le la
  have rt := nw.own.rd (S := fun _ => True) (by omega) (fun _ _ => trivial)
  have u2 := spec_GiveTubeOk H _ _ _ _ hb1.f rt
  have u3 := spec_l2From H _ _ b.now rt
  have u4 := spec_l3Free H cb b w.name ct _ hb1 rt
  have e0 : cb.ces[0]? = some (.int .i64 b.now) := by rw [← hb.now]; rfl
  have e1 : cb.ces[1]? = some cb.f := rfl
  have d0 := hw.e0
  have fl := hb.f.noLoc
  refine ⟨H, runF_eq ?_, nw.fr⟩
  unfold chB
  simp +contextual [cspec_l5Can, espec_l5Can_spec_GiveTubeOf, espec_l5Can_spec_GiveTubeOk, espec_l5Can_spec_l2From, espec_l5Can_spec_l3Free, u1, u2, u3, u4, e0, e1, d0, fl, nw.own.noLoc]

/-- What stands in the slots while choices are listed. -/
def StC (h : Heap) (cb : BookC) (cw : WishC) (la wa : Nat) (l : List Choice) (x : X) : Prop :=
  x.1 2 = .v (.c (.ptr (.inl 2) 0)) ∧ x.1 3 = .v (.c (.ptr (.inl 3) 0)) ∧ x.1 6 = .v (.c (.int .i64 la)) ∧ x.1 7 = .v (.c (.int .i64 wa)) ∧ x.2.lc 2 = some ⟨cb.ces, 3, true⟩ ∧ x.2.lc 3 = some ⟨cw.ces, 8, true⟩ ∧ ∃ c5 fp, x.1 5 = .v (.c c5) ∧ NewF fChoice h x.2.h c5 l fp

theorem choices_L2 {S S' : Nat → Prop} {h : Heap} {cb : BookC} {b : Book} {cw : WishC} {w : Wish} {la wa : Nat} {pre : List Choice} (ho : HOk h) (hb : RdBook S h cb b) (hw : RdWish S' h cw w) (hp : pre.length ≤ 1000000) (hnl : w.levels.length ≤ 6) {x : X} (st : StC h cb cw la wa pre x) (t8 : x.1 8 = .v (.c (.int .i64 0))) :
    AW espec_GiveChoices (.loop cspec_GiveChoices_L2) (fun e y => e = .exit 4 ∧ StC h cb cw la wa (pre ++ rowL b w la wa w.levels.length) y) x := by
  have hls := hw.ls
  have e7 := cw.e7
  refine AW_each w.levels.length (fun i x => StC h cb cw la wa (pre ++ rowL b w la wa i) x ∧ x.1 8 = .v (.c (.int .i64 i))) ⟨by simpa [rowL] using st, t8⟩ ?_ ?_
  · rintro i ⟨T, ⟨H, lc⟩⟩ hin ⟨⟨t2, t3, t6, t7, l2, l3, c5, fp, t5, nw⟩, t8⟩
    simp only at t2 t3 t6 t7 t8 l2 l3 t5 nw
    have hwr := wrap1 (i := i) (by omega)
    obtain ⟨H1, u1, f1⟩ := spec_l5Can H cb b cw w la wa i nw.fr.ok (hb.keep ho nw.fr) (hw.keep ho nw.fr)
    have rl := rowL_len (b := b) (w := w) (la := la) (wa := wa) (n := i)
    have n1 : NewF fChoice h H1 c5 (pre ++ rowL b w la wa i) fp := ⟨nw.own.frame fun x hx => f1.hp x (nw.own.lt nw.fr.ok hx), nw.fr.trans f1, nw.ge⟩
    have sl := rowL_succ (b := b) (w := w) (la := la) (wa := wa) (n := i)
    cases hc : chB b w la wa i
    · rw [hc] at u1
      rw [show chO b w la wa i = none by simp [chO, hc]] at sl
      simp only [Option.toList, List.append_nil] at sl
      simp [StC, cspec_GiveChoices_L2, t2, t3, t5, t6, t7, t8, l2, l3, e7, hls.slen, hls.noLoc, hin, espec_GiveChoices_spec_l5Can, u1, hwr, nw.own.noLoc, sl]
      exact ⟨fp, n1⟩
    · rw [hc] at u1
      rw [show chO b w la wa i = some ⟨la, wa, i⟩ by simp [chO, hc]] at sl
      simp only [Option.toList] at sl
      obtain ⟨c'', h'', fp'', nw', _, _, _, hap⟩ := n1.append1 ⟨la, wa, i⟩ (by rw [List.length_append]; simp only [lim]; omega)
      simp only [fChoice] at hap
      rw [List.append_assoc, ← sl] at nw'
      simp [StC, cspec_GiveChoices_L2, t2, t3, t5, t6, t7, t8, l2, l3, e7, hls.slen, hls.noLoc, hin, espec_GiveChoices_spec_l5Can, u1, hwr, nw.own.noLoc, nw'.own.noLoc, hap]
      exact ⟨fp'', nw'⟩
  · rintro ⟨T, ⟨H, lc⟩⟩ ⟨⟨t2, t3, t6, t7, l2, l3, c5, fp, t5, nw⟩, t8⟩
    simp only at t2 t3 t6 t7 t8 l2 l3 t5 nw
    simp [StC, cspec_GiveChoices_L2, t2, t3, t5, t6, t7, t8, l2, l3, e7, hls.slen, hls.noLoc]
    exact ⟨fp, nw⟩

theorem choices_L1 {S S' : Nat → Prop} {h : Heap} {cb : BookC} {b : Book} {cw : WishC} {w : Wish} {la : Nat} {pre : List Choice} (ho : HOk h) (hb : RdBook S h cb b) (hw : RdWish S' h cw w) (hp : pre.length ≤ 900000) (hnl : w.levels.length ≤ 6) (hnw : w.ways.length ≤ 3) {x : X} (st : StC h cb cw la 0 pre x) :
    AW espec_GiveChoices (.loop cspec_GiveChoices_L1) (fun e y => e = .exit 2 ∧ ∃ wa, StC h cb cw la wa (pre ++ wayL b w la w.ways.length w.levels.length) y) x := by
  have e6 := cw.e6
  obtain ⟨ws, hh, hlen, hel⟩ := hw.ws
  have sl1 := hh.slen
  rw [hlen] at sl1
  refine AW_each w.ways.length (fun i x => StC h cb cw la i (pre ++ wayL b w la i w.levels.length) x) (by simpa [wayL] using st) ?_ ?_
  · rintro i ⟨T, ⟨H, lc⟩⟩ hin ⟨t2, t3, t6, t7, l2, l3, c5, fp, t5, nw⟩
    simp only at t2 t3 t6 t7 l2 l3 t5 nw
    have hwr := wrap1 (i := i) (by omega)
    have wl := wayL_len (b := b) (w := w) (la := la) (n := i) (nl := w.levels.length)
    have hm : i * w.levels.length ≤ 3 * 6 := Nat.mul_le_mul (by omega) hnl
    simp [cspec_GiveChoices_L1, t2, t3, t5, t6, t7, l2, l3, e6, sl1, hh.noLoc, hin]
    refine AW_mono (choices_L2 (la := la) (wa := i) (pre := pre ++ wayL b w la i w.levels.length) ho hb hw (by rw [List.length_append]; omega) hnl ?_ ?_) ?_
    · simp [StC, t2, t3, t5, t6, t7, l2, l3]
      exact ⟨fp, nw⟩
    · simp
    · rintro e ⟨T, ⟨H2, lc2⟩⟩ ⟨rfl, t2, t3, t6, t7, l2, l3, c5, fp, t5, nw⟩
      simp only at t2 t3 t6 t7 l2 l3 t5 nw
      simp [StC, t2, t3, t5, t6, t7, l2, l3, hwr]
      rw [wayL_succ, ← List.append_assoc]
      exact ⟨fp, nw⟩
  · rintro ⟨T, ⟨H, lc⟩⟩ ⟨t2, t3, t6, t7, l2, l3, c5, fp, t5, nw⟩
    simp only at t2 t3 t6 t7 l2 l3 t5 nw
    simp [StC, cspec_GiveChoices_L1, t2, t3, t5, t6, t7, l2, l3, e6, sl1, hh.noLoc]
    exact ⟨⟨_, rfl⟩, fp, nw⟩

/-- What a wish in order keeps to. -/
theorem wishOk_bounds {fs : List Fld} {w : Wish} (h : wishOkB fs w = true) : 0 ≤ w.late ∧ w.late ≤ 300 ∧ w.ways.length ≤ 3 ∧ w.levels.length ≤ 6 := by
  simp only [wishOkB, wishHead, inB, Bool.and_eq_true, decide_eq_true_eq] at h
  have h1 := h.1.1
  refine ⟨h1.1.1.2.1, h1.1.1.2.2, ?_, ?_⟩
  · have := h1.1.2.2; omega
  · have := h1.2.2; omega

theorem spec_GiveChoices {S S' : Nat → Prop} (h : Heap) (cb : BookC) (b : Book) (cw : WishC) (w : Wish) (ho : HOk h) (hb : RdBook S h cb b) (hwb : BookWf b) (hw : RdWish S' h cw w) (hww : SzS w.name) :
    ∃ c' h' fp, Fspec_GiveChoices [.v (.agg cb.ces), .v (.agg cw.ces)] h = some (.v (.c c'), h') ∧ NewF fChoice h h' c' (choicesB b w) fp := by
  unfold Fspec_GiveChoices
  have f0 := Fr.push ho ⟨[], 3, true⟩
  have n0 : NewF fChoice h (h.push ⟨[], 3, true⟩) (.sl (.inr h.nx) 0 0 .own) [] [h.nx] := NewF.push ho [] 0 rfl
  have hb1 := hb.keep ho f0
  have hw1 := hw.keep ho f0
  have u1 := spec_GiveBookOk _ cb b hb1 hwb
  have u2 := spec_GiveWishOk _ cb.f b.fields cw w hb1.f hwb.f hw1 hww
  have e1 : cb.ces[1]? = some cb.f := rfl
  have e5 := hw.e5
  have fl := hb.f.noLoc
  obtain ⟨v, h', h1, c', fp, rfl, h2⟩ := runF_of (env := espec_GiveChoices) (code := cspec_GiveChoices) (rs := [.t 4]) (args := [.v (.agg cb.ces), .v (.agg cw.ces)]) (h := h) (K := fun v h' => ∃ c' fp, v = .v (.c c') ∧ NewF fChoice h h' c' (choicesB b w) fp) (by
    cases k1 : bookOkB b
    · rw [k1] at u1
      simp [cspec_GiveChoices, St.push, espec_GiveChoices_spec_GiveBookOk, u1, choicesB, k1]
      exact ⟨_, n0⟩
    rw [k1] at u1
    cases k2 : wishOkB b.fields w
    · rw [k2] at u2
      simp [cspec_GiveChoices, St.push, espec_GiveChoices_spec_GiveBookOk, espec_GiveChoices_spec_GiveWishOk, u1, u2, e1, fl, choicesB, k1, k2]
      exact ⟨_, n0⟩
    rw [k2] at u2
    obtain ⟨y1, y2, y3, y4⟩ := wishOk_bounds k2
    rw [show choicesB b w = lateL b w (w.late.toNat + 1) w.ways.length w.levels.length by simp [choicesB, k1, k2]]
    obtain ⟨L, hL⟩ : ∃ L : Nat, w.late = L := ⟨w.late.toNat, by omega⟩
    rw [show w.late.toNat = L by omega]
    rw [hL] at e5
    simp [cspec_GiveChoices, St.push, espec_GiveChoices_spec_GiveBookOk, espec_GiveChoices_spec_GiveWishOk, u1, u2, e1, fl]
    refine AW_each (L + 1) (fun i x => x.1 2 = .v (.c (.ptr (.inl 2) 0)) ∧ x.1 3 = .v (.c (.ptr (.inl 3) 0)) ∧ x.1 6 = .v (.c (.int .i64 i)) ∧ x.2.lc 2 = some ⟨cb.ces, 3, true⟩ ∧ x.2.lc 3 = some ⟨cw.ces, 8, true⟩ ∧ ∃ c5 fp, x.1 5 = .v (.c c5) ∧ NewF fChoice h x.2.h c5 (lateL b w i w.ways.length w.levels.length) fp) ?_ ?_ ?_
    · simp [lateL]
      exact ⟨_, n0⟩
    · rintro i ⟨T, ⟨H, lc⟩⟩ hin ⟨t2, t3, t6, l2, l3, c5, fp, t5, nw⟩
      simp only at t2 t3 t6 l2 l3 t5 nw
      have hwr := wrap1 (i := i) (by omega)
      have hil : i ≤ L := by omega
      have wl := lateL_len (b := b) (w := w) (n := i) (nw := w.ways.length) (nl := w.levels.length)
      have hm : w.ways.length * w.levels.length ≤ 3 * 6 := Nat.mul_le_mul y3 y4
      have hm2 : i * (w.ways.length * w.levels.length) ≤ 301 * 18 := Nat.mul_le_mul (by omega) (by omega)
      simp [cspec_GiveChoices_L0, t2, t3, t5, t6, l2, l3, e5, hil]
      refine AW_mono (choices_L1 (la := i) (pre := lateL b w i w.ways.length w.levels.length) ho hb hw (by omega) y4 y3 ?_) ?_
      · simp [StC, t2, t3, t5, t6, l2, l3]
        exact ⟨fp, nw⟩
      · rintro e ⟨T, ⟨H2, lc2⟩⟩ ⟨rfl, wa, t2, t3, t6, t7, l2, l3, c5, fp, t5, nw⟩
        simp only at t2 t3 t6 t7 l2 l3 t5 nw
        simp [t2, t3, t5, t6, t7, l2, l3, hwr]
        rw [lateL_succ]
        exact ⟨fp, nw⟩
    · rintro ⟨T, ⟨H, lc⟩⟩ ⟨t2, t3, t6, l2, l3, c5, fp, t5, nw⟩
      simp only at t2 t3 t6 l2 l3 t5 nw
      simp [cspec_GiveChoices_L0, t2, t3, t5, t6, l2, l3, e5, nw.own.noLoc, show ¬ ((L : Int) + 1 ≤ L) by omega]
      exact ⟨fp, nw⟩)
  exact ⟨c', h', fp, h1, h2⟩
end Go.Abs

/-
  A choice and its delays: what the program reckons once for all delays.
-/

namespace Go.Abs
set_option linter.unusedSimpArgs false
set_option linter.unusedVariables false
attribute [local simp] AW_skip AW_exit AW_ret AW_seq AW_block AW_cond CW_ite AW_reg AW_regD AW_regDc RD_nil RD_cons keyEq hasP hasH hasL chkL chkH recK recH inRange lightKey BookC.len BookC.take WishC.len WishC.take RW_nil RW_cons RW_guard GW_t GW_f GW_gt GW_gf GW_tup GY_some GY_tt GY_ff gd_t gd_f pk_t pk_f pk_and pk_or pk_andc pk_orc pk_bool gd_gd SW_some ThenQ_normal ThenQ_exit ThenQ_ret BlockQ_normal BlockQ_exit BlockQ_ret kill_nil kill_cons killT_at killL_at upo_some upo_none ev_t ev_k FinQ_ret FinQ_normal upd_eq upd_ne argsT_zero argsT_succ aop.eq_1 aop_pick aop.eq_3 aop.eq_4 aop.eq_5 aop.eq_6 aop.eq_7 aop.eq_8 aop.eq_9 aop.eq_10 aop.eq_11 aop.eq_12 aop.eq_13 aop.eq_14 aop.eq_15 aop.eq_16 aop.eq_17 aop.eq_18 aop.eq_19 aop.eq_20 aop.eq_21 aop_slice_hi aop_slice_lo aop.eq_23 aop.eq_24 aop.eq_26 aop.eq_27 aop.eq_28 aop.eq_29 aop.eq_31 aop.eq_32 aop_maxs2 aop_mins2 aop_mins3 aop_len aop_iaddr Av.bool? Av.ptr? Av.int? Av.int64? Av.str? Av.agg? ressA resA resOf noLoc_int noLoc_bool noLoc_str noLoc_nils noLoc_nilp noLoc_ptrl noLoc_ptrr noLoc_sll noLoc_slr noLoc_fn noLoc_tc noLoc_tagg noLoc_av noLoc_atup ce_c tv_v cells_c cells_agg noLocs keyLoc evs callA St.set St.get unAv binCe killV_int killV_bool killV_str killV_nils killV_nilp killV_agg killV_no killV_tup killV_ptrl killV_ptrr killV_sll killV_slr killV_fn killV_noLoc fillA repl ptrs List.map
attribute [local congr] GY_congr

theorem wishOk_small {fs : List Fld} {w : Wish} (h : wishOkB fs w = true) {s : Int} (h1 : 0 ≤ s) (h2 : s ≤ 300) : smallB w s = true := by
  simp only [wishOkB, wishHead, inB, Bool.and_eq_true, decide_eq_true_eq] at h
  simp only [smallB, inB, Bool.and_eq_true, decide_eq_true_eq]
  have hh := h.1.1
  omega
theorem wishOk_args {fs : List Fld} {w : Wish} (h : wishOkB fs w = true) {wa le la : Nat} (hwa : wa < w.ways.length) (hle : le < w.levels.length) (hla : la ≤ 300) : tubeArgs w wa le la = true := by
  simp only [tubeArgs, inB, wishOk_small h (show (0 : Int) ≤ la by omega) (by omega), Bool.and_true, Bool.and_eq_true, decide_eq_true_eq]
  omega
theorem tubeOf_eq {fs : List Fld} {w : Wish} (h : wishOkB fs w = true) {wa le la : Nat} (hwa : wa < w.ways.length) (hle : le < w.levels.length) (hla : la ≤ 300) :
    tubeOfB w wa le la = (List.range (min (w.ways[wa]).length 40)).map (tubeAt w w.ways[wa] w.levels[le] la) := by
  simp [tubeOfB, wishOk_args h hwa hle hla, hwa, hle]
theorem at_bounds {fs : List Fld} {w : Wish} (h : wishOkB fs w = true) (cs : List Cell) (V : Int) {s : Nat} (hs : s ≤ 300) {i : Nat} (hi : i < 40) :
    0 ≤ (tubeAt w cs V s i).tin ∧ (tubeAt w cs V s i).tin ≤ 100000 ∧ 0 ≤ (tubeAt w cs V s i).tout ∧ (tubeAt w cs V s i).tout ≤ 100000 ∧ w.from_ + s ≤ (tubeAt w cs V s i).tin := by
  obtain ⟨b1, b2, b3, b4, b5⟩ := small_bounds (wishOk_small h (show (0 : Int) ≤ s by omega) (by omega))
  have m1 := mul_bound (show (0 : Int) ≤ i by omega) (by omega) (show 0 ≤ w.quick by omega) b1.2
  have m2 := mul_bound (show (0 : Int) ≤ (i : Int) + 1 by omega) (by omega) (show 0 ≤ w.slow by omega) b2.2
  have m3 : w.slow ≤ ((i : Int) + 1) * w.slow := by
    have : 1 * w.slow ≤ ((i : Int) + 1) * w.slow := Int.mul_le_mul_of_nonneg_right (by omega) (by omega)
    omega
  simp only [tubeAt]
  omega
theorem tubeOf_later {fs : List Fld} {w : Wish} (h : wishOkB fs w = true) {wa le la : Nat} (hwa : wa < w.ways.length) (hle : le < w.levels.length) (hla : la ≤ 300) :
    tubeOfB w wa le la = laterB la (tubeOfB w wa le 0) := by
  have e0 := tubeOf_eq h hwa hle (show 0 ≤ 300 by omega)
  simp only [show ((0 : Nat) : Int) = 0 from rfl] at e0
  rw [tubeOf_eq h hwa hle hla, e0, laterB_eq, List.map_map]
  apply List.map_congr_left
  intro i hi
  rw [List.mem_range] at hi
  have b0 := at_bounds h w.ways[wa] w.levels[le] (s := 0) (by omega) (i := i) (by omega)
  simp only [Function.comp, lat]
  rw [wrap64_id (by simp only [show ((0 : Nat) : Int) = 0 from rfl] at b0; omega) (by simp only [show ((0 : Nat) : Int) = 0 from rfl] at b0; omega), wrap64_id (by simp only [show ((0 : Nat) : Int) = 0 from rfl] at b0; omega) (by simp only [show ((0 : Nat) : Int) = 0 from rfl] at b0; omega)]
  simp only [tubeAt, Box.mk.injEq, true_and]
  omega
theorem ok_back {x : Box} {d : Nat} (h0 : 0 ≤ x.tin ∧ x.tin ≤ 100000) (h1 : 0 ≤ x.tout ∧ x.tout ≤ 100000) (hd : d ≤ 300) (h : okB (lat d x) = true) : okB x = true := by
  simp only [lat] at h
  rw [wrap64_id (by omega) (by omega), wrap64_id (by omega) (by omega)] at h
  simp only [okB, inB, Bool.and_eq_true, decide_eq_true_eq] at h ⊢
  omega
theorem tubeOk_back {fs : List Fld} {t : List Box} {d : Nat} (hb : ∀ x, x ∈ t → (0 ≤ x.tin ∧ x.tin ≤ 100000) ∧ 0 ≤ x.tout ∧ x.tout ≤ 100000) (hd : d ≤ 300) (h : tubeOkB fs (laterB d t) = true) : tubeOkB fs t = true := by
  have hall := tubeOk_all h
  have hok : ∀ x, x ∈ t → okB x = true := fun x hx => ok_back (hb x hx).1 (hb x hx).2 hd (hall _ (by rw [laterB_eq]; exact List.mem_map_of_mem hx))
  simp only [tubeOkB, laterB_length, Bool.and_eq_true, decide_eq_true_eq] at h ⊢
  obtain ⟨⟨⟨h1, h2⟩, h3⟩, h4⟩ := h
  refine ⟨⟨⟨h1, h2⟩, allN_of fun i hi => ?_⟩, ?_⟩
  · have hst := allN_iff.1 h3 i hi
    have e1 : (laterB d t).getD i default = lat d t[i] := by simp [laterB_eq, hi]
    have e2 : t.getD i default = t[i] := by simp [hi]
    unfold stepB at hst ⊢
    rw [e1] at hst
    rw [e2, hok _ (List.getElem_mem hi)]
    rcases i with _ | k
    · simp
    · have hk : k < t.length := by omega
      have e3 : (laterB d t).getD (k + 1 - 1) default = lat d t[k] := by simp [laterB_eq, hk]
      have e4 : t.getD (k + 1 - 1) default = t[k] := by simp [hk]
      rw [e3, lat_next (hok _ (List.getElem_mem hk)) (hok _ (List.getElem_mem hi)) hd] at hst
      rw [e4]
      simp at hst ⊢
      exact hst.2
  · have hl : t.length - 1 < t.length := by omega
    have e1 : (laterB d t).getD (t.length - 1) default = lat d t[t.length - 1] := by simp [laterB_eq, hl]
    have e2 : t.getD (t.length - 1) default = t[t.length - 1] := by simp [hl]
    rw [e1] at h4
    rw [e2]
    exact h4
/-- A choice: its tube at no delay is in order, the delay is not barred, and it is late enough. -/
theorem chB_eq {b : Book} {w : Wish} (h : wishOkB b.fields w = true) {wa le la : Nat} (hwa : wa < w.ways.length) (hle : le < w.levels.length) (hla : la ≤ 300) :
    chB b w la wa le = (tubeOkB b.fields (tubeOfB w wa le 0) && !barredF b w.name (tubeOfB w wa le 0) la && decide (b.now ≤ ((tubeOfB w wa le 0).getD 0 default).tin + la)) := by
  have e0 := tubeOf_eq h hwa hle (show 0 ≤ 300 by omega)
  simp only [show ((0 : Nat) : Int) = 0 from rfl] at e0
  have hbd : ∀ x, x ∈ tubeOfB w wa le 0 → (0 ≤ x.tin ∧ x.tin ≤ 100000) ∧ (0 ≤ x.tout ∧ x.tout ≤ 100000) ∧ w.from_ ≤ x.tin := by
    intro x hx
    rw [e0, List.mem_map] at hx
    obtain ⟨i, hi, rfl⟩ := hx
    rw [List.mem_range] at hi
    have := at_bounds h w.ways[wa] w.levels[le] (s := 0) (by omega) (i := i) (by omega)
    simp only [show ((0 : Nat) : Int) = 0 from rfl] at this
    omega
  unfold chB
  rw [tubeOf_later h hwa hle hla]
  cases hk : tubeOkB b.fields (tubeOfB w wa le 0)
  · have : tubeOkB b.fields (laterB la (tubeOfB w wa le 0)) = false := by
      cases q : tubeOkB b.fields (laterB la (tubeOfB w wa le 0))
      · rfl
      · rw [tubeOk_back (fun x hx => ⟨(hbd x hx).1, (hbd x hx).2.1⟩) hla q] at hk
        cases hk
    simp [this]
  · have hc := can_barred (n := w.name) hk hla
    rw [← hc]
    unfold canB
    have hlen := tubeOk_len hk
    have hfr : fromB (laterB la (tubeOfB w wa le 0)) b.now = decide (b.now ≤ ((tubeOfB w wa le 0).getD 0 default).tin + la) := by
      have hl0 : 0 < (tubeOfB w wa le 0).length := by omega
      have hfirst : ((tubeOfB w wa le 0).getD 0 default) = (tubeOfB w wa le 0)[0] := by simp [hl0]
      have hf0 : (tubeOfB w wa le 0)[0].tin = w.from_ := by
        simp only [e0]
        simp [tubeAt]
      rw [hfirst, hf0, Bool.eq_iff_iff]
      simp only [fromB, laterB_eq, List.all_map, List.all_eq_true, Function.comp, decide_eq_true_eq]
      constructor
      · intro q
        have := q _ (List.getElem_mem hl0)
        have b0 := hbd _ (List.getElem_mem hl0)
        simp only [lat] at this
        rw [wrap64_id (by omega) (by omega), hf0] at this
        exact this
      · intro q x hx
        have b0 := hbd x hx
        simp only [lat]
        rw [wrap64_id (by omega) (by omega)]
        omega
    rw [hfr]
    cases tubeOkB b.fields (laterB la (tubeOfB w wa le 0)) <;> cases freeB b w.name (laterB la (tubeOfB w wa le 0)) <;> simp
end Go.Abs
