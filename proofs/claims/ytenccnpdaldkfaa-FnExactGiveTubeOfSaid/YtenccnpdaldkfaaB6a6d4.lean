/-
  Boxes: what the functions over boxes and tubes compute.
-/
import Derived.Test.YtenccnpdaldkfaaB4dbb2
import Derived.Test.YtenccnpdaldkfaaB58efe
set_option linter.unusedSimpArgs false
set_option linter.unusedVariables false
namespace Go.Abs
set_option linter.unusedSimpArgs false
set_option linter.unusedVariables false
attribute [local simp] AW_skip AW_exit AW_ret AW_seq AW_block AW_cond CW_ite AW_reg AW_regD RW_nil RW_cons RW_guard GW_t GW_f GW_gt GW_gf GW_tup GY_some GY_tt GY_ff gd_t gd_f pk_t pk_f pk_and pk_or pk_andc pk_orc pk_bool gd_gd SW_some ThenQ_normal ThenQ_exit ThenQ_ret BlockQ_normal BlockQ_exit BlockQ_ret kill_nil kill_cons killT_at killL_at upo_some upo_none ev_t ev_k FinQ_ret FinQ_normal upd_eq upd_ne argsT_zero argsT_succ aop.eq_1 aop_pick aop.eq_3 aop.eq_4 aop.eq_5 aop.eq_6 aop.eq_7 aop.eq_8 aop.eq_9 aop.eq_10 aop.eq_11 aop.eq_12 aop.eq_13 aop.eq_14 aop.eq_15 aop.eq_16 aop.eq_17 aop.eq_18 aop.eq_19 aop.eq_20 aop.eq_21 aop_slice_hi aop_slice_lo aop.eq_23 aop.eq_24 aop.eq_26 aop.eq_27 aop.eq_28 aop.eq_29 aop.eq_31 aop.eq_32 aop_maxs2 aop_mins2 aop_mins3 aop_len aop_iaddr Av.bool? Av.ptr? Av.int? Av.int64? Av.str? Av.agg? ressA resA resOf noLoc_int noLoc_bool noLoc_str noLoc_nils noLoc_nilp noLoc_ptrl noLoc_ptrr noLoc_sll noLoc_slr noLoc_fn noLoc_tc noLoc_tagg noLoc_av noLoc_atup ce_c tv_v cells_c cells_agg noLocs keyLoc evs callA St.set St.get unAv binCe killV_int killV_bool killV_str killV_nils killV_nilp killV_agg killV_no killV_tup killV_ptrl killV_ptrr killV_sll killV_slr killV_fn killV_noLoc fillA repl
attribute [local congr] GY_congr
theorem spec_l1In (h : Heap) (n lo hi : Int) : Fspec_l1In [.v (.c (.int .i64 n)), .v (.c (.int .i64 lo)), .v (.c (.int .i64 hi))] h = some (.v (.c (.bool (inB n lo hi))), h) := by
  unfold Fspec_l1In inB
  refine runF_eq ?_
  simp +contextual [cspec_l1In]
theorem impl_in (h : Heap) (n lo hi : Int) : Fimpl_in [.v (.c (.int .i64 n)), .v (.c (.int .i64 lo)), .v (.c (.int .i64 hi))] h = some (.v (.c (.bool (inB n lo hi))), h) := by
  unfold Fimpl_in inB
  refine runF_eq ?_
  simp +contextual [cimpl_in]
theorem spec_l1BoxOk (h : Heap) (b : Box) : Fspec_l1BoxOk [.v (.agg (fBox.ces b))] h = some (.v (.c (.bool (okB b))), h) := by
  unfold Fspec_l1BoxOk okB
  refine runF_eq ?_
  simp +contextual [cspec_l1BoxOk, fBox, espec_l1BoxOk_spec_l1In, spec_l1In]
theorem impl_boxOk (h : Heap) (b : Box) : Fimpl_boxOk [.v (.agg (fBox.ces b))] h = some (.v (.c (.bool (okB b))), h) := by
  unfold Fimpl_boxOk okB
  refine runF_eq ?_
  simp +contextual [cimpl_boxOk, fBox, eimpl_boxOk_impl_in, impl_in, inB, Bool.and_assoc]
theorem spec_l1Close (h : Heap) (a b : Box) : Fspec_l1Close [.v (.agg (fBox.ces a)), .v (.agg (fBox.ces b))] h = some (.v (.c (.bool (closeB a b))), h) := by
  unfold Fspec_l1Close closeB wrap64
  have A := spec_l1BoxOk
  simp only [fBox] at A
  refine runF_eq ?_
  simp +contextual [cspec_l1Close, fBox, espec_l1Close_spec_l1In, espec_l1Close_spec_l1BoxOk, spec_l1In, A, Bool.and_assoc]
def besideB (a b : Box) : Bool := okB a && okB b && inB (wrap64 (a.x - b.x)) (-1) 1 && inB (wrap64 (a.y - b.y)) (-1) 1 && decide (max2 a.low b.low ≤ min2 a.high b.high)
theorem impl_beside (h : Heap) (a b : Box) : Fimpl_beside [.v (.agg (fBox.ces a)), .v (.agg (fBox.ces b))] h = some (.v (.c (.bool (besideB a b))), h) := by
  unfold Fimpl_beside besideB wrap64
  have A := impl_boxOk
  simp only [fBox] at A
  refine runF_eq ?_
  simp +contextual [cimpl_beside, fBox, eimpl_beside_impl_in, eimpl_beside_impl_boxOk, impl_in, A, Bool.and_assoc]
theorem laws_toGiveBox (h : Heap) (b : Box) : Flaws_toGiveBox [.v (.agg (fBox.ces b))] h = some (.v (.agg (fBox.ces b)), h) := by
  unfold Flaws_toGiveBox
  refine runF_eq ?_
  simp [claws_toGiveBox, fBox]
def eqBox (a b : Box) : Bool := a.x == b.x && a.y == b.y && a.low == b.low && a.high == b.high && a.tin == b.tin && a.tout == b.tout
theorem eqBox_iff (a b : Box) : eqBox a b = true ↔ a = b := by
  cases a; cases b
  simp [eqBox, and_assoc]
theorem laws_eqGiveBox (h : Heap) (a b : Box) : Flaws_eqGiveBox [.v (.agg (fBox.ces a)), .v (.agg (fBox.ces b))] h = some (.v (.c (.bool (eqBox a b))), h) := by
  unfold Flaws_eqGiveBox eqBox
  refine runF_eq ?_
  simp +contextual [claws_eqGiveBox, fBox]
theorem laws_szGiveBoxS {S : Nat → Prop} (h : Heap) (c : Ce) (l : List Box) (k : Int) (hc : RdF fBox S h c l) (hk : 0 ≤ k ∧ k ≤ 1048576) :
    Flaws_szGiveBoxS [.v (.c c), .v (.c (.int .i64 k))] h = some (.v (.c (.int .i64 (if k < l.length then -1 else k - l.length))), h) := by
  unfold Flaws_szGiveBoxS
  have hl := hc.le
  have e : IntKind.i64.wrap (k - l.length) = k - l.length := wrap_i64 (by omega) (by omega)
  have e1 : k - (l.length : Int) < 0 ↔ k < l.length := by omega
  refine runF_eq ?_
  simp +contextual [claws_szGiveBoxS, hc.slen, e, e1]
  intros; omega

theorem spec_GiveNear {S S' : Nat → Prop} (h : Heap) (c c' : Ce) (l l' : List Box) (hc : RdF fBox S h c l) (hc' : RdF fBox S' h c' l') :
    Fspec_GiveNear [.v (.c c), .v (.c c')] h = some (.v (.c (.bool (nearL l l'))), h) := by
  unfold Fspec_GiveNear
  have hl := hc.le
  have hl' := hc'.le
  have A := spec_l1Close
  simp only [fBox] at A
  refine runF_eq ?_
  simp [cspec_GiveNear]
  refine AW_for1 l.length (fun i => l'.any (closeB (l.getD i default))) (fun i x => x.1 0 = .v (.c c) ∧ x.1 1 = .v (.c c') ∧ x.1 5 = .v (.c (.int .i64 i)) ∧ x.2 = ⟨h, nol⟩) (by simp) ?_ ?_
  · rintro i ⟨T, s⟩ hin _ ⟨h0, h1, h5, rfl⟩
    simp only at h0 h1 h5
    obtain ⟨b, p, r, e1, _, e2, e3, e4, _⟩ := hc.box hin
    have hw := wrap1 (i := i) (by omega)
    simp [cspec_GiveNear_L0, h0, h1, h5, hc.slen, hin]
    refine AW_for1 l'.length (fun k => closeB l[i] (l'.getD k default)) (fun k x => x.1 0 = .v (.c c) ∧ x.1 1 = .v (.c c') ∧ x.1 5 = .v (.c (.int .i64 i)) ∧ x.1 6 = .v (.c (.int .i64 k)) ∧ x.2 = ⟨h, nol⟩) (by simp [h0, h1, h5]) ?_ ?_
    · rintro k ⟨T, s⟩ hkn _ ⟨h0, h1, h5, h6, rfl⟩
      simp only at h0 h1 h5 h6
      obtain ⟨b', p', r', f1, _, f2, f3, f4, _⟩ := hc'.box hkn
      have hw' := wrap1 (i := k) (by omega)
      simp +contextual [cspec_GiveNear_L1, h0, h1, h5, h6, hc'.slen, hkn, hin, e1, e2, e3, e4, f1, f2, f3, f4, espec_GiveNear_spec_l1Close, A, hw']
      intro hcl
      exact ⟨⟨_, List.getElem_mem hkn, hcl⟩, any_of hin (any_of hkn hcl)⟩
    · rintro ⟨T, s⟩ hno ⟨h0, h1, h5, h6, rfl⟩
      simp only at h0 h1 h5 h6
      have := any_no (l := l') (p := closeB l[i]) (fun j hj => by simpa [hj] using hno j hj)
      simp [cspec_GiveNear_L1, h0, h1, h5, h6, hc'.slen, hin, hw]
      simpa using this
  · rintro ⟨T, s⟩ hno ⟨h0, h1, h5, rfl⟩
    simp only at h0 h1 h5
    have : nearL l l' = false := any_no (fun j hj => by simpa [hj] using hno j hj)
    simp [cspec_GiveNear_L0, h0, h1, h5, hc.slen, this]
theorem near_close (a b : Box) : (besideB a b && decide (max2 a.tin b.tin ≤ min2 a.tout b.tout)) = closeB a b := by
  unfold besideB closeB
  cases h1 : okB a
  · simp
  cases h2 : okB b
  · simp
  simp only [okB, inB, Bool.and_eq_true, decide_eq_true_eq] at h1 h2
  simp only [max2_eq, min2_eq]
  rw [Bool.eq_iff_iff]
  simp only [Bool.and_eq_true, decide_eq_true_eq]
  constructor
  · rintro ⟨⟨⟨⟨_, h3⟩, h4⟩, h5⟩, h6⟩
    refine ⟨⟨⟨⟨⟨⟨⟨trivial, trivial⟩, h3⟩, h4⟩, ?_⟩, ?_⟩, ?_⟩, ?_⟩ <;> omega
  · rintro ⟨⟨⟨⟨⟨⟨_, h3⟩, h4⟩, h5⟩, h6⟩, h7⟩, h8⟩
    refine ⟨⟨⟨⟨⟨trivial, trivial⟩, h3⟩, h4⟩, ?_⟩, ?_⟩ <;> omega

theorem impl_GiveNear {S S' : Nat → Prop} (h : Heap) (c c' : Ce) (l l' : List Box) (hc : RdF fBox S h c l) (hc' : RdF fBox S' h c' l') :
    Fimpl_GiveNear [.v (.c c), .v (.c c')] h = some (.v (.c (.bool (nearL l l'))), h) := by
  unfold Fimpl_GiveNear
  have hl := hc.le
  have hl' := hc'.le
  have A := impl_beside
  simp only [fBox] at A
  refine runF_eq ?_
  simp [cimpl_GiveNear, hc.slen]
  refine AW_for1 l.length (fun i => l'.any (closeB (l.getD i default))) (fun i x => x.1 1 = .v (.c c') ∧ x.1 9 = .v (.c c) ∧ x.1 10 = .v (.c (.int .i64 l.length)) ∧ x.1 11 = .v (.c (.int .i64 i)) ∧ x.2.h = h) (by simp) ?_ ?_
  · rintro i ⟨T, ⟨h', lc⟩⟩ hin _ ⟨h1, h9, h10, h11, hs⟩
    simp only at h1 h9 h10 h11 hs
    subst hs
    obtain ⟨b, p, r, e1, _, e2, e3, e4, _⟩ := hc.box hin
    have hw := wrap1 (i := i) (by omega)
    simp [cimpl_GiveNear_L0, h1, h9, h10, h11, hc.slen, hc'.slen, hc.noLoc, hc'.noLoc, hin, e1, e2, e3, e4]
    refine AW_for1 l'.length (fun k => closeB l[i] (l'.getD k default)) (fun k x => x.1 1 = .v (.c c') ∧ x.1 9 = .v (.c c) ∧ x.1 10 = .v (.c (.int .i64 l.length)) ∧ x.1 11 = .v (.c (.int .i64 i)) ∧ x.1 6 = .v (.c (.ptr (.inl 6) 0)) ∧ x.2.lc 6 = some ⟨fBox.ces l[i], 6, true⟩ ∧ x.1 15 = .v (.c c') ∧ x.1 16 = .v (.c (.int .i64 l'.length)) ∧ x.1 17 = .v (.c (.int .i64 k)) ∧ x.2.h = h') (by simp [h1, h9, h10, h11, hc.noLoc, hc'.noLoc, fBox]) ?_ ?_
    · rintro k ⟨T, ⟨h', lc⟩⟩ hkn _ ⟨h1, h9, h10, h11, h6, hl6, h15, h16, h17, hs⟩
      simp only at h1 h9 h10 h11 h6 hl6 h15 h16 h17 hs
      subst hs
      obtain ⟨b', p', r', f1, _, f2, f3, f4, _⟩ := hc'.box hkn
      have hw' := wrap1 (i := k) (by omega)
      have hq := near_close l[i] l'[k]
      simp only [fBox] at hl6
      simp +contextual [cimpl_GiveNear_L1, h1, h9, h10, h11, h6, hl6, h15, h16, h17, hc'.slen, hc.noLoc, hc'.noLoc, hkn, hin, f1, f2, f3, f4, eimpl_GiveNear_impl_beside, A, hw', fBox, ← hq]
      intro hcl1 hcl2
      have hcl : closeB l[i] l'[k] = true := by rw [← hq]; simp [hcl1, hcl2]
      exact ⟨⟨_, List.getElem_mem hkn, hcl⟩, any_of hin (any_of hkn hcl)⟩
    · rintro ⟨T, ⟨h', lc⟩⟩ hno ⟨h1, h9, h10, h11, h6, hl6, h15, h16, h17, hs⟩
      simp only at h1 h9 h10 h11 h6 hl6 h15 h16 h17 hs
      subst hs
      have := any_no (l := l') (p := closeB l[i]) (fun j hj => by simpa [hj] using hno j hj)
      simp [cimpl_GiveNear_L1, h1, h9, h10, h11, h16, h17, hin, hw]
      simpa using this
  · rintro ⟨T, ⟨h', lc⟩⟩ hno ⟨h1, h9, h10, h11, hs⟩
    simp only at h1 h9 h10 h11 hs
    subst hs
    have : nearL l l' = false := any_no (fun j hj => by simpa [hj] using hno j hj)
    simp [cimpl_GiveNear_L0, h1, h9, h10, h11, this]

def zBox : Box := ⟨0, 0, 0, 0, 0, 0⟩
theorem take_repl_put {α : Type} (l : List α) (z : α) {i : Nat} (hi : i < l.length) : (l.take i ++ List.replicate (l.length - i) z).set i l[i] = l.take (i + 1) ++ List.replicate (l.length - (i + 1)) z := by
  have e : l.length - i = (l.length - (i + 1)) + 1 := by omega
  have e2 : l.take (i + 1) = l.take i ++ [l[i]] := by rw [List.take_add_one, List.getElem?_eq_getElem hi]; rfl
  rw [List.set_append_right _ _ (by rw [List.length_take]; omega), e, List.replicate_succ, e2, List.append_assoc, List.length_take, Nat.min_eq_left (by omega), Nat.sub_self]
  rfl
theorem laws_toGiveBoxS {S : Nat → Prop} (h : Heap) (c : Ce) (l : List Box) (ho : HOk h) (hc : RdF fBox S h c l) (hl : l.length ≤ 1048576) :
    Flaws_toGiveBoxS [.v (.c c)] h = some (.v (.c (.sl (.inr h.nx) 0 l.length .own)), h.push ⟨fBox.all l, 6, true⟩) := by
  unfold Flaws_toGiveBoxS
  have A := laws_toGiveBox
  simp only [fBox] at A
  have hz : (List.replicate l.length Z6).flatten = fBox.all (List.replicate l.length zBox) := fBox.all_repl _ zBox
  simp only [Z6] at hz
  refine runF_eq ?_
  simp [claws_toGiveBoxS, hc.slen, hc.noLoc, lim, show (l.length : Int) ≤ 4294967296 by omega, hz]
  refine AW_each l.length (fun i x => x.1 0 = .v (.c c) ∧ x.1 3 = .v (.c (.sl (.inr h.nx) 0 l.length .own)) ∧ x.1 4 = .v (.c (.int .i64 i)) ∧ x.2 = ⟨h.push ⟨fBox.all (l.take i ++ List.replicate (l.length - i) zBox), 6, true⟩, nol⟩) (by simp [St.push]) ?_ ?_
  · rintro i ⟨T, s⟩ hin ⟨h0, h3, h4, rfl⟩
    simp only at h0 h3 h4
    obtain ⟨b, p, r, e1, _, e2, e3, e4, _⟩ := hc.box hin
    have hne : b ≠ h.nx := by have := ho.lt e2; omega
    have hlen : (fBox.all (l.take i ++ List.replicate (l.length - i) zBox)).length = l.length * 6 := by rw [fBox.all_length]; simp [fBox]; omega
    have hcut := fBox.all_put (l.take i ++ List.replicate (l.length - i) zBox) (i := i) (by simp; omega) l[i]
    rw [take_repl_put l zBox hin] at hcut
    simp only [fBox] at hcut hlen
    have hw := wrap1 (i := i) (by omega)
    have he2 : (Ce.sl (Sum.inr h.nx) 0 l.length .own).eltAt 6 i = some (.inr h.nx, i * 6) := by simp [Ce.eltAt, hin]
    have hfit : i * 6 + 6 ≤ l.length * 6 := by omega
    simp [claws_toGiveBoxS_L0, h0, h3, h4, hc.slen, hin, e1, e2, Heap.push, upd, hne, e3, e4, elaws_toGiveBoxS_laws_toGiveBox, A, he2, hlen, hfit, hw, fBox]
    rw [← hcut]
    exact upd_upd _ _ _ _
  · rintro ⟨T, s⟩ ⟨h0, h3, h4, rfl⟩
    simp only at h0 h3 h4
    simp [claws_toGiveBoxS_L0, h0, h3, h4, hc.slen]

theorem laws_eqGiveBoxS {S S' : Nat → Prop} (h : Heap) (c c' : Ce) (l l' : List Box) (hc : RdF fBox S h c l) (hc' : RdF fBox S' h c' l') :
    ∃ r, Flaws_eqGiveBoxS [.v (.c c), .v (.c c')] h = some (.v (.c (.bool r)), h) ∧ (r = true ↔ l = l') := by
  unfold Flaws_eqGiveBoxS
  have hl := hc.le
  have A := laws_eqGiveBox
  simp only [fBox] at A
  obtain ⟨v, h', h1, r, rfl, rfl, h2⟩ := runF_of (env := elaws_eqGiveBoxS) (code := claws_eqGiveBoxS) (rs := [.t 4]) (args := [.v (.c c), .v (.c c')]) (h := h) (K := fun v h' => ∃ r, v = .v (.c (.bool r)) ∧ h' = h ∧ (r = true ↔ l = l')) (by
    by_cases hlen : l.length = l'.length
    · simp [claws_eqGiveBoxS, hc.slen, hc'.slen, hc.noLoc, hlen]
      refine AW_for1 l.length (fun i => !eqBox (l.getD i default) (l'.getD i default)) (fun i x => x.1 0 = .v (.c c) ∧ x.1 1 = .v (.c c') ∧ x.1 5 = .v (.c (.int .i64 i)) ∧ x.2 = ⟨h, nol⟩) (by simp) ?_ ?_
      · rintro i ⟨T, s⟩ hin _ ⟨h0, h1, h5, rfl⟩
        simp only at h0 h1 h5
        have hin' : i < l'.length := by omega
        obtain ⟨b, p, r, e1, _, e2, e3, e4, _⟩ := hc.box hin
        obtain ⟨b', p', r', f1, _, f2, f3, f4, _⟩ := hc'.box hin'
        have hw := wrap1 (i := i) (by omega)
        simp +contextual [claws_eqGiveBoxS_L0, h0, h1, h5, hc.slen, hin, hin', e1, e2, e3, e4, f1, f2, f3, f4, elaws_eqGiveBoxS_laws_eqGiveBox, A, hw]
        rintro hb rfl
        rw [(eqBox_iff _ _).2 rfl] at hb
        cases hb
      · rintro ⟨T, s⟩ hno ⟨h0, h1, h5, rfl⟩
        simp only at h0 h1 h5
        have hll : l = l' := by
          apply List.ext_getElem hlen
          intro j hj hj'
          exact (eqBox_iff _ _).1 (by simpa [hj, hj'] using hno j hj)
        simp [claws_eqGiveBoxS_L0, h0, h1, h5, hc.slen, hll]
    · have hne : l ≠ l' := fun e => hlen (by rw [e])
      have : ¬ (l.length : Int) = l'.length := by omega
      simp [claws_eqGiveBoxS, hc.slen, hc'.slen, hlen, this, hne])
  exact ⟨r, h1, h2⟩
theorem spec_GiveCut {S : Nat → Prop} (h : Heap) (c : Ce) (l : List Box) (k : Int) (ho : HOk h) (hc : RdF fBox S h c l) (hl : l.length ≤ 1048576) :
    ∃ c' h' fp, Fspec_GiveCut [.v (.c c), .v (.c (.int .i64 k))] h = some (.v (.c c'), h') ∧ NewF fBox h h' c' (cutB k l) fp := by
  unfold Fspec_GiveCut
  obtain ⟨v, h', h1, c', fp, rfl, h2⟩ := runF_of (env := espec_GiveCut) (code := cspec_GiveCut) (rs := [.t 4]) (args := [.v (.c c), .v (.c (.int .i64 k))]) (h := h) (K := fun v h' => ∃ c' fp, v = .v (.c c') ∧ NewF fBox h h' c' (cutB k l) fp) (by
    simp [cspec_GiveCut]
    refine AW_each l.length (fun i x => x.1 0 = .v (.c c) ∧ x.1 1 = .v (.c (.int .i64 k)) ∧ x.1 6 = .v (.c (.int .i64 i)) ∧ ∃ c5 fp, x.1 5 = .v (.c c5) ∧ NewF fBox h x.2.h c5 (cutB k (l.take i)) fp) ?_ ?_ ?_
    · simp [St.push]
      exact ⟨_, NewF.push ho [] 0 rfl⟩
    · rintro i ⟨T, ⟨h', lc⟩⟩ hin ⟨h0, h1, h6, c5, fp, h5, nw⟩
      simp only at h0 h1 h5 h6 nw
      obtain ⟨b, p, r, e1, _, e2, e3, e4, _⟩ := (hc.keep ho nw.fr).box hin
      have hw := wrap1 (i := i) (by omega)
      have hlen : (cutB k (l.take i)).length + 1 ≤ lim := by
        have := cutB_le k (l.take i)
        rw [List.length_take] at this
        simp only [lim]
        omega
      have ht := cutB_take k l hin
      by_cases hb : l[i].tout < k
      · have hcut : cut1 k l[i] = none := by simp [cut1, hb]
        rw [hcut] at ht
        simp only [Option.toList, List.append_nil] at ht
        simp [cspec_GiveCut_L0, h0, h1, h5, h6, hc.slen, hc.noLoc, nw.own.noLoc, hin, e1, e2, e3, e4, hw, hb, ht]
        exact ⟨fp, nw⟩
      · have hcut : cut1 k l[i] = some { l[i] with tin := if l[i].tin < k then k else l[i].tin } := by simp [cut1, hb]
        rw [hcut] at ht
        simp only [Option.toList] at ht
        obtain ⟨c'', h'', fp'', nw', _, _, _, hap⟩ := nw.append1 { l[i] with tin := if l[i].tin < k then k else l[i].tin } hlen
        simp only [fBox] at hap
        rw [← ht] at nw'
        by_cases hm : l[i].tin < k
        · simp only [hm, if_true] at hap
          simp [cspec_GiveCut_L0, h0, h1, h5, h6, hc.slen, hc.noLoc, nw.own.noLoc, hin, e1, e2, e3, e4, hw, hb, hm, hap]
          exact ⟨fp'', nw'⟩
        · simp only [hm, if_false] at hap
          simp [cspec_GiveCut_L0, h0, h1, h5, h6, hc.slen, hc.noLoc, nw.own.noLoc, hin, e1, e2, e3, e4, hw, hb, hm, hap]
          exact ⟨fp'', nw'⟩
    · rintro ⟨T, ⟨h', lc⟩⟩ ⟨h0, h1, h6, c5, fp, h5, nw⟩
      simp only at h0 h1 h5 h6 nw
      rw [List.take_length] at nw
      simp [cspec_GiveCut_L0, h0, h1, h5, h6, hc.slen, nw.own.noLoc]
      exact ⟨fp, nw⟩)
  exact ⟨c', h', fp, h1, h2⟩
theorem impl_GiveCut {S : Nat → Prop} (h : Heap) (c : Ce) (l : List Box) (k : Int) (ho : HOk h) (hc : RdF fBox S h c l) (hl : l.length ≤ 1048576) :
    ∃ c' h' fp, Fimpl_GiveCut [.v (.c c), .v (.c (.int .i64 k))] h = some (.v (.c c'), h') ∧ NewF fBox h h' c' (cutB k l) fp := by
  unfold Fimpl_GiveCut
  obtain ⟨v, h', h1, c', fp, rfl, h2⟩ := runF_of (env := eimpl_GiveCut) (code := cimpl_GiveCut) (rs := [.t 4]) (args := [.v (.c c), .v (.c (.int .i64 k))]) (h := h) (K := fun v h' => ∃ c' fp, v = .v (.c c') ∧ NewF fBox h h' c' (cutB k l) fp) (by
    simp [cimpl_GiveCut, hc.slen]
    refine AW_each l.length (fun i x => x.1 1 = .v (.c (.int .i64 k)) ∧ x.1 9 = .v (.c c) ∧ x.1 10 = .v (.c (.int .i64 l.length)) ∧ x.1 11 = .v (.c (.int .i64 i)) ∧ ∃ c5 fp, x.1 5 = .v (.c c5) ∧ NewF fBox h x.2.h c5 (cutB k (l.take i)) fp) ?_ ?_ ?_
    · simp [St.push]
      exact ⟨_, NewF.push ho [] 0 rfl⟩
    · rintro i ⟨T, ⟨h', lc⟩⟩ hin ⟨h1, h9, h10, h11, c5, fp, h5, nw⟩
      simp only at h1 h9 h10 h11 h5 nw
      obtain ⟨b, p, r, e1, _, e2, e3, e4, _⟩ := (hc.keep ho nw.fr).box hin
      have hw := wrap1 (i := i) (by omega)
      have hlen : (cutB k (l.take i)).length + 1 ≤ lim := by
        have := cutB_le k (l.take i)
        rw [List.length_take] at this
        simp only [lim]
        omega
      have ht := cutB_take k l hin
      by_cases hb : l[i].tout < k
      · have hcut : cut1 k l[i] = none := by simp [cut1, hb]
        rw [hcut] at ht
        simp only [Option.toList, List.append_nil] at ht
        have hb' : ¬ k ≤ l[i].tout := by omega
        simp [cimpl_GiveCut_L0, h1, h9, h10, h11, h5, hc.noLoc, nw.own.noLoc, hin, e1, e2, e3, e4, hw, hb', ht]
        exact ⟨fp, nw⟩
      · have hcut : cut1 k l[i] = some { l[i] with tin := max2 l[i].tin k } := by simp [cut1, hb, max2]
        rw [hcut] at ht
        simp only [Option.toList] at ht
        obtain ⟨c'', h'', fp'', nw', _, _, _, hap⟩ := nw.append1 { l[i] with tin := max2 l[i].tin k } hlen
        simp only [fBox] at hap
        rw [← ht] at nw'
        have hb' : k ≤ l[i].tout := by omega
        simp [cimpl_GiveCut_L0, h1, h9, h10, h11, h5, hc.noLoc, nw.own.noLoc, hin, e1, e2, e3, e4, hw, hb', hap]
        exact ⟨fp'', nw'⟩
    · rintro ⟨T, ⟨h', lc⟩⟩ ⟨h1, h9, h10, h11, c5, fp, h5, nw⟩
      simp only at h1 h9 h10 h11 h5 nw
      rw [List.take_length] at nw
      simp [cimpl_GiveCut_L0, h1, h9, h10, h11, h5, nw.own.noLoc]
      exact ⟨fp, nw⟩)
  exact ⟨c', h', fp, h1, h2⟩
/-- What the marks write. -/
def mkBox (k : Int) (i : Nat) : Box := ⟨k + 6 * i, k + 6 * i + 1, k + 6 * i + 2, k + 6 * i + 3, k + 6 * i + 4, k + 6 * i + 5⟩
def marksBox (k : Int) (n : Nat) : List Box := (List.range n).map (mkBox k)
theorem marksBox_length (k : Int) (n : Nat) : (marksBox k n).length = n := by simp [marksBox]
theorem marksBox_at (k : Int) (n i : Nat) (h : i < (marksBox k n).length) : (marksBox k n)[i] = mkBox k i := by simp [marksBox]
theorem laws_markGiveBoxS (h : Heap) (c : Ce) (l : List Box) (fp : List Nat) (k : Int) (ho : HOk h) (hc : OwnF fBox h c l fp) (hl : l.length ≤ 1048576) (hk : 0 ≤ k ∧ k ≤ 1152921504606846976) :
    ∃ h', Flaws_markGiveBoxS [.v (.c c), .v (.c (.int .i64 k))] h = some (.v (.c (.int .i64 (k + 6 * l.length))), h') ∧ OwnF fBox h' c (marksBox k l.length) fp ∧ Chg fp h h' := by
  unfold Flaws_markGiveBoxS
  rcases hc with ⟨rfl, rfl, rfl⟩ | ⟨b, rfl, hb, rfl⟩
  · refine ⟨h, runF_eq ?_, .inl ⟨rfl, rfl, rfl⟩, Chg.refl ho⟩
    simp [claws_markGiveBoxS]
    refine AW_each 0 (fun i x => x.1 0 = .v (.c .nils) ∧ x.1 1 = .v (.c (.int .i64 k)) ∧ x.1 5 = .v (.c (.int .i64 0)) ∧ x.2 = ⟨h, nol⟩) (by simp) (by intros; omega) ?_
    rintro ⟨T, s⟩ ⟨h0, h1, h5, rfl⟩
    simp only at h0 h1 h5
    simp [claws_markGiveBoxS_L0, h0, h1, h5, Ce.slen]
  · refine ⟨⟨h.nx, upd h.hp b (some ⟨fBox.all (marksBox k l.length), 6, true⟩)⟩, runF_eq ?_, .inr ⟨b, by rw [marksBox_length], by simp [upd, fBox], rfl⟩, Chg.one ho (ho.lt hb) _⟩
    simp [claws_markGiveBoxS]
    refine AW_each l.length (fun i x => x.1 0 = .v (.c (.sl (.inr b) 0 l.length .own)) ∧ x.1 1 = .v (.c (.int .i64 (k + 6 * i))) ∧ x.1 5 = .v (.c (.int .i64 i)) ∧ x.2 = ⟨⟨h.nx, upd h.hp b (some ⟨fBox.all ((marksBox k l.length).take i ++ l.drop i), 6, true⟩)⟩, nol⟩) ?_ ?_ ?_
    · have := upd_same hb
      simp only [show fBox.sz = 6 from rfl] at this
      simp [this]
    · rintro i ⟨T, s⟩ hin ⟨h0, h1, h5, rfl⟩
      simp only at h0 h1 h5
      obtain ⟨K0, k0⟩ : ∃ K, K = k + 6 * (i : Int) := ⟨_, rfl⟩
      rw [← k0] at h1
      obtain ⟨K1, k1⟩ : ∃ K, K = K0 + 1 := ⟨_, rfl⟩
      have w0 : IntKind.i64.wrap (K0 + 1) = K1 := by rw [k1]; exact wrap_i64 (by omega) (by omega)
      obtain ⟨K2, k2⟩ : ∃ K, K = K1 + 1 := ⟨_, rfl⟩
      have w1 : IntKind.i64.wrap (K1 + 1) = K2 := by rw [k2]; exact wrap_i64 (by omega) (by omega)
      obtain ⟨K3, k3⟩ : ∃ K, K = K2 + 1 := ⟨_, rfl⟩
      have w2 : IntKind.i64.wrap (K2 + 1) = K3 := by rw [k3]; exact wrap_i64 (by omega) (by omega)
      obtain ⟨K4, k4⟩ : ∃ K, K = K3 + 1 := ⟨_, rfl⟩
      have w3 : IntKind.i64.wrap (K3 + 1) = K4 := by rw [k4]; exact wrap_i64 (by omega) (by omega)
      obtain ⟨K5, k5⟩ : ∃ K, K = K4 + 1 := ⟨_, rfl⟩
      have w4 : IntKind.i64.wrap (K4 + 1) = K5 := by rw [k5]; exact wrap_i64 (by omega) (by omega)
      obtain ⟨K6, k6⟩ : ∃ K, K = K5 + 1 := ⟨_, rfl⟩
      have w5 : IntKind.i64.wrap (K5 + 1) = K6 := by rw [k6]; exact wrap_i64 (by omega) (by omega)
      obtain ⟨L, hL⟩ : ∃ L, L = (marksBox k l.length).take i ++ l.drop i := ⟨_, rfl⟩
      rw [← hL]
      have hiL : i < L.length := by rw [hL]; simp [marksBox]; omega
      have hLi : L[i] = l[i] := by
        simp only [hL]
        rw [List.getElem_append_right (by simp; omega)]
        simp [marksBox, Nat.min_eq_left (Nat.le_of_lt hin)]
      have hlen : (fBox.all L).length = l.length * 6 := by rw [fBox.all_length, hL]; simp [fBox, marksBox]; omega
      have hlenS : ∀ B, (fBox.all (L.set i B)).length = l.length * 6 := by intro B; rw [fBox.all_length, List.length_set, ← fBox.all_length, hlen]
      have s0 := fBox.all_set L (i := i) (k := 0) (by simpa using hiL) (by decide) (b := ⟨K0, l[i].y, l[i].low, l[i].high, l[i].tin, l[i].tout⟩) (v := .int .i64 K0) (by simp [fBox, hLi])
      simp only [show fBox.sz = 6 from rfl, Nat.add_zero, Nat.add_assoc, Nat.reduceAdd] at s0
      have s1 := fBox.all_set (L.set i ⟨K0, l[i].y, l[i].low, l[i].high, l[i].tin, l[i].tout⟩) (i := i) (k := 1) (by simpa using hiL) (by decide) (b := ⟨K0, K1, l[i].low, l[i].high, l[i].tin, l[i].tout⟩) (v := .int .i64 K1) (by simp [fBox])
      rw [List.set_set] at s1
      simp only [show fBox.sz = 6 from rfl, Nat.add_zero, Nat.add_assoc, Nat.reduceAdd] at s1
      have s2 := fBox.all_set (L.set i ⟨K0, K1, l[i].low, l[i].high, l[i].tin, l[i].tout⟩) (i := i) (k := 2) (by simpa using hiL) (by decide) (b := ⟨K0, K1, K2, l[i].high, l[i].tin, l[i].tout⟩) (v := .int .i64 K2) (by simp [fBox])
      rw [List.set_set] at s2
      simp only [show fBox.sz = 6 from rfl, Nat.add_zero, Nat.add_assoc, Nat.reduceAdd] at s2
      have s3 := fBox.all_set (L.set i ⟨K0, K1, K2, l[i].high, l[i].tin, l[i].tout⟩) (i := i) (k := 3) (by simpa using hiL) (by decide) (b := ⟨K0, K1, K2, K3, l[i].tin, l[i].tout⟩) (v := .int .i64 K3) (by simp [fBox])
      rw [List.set_set] at s3
      simp only [show fBox.sz = 6 from rfl, Nat.add_zero, Nat.add_assoc, Nat.reduceAdd] at s3
      have s4 := fBox.all_set (L.set i ⟨K0, K1, K2, K3, l[i].tin, l[i].tout⟩) (i := i) (k := 4) (by simpa using hiL) (by decide) (b := ⟨K0, K1, K2, K3, K4, l[i].tout⟩) (v := .int .i64 K4) (by simp [fBox])
      rw [List.set_set] at s4
      simp only [show fBox.sz = 6 from rfl, Nat.add_zero, Nat.add_assoc, Nat.reduceAdd] at s4
      have s5 := fBox.all_set (L.set i ⟨K0, K1, K2, K3, K4, l[i].tout⟩) (i := i) (k := 5) (by simpa using hiL) (by decide) (b := ⟨K0, K1, K2, K3, K4, K5⟩) (v := .int .i64 K5) (by simp [fBox])
      rw [List.set_set] at s5
      simp only [show fBox.sz = 6 from rfl, Nat.add_zero, Nat.add_assoc, Nat.reduceAdd] at s5
      have q1 : i * 6 + 1 ≤ l.length * 6 := by omega
      have q2 : i * 6 + 2 ≤ l.length * 6 := by omega
      have q3 : i * 6 + 3 ≤ l.length * 6 := by omega
      have q4 : i * 6 + 4 ≤ l.length * 6 := by omega
      have q5 : i * 6 + 5 ≤ l.length * 6 := by omega
      have q6 : i * 6 + 6 ≤ l.length * 6 := by omega
      have g1 : (fBox.all (L.set i ⟨K0, l[i].y, l[i].low, l[i].high, l[i].tin, l[i].tout⟩)).length = l.length * 6 := hlenS _
      have g2 : (fBox.all (L.set i ⟨K0, K1, l[i].low, l[i].high, l[i].tin, l[i].tout⟩)).length = l.length * 6 := hlenS _
      have g3 : (fBox.all (L.set i ⟨K0, K1, K2, l[i].high, l[i].tin, l[i].tout⟩)).length = l.length * 6 := hlenS _
      have g4 : (fBox.all (L.set i ⟨K0, K1, K2, K3, l[i].tin, l[i].tout⟩)).length = l.length * 6 := hlenS _
      have g5 : (fBox.all (L.set i ⟨K0, K1, K2, K3, K4, l[i].tout⟩)).length = l.length * 6 := hlenS _
      have g6 : (fBox.all (L.set i ⟨K0, K1, K2, K3, K4, K5⟩)).length = l.length * 6 := hlenS _
      have hw := wrap1 (i := i) (by omega)
      have he2 : (Ce.sl (Sum.inr b) 0 l.length .own).eltAt 6 i = some (.inr b, i * 6) := by simp [Ce.eltAt, hin]
      have hend : L.set i ⟨K0, K1, K2, K3, K4, K5⟩ = (marksBox k l.length).take (i + 1) ++ l.drop (i + 1) := by
        rw [hL, ← take_drop_set _ _ hin (by rw [marksBox_length]; omega), marksBox_at]
        simp only [mkBox]
        congr 2 <;> omega
      have hK : K6 = k + 6 * ((i : Int) + 1) := by omega
      simp [claws_markGiveBoxS_L0, h0, h1, h5, Ce.slen, hin, he2, upd_upd, hlen, s0, w0, q1, g1, s1, w1, q2, g2, s2, w2, q3, g3, s3, w3, q4, g4, s4, w4, q5, g5, s5, w5, q6, g6, hw]
      exact ⟨hK, by rw [hend]⟩
    · rintro ⟨T, s⟩ ⟨h0, h1, h5, rfl⟩
      simp only at h0 h1 h5
      have e1 : (marksBox k l.length).take l.length = marksBox k l.length := by
        apply List.take_of_length_le
        rw [marksBox_length]; omega
      simp [claws_markGiveBoxS_L0, h0, h1, h5, Ce.slen, e1]

theorem laws_heldGiveBoxS {S : Nat → Prop} (h : Heap) (c : Ce) (n : Nat) (k : Int) (hc : RdF fBox S h c (marksBox k n)) (hl : n ≤ 1048576) (hk : 0 ≤ k ∧ k ≤ 1152921504606846976) :
    Flaws_heldGiveBoxS [.v (.c c), .v (.c (.int .i64 k))] h = some (.v (.c (.int .i64 (k + 6 * n))), h) := by
  unfold Flaws_heldGiveBoxS
  refine runF_eq ?_
  have hsl := hc.slen
  rw [marksBox_length] at hsl
  simp [claws_heldGiveBoxS]
  refine AW_each n (fun i x => x.1 0 = .v (.c c) ∧ x.1 1 = .v (.c (.int .i64 (k + 6 * i))) ∧ x.1 5 = .v (.c (.int .i64 i)) ∧ x.2 = ⟨h, nol⟩) (by simp) ?_ ?_
  · rintro i ⟨T, s⟩ hin ⟨h0, h1, h5, rfl⟩
    simp only at h0 h1 h5
    obtain ⟨eb, ep, er, e1, _, e2, e3, e4, e5, e6, e7, e8, e9, e10⟩ := hc.box (show i < (marksBox k n).length by rw [marksBox_length]; exact hin)
    rw [marksBox_at] at e5 e6 e7 e8 e9 e10
    simp only [mkBox] at e5 e6 e7 e8 e9 e10
    obtain ⟨K0, k0⟩ : ∃ K, K = k + 6 * (i : Int) := ⟨_, rfl⟩
    obtain ⟨K1, k1⟩ : ∃ K, K = K0 + 1 := ⟨_, rfl⟩
    have w0 : IntKind.i64.wrap (K0 + 1) = K1 := by rw [k1]; exact wrap_i64 (by omega) (by omega)
    obtain ⟨K2, k2⟩ : ∃ K, K = K1 + 1 := ⟨_, rfl⟩
    have w1 : IntKind.i64.wrap (K1 + 1) = K2 := by rw [k2]; exact wrap_i64 (by omega) (by omega)
    obtain ⟨K3, k3⟩ : ∃ K, K = K2 + 1 := ⟨_, rfl⟩
    have w2 : IntKind.i64.wrap (K2 + 1) = K3 := by rw [k3]; exact wrap_i64 (by omega) (by omega)
    obtain ⟨K4, k4⟩ : ∃ K, K = K3 + 1 := ⟨_, rfl⟩
    have w3 : IntKind.i64.wrap (K3 + 1) = K4 := by rw [k4]; exact wrap_i64 (by omega) (by omega)
    obtain ⟨K5, k5⟩ : ∃ K, K = K4 + 1 := ⟨_, rfl⟩
    have w4 : IntKind.i64.wrap (K4 + 1) = K5 := by rw [k5]; exact wrap_i64 (by omega) (by omega)
    obtain ⟨K6, k6⟩ : ∃ K, K = K5 + 1 := ⟨_, rfl⟩
    have w5 : IntKind.i64.wrap (K5 + 1) = K6 := by rw [k6]; exact wrap_i64 (by omega) (by omega)
    simp only [← k0] at h1 e5 e6 e7 e8 e9 e10
    rw [show K0 + 1 = K1 by omega] at e6
    rw [show K0 + 2 = K2 by omega] at e7
    rw [show K0 + 3 = K3 by omega] at e8
    rw [show K0 + 4 = K4 by omega] at e9
    rw [show K0 + 5 = K5 by omega] at e10
    have hw := wrap1 (i := i) (by omega)
    have hK : K6 = k + 6 * ((i : Int) + 1) := by omega
    simp [claws_heldGiveBoxS_L0, h0, h1, h5, hsl, hin, e1, e2, e5, e6, e7, e8, e9, e10, w0, w1, w2, w3, w4, w5, hw]
    exact hK
  · rintro ⟨T, s⟩ ⟨h0, h1, h5, rfl⟩
    simp only at h0 h1 h5
    simp [claws_heldGiveBoxS_L0, h0, h1, h5, hsl]

end Go.Abs

/-
  The exact laws of GiveNear and GiveCut, over what their functions compute.
-/

namespace Go.Abs
set_option linter.unusedSimpArgs false
set_option linter.unusedVariables false
attribute [local simp] AW_skip AW_exit AW_ret AW_seq AW_block AW_cond CW_ite AW_reg AW_regD RW_nil RW_cons RW_guard GW_t GW_f GW_gt GW_gf GW_tup GY_some GY_tt GY_ff gd_t gd_f pk_t pk_f pk_and pk_or pk_andc pk_orc pk_bool gd_gd SW_some ThenQ_normal ThenQ_exit ThenQ_ret BlockQ_normal BlockQ_exit BlockQ_ret kill_nil kill_cons killT_at killL_at upo_some upo_none ev_t ev_k FinQ_ret FinQ_normal upd_eq upd_ne argsT_zero argsT_succ aop.eq_1 aop_pick aop.eq_3 aop.eq_4 aop.eq_5 aop.eq_6 aop.eq_7 aop.eq_8 aop.eq_9 aop.eq_10 aop.eq_11 aop.eq_12 aop.eq_13 aop.eq_14 aop.eq_15 aop.eq_16 aop.eq_17 aop.eq_18 aop.eq_19 aop.eq_20 aop.eq_21 aop_slice_hi aop_slice_lo aop.eq_23 aop.eq_24 aop.eq_26 aop.eq_27 aop.eq_28 aop.eq_29 aop.eq_31 aop.eq_32 aop_maxs2 aop_mins2 aop_mins3 aop_len aop_iaddr Av.bool? Av.ptr? Av.int? Av.int64? Av.str? Av.agg? ressA resA resOf noLoc_int noLoc_bool noLoc_str noLoc_nils noLoc_nilp noLoc_ptrl noLoc_ptrr noLoc_sll noLoc_slr noLoc_fn noLoc_tc noLoc_tagg noLoc_av noLoc_atup ce_c tv_v cells_c cells_agg noLocs keyLoc evs callA St.set St.get unAv binCe killV_int killV_bool killV_str killV_nils killV_nilp killV_agg killV_no killV_tup killV_ptrl killV_ptrr killV_sll killV_slr killV_fn killV_noLoc fillA repl
attribute [local congr] GY_congr
theorem toBoxes {S : Nat → Prop} (h : Heap) (c : Ce) (l : List Box) (ho : HOk h) (hc : RdF fBox S h c l) (hl : l.length ≤ 1048576) :
    ∃ c' h', Flaws_toGiveBoxS [.v (.c c)] h = some (.v (.c c'), h') ∧ NewF fBox h h' c' l [h.nx] ∧ h'.nx = h.nx + 1 :=
  ⟨_, _, laws_toGiveBoxS h c l ho hc hl, NewF.push ho l _ rfl, rfl⟩
theorem NewF.rd {α : Type} {F : Fl α} {h h' : Heap} {c : Ce} {l : List α} {fp : List Nat} (n : NewF F h h' c l fp) (hl : l.length ≤ 9223372036854775807) : RdF F (fun b => h.nx ≤ b ∧ b < h'.nx) h' c l :=
  n.own.rd hl fun b hb => ⟨n.ge b hb, n.own.lt n.fr.ok hb⟩
theorem NewF.lt {α : Type} {F : Fl α} {h h' : Heap} {c : Ce} {l : List α} {fp : List Nat} (n : NewF F h h' c l fp) {b : Nat} (hb : b ∈ fp) : b < h'.nx := n.own.lt n.fr.ok hb

theorem laws_FnExactGiveCut (h : Heap) (c : Ce) (l : List Box) (k : Int) (ho : HOk h) (hc : RdF fBox (fun b => b < h.nx) h c l) (hk : -9223372036854775808 ≤ k ∧ k ≤ 9223372036854775807) :
    ∃ h', Flaws_FnExactGiveCut [.v (.c c), .v (.c (.int .i64 k))] h = some (.v (.c (.bool true)), h') := by
  unfold Flaws_FnExactGiveCut
  have s1 := laws_szGiveBoxS h c l 1048576 hc (by omega)
  by_cases hb : (1048576 : Int) < l.length
  · rw [if_pos hb] at s1
    refine ⟨_, runF_eq (h' := h) ?_⟩
    simp [claws_FnExactGiveCut, elaws_FnExactGiveCut_laws_szGiveBoxS, s1, hc.noLoc]
  rw [if_neg hb] at s1
  have n1 : ¬ (1048576 : Int) - l.length < 0 := by omega
  have hl : l.length ≤ 1048576 := by omega
  have hcl := cutB_le k l
  obtain ⟨c1, h1, t1, m1, z1⟩ := toBoxes h c l ho hc hl
  obtain ⟨w, h2, fw, t2, m2⟩ := spec_GiveCut h1 c1 l k m1.fr.ok (m1.rd (by omega)) hl
  have f2 := m1.fr.trans m2.fr
  have w2 := m2.rd (by omega)
  obtain ⟨x, h3, t3, m3, z3⟩ := toBoxes h2 c l f2.ok (hc.keep ho f2) hl
  have f3 := f2.trans m3.fr
  obtain ⟨g, h4, fg, t4, m4⟩ := impl_GiveCut h3 x l k m3.fr.ok (m3.rd (by omega)) hl
  have f4 := f3.trans m4.fr
  have w4 := (w2.keep m2.fr.ok m3.fr).keep m3.fr.ok m4.fr
  obtain ⟨q1, e1, b1⟩ := laws_eqGiveBoxS h4 g w _ _ (m4.rd (by omega)) w4
  obtain rfl := b1.2 rfl
  obtain ⟨c5, h5, t5, m5, z5⟩ := toBoxes h4 c l f4.ok (hc.keep ho f4) hl
  have f5 := f4.trans m5.fr
  have x5 := (m3.own.chg m3.fr.ok m4.fr.chg (fp := []) (by simp)).chg m4.fr.ok m5.fr.chg (fp := []) (by simp)
  have g5 := m4.own.chg m4.fr.ok m5.fr.chg (fp := []) (by simp)
  obtain ⟨q2, e2, b2⟩ := laws_eqGiveBoxS h5 x c5 _ _ (x5.rd (S := fun _ => True) (by omega) (by simp)) (m5.rd (by omega))
  obtain rfl := b2.2 rfl
  obtain ⟨h6, t6, x6, d6⟩ := laws_markGiveBoxS h5 x l _ 1 m5.fr.ok x5 hl (by omega)
  have lt3 : ∀ b, b ∈ fg → b ∉ [h2.nx] := by
    intro b hb hn
    have h1 := m4.ge b hb
    have h2 := m3.lt hn
    omega
  have g6 := g5.chg m5.fr.ok d6 lt3
  have w6 := (w4.keep m4.fr.ok m5.fr).chg m5.fr.ok d6 (by
    rintro b ⟨_, hb⟩ hn
    have := m3.ge b hn
    omega)
  obtain ⟨q3, e3, b3⟩ := laws_eqGiveBoxS h6 g w _ _ (g6.rd (S := fun b => b ∈ fg) (by omega) (fun b hb => hb)) w6
  obtain rfl := b3.2 rfl
  obtain ⟨h7, t7, g7, d7⟩ := laws_markGiveBoxS h6 g _ fg 1 d6.ok g6 (by omega) (by omega)
  have u7 := laws_heldGiveBoxS h7 g (cutB k l).length 1 (g7.rd (S := fun b => b ∈ fg) (by rw [marksBox_length]; omega) (fun b hb => hb)) (by omega) (by omega)
  have w7 := w6.chg d6.ok d7 (by
    rintro b ⟨_, hb⟩ hn
    have h1 := m4.ge b hn
    have := m3.fr.nx
    omega)
  have c7 := ((hc.keep ho f5).chg f5.ok d6 (by
    intro b hb hn
    have h1 := m3.ge b hn
    have h2 : b < h.nx := hb
    have := f2.nx
    omega)).chg d6.ok d7 (by
    intro b hb hn
    have h1 := m4.ge b hn
    have h2 : b < h.nx := hb
    have := f3.nx
    omega)
  obtain ⟨c8, h8, t8, m8, z8⟩ := toBoxes h7 c l d7.ok c7 hl
  obtain ⟨r9, h9, f9, t9, m9⟩ := impl_GiveCut h8 c8 l k m8.fr.ok (m8.rd (by omega)) hl
  obtain ⟨q4, e4, b4⟩ := laws_eqGiveBoxS h9 r9 w _ _ (m9.rd (by omega)) ((w7.keep d7.ok m8.fr).keep m8.fr.ok m9.fr)
  obtain rfl := b4.2 rfl
  have g9 := (g7.chg d7.ok m8.fr.chg (fp := []) (by simp)).chg m8.fr.ok m9.fr.chg (fp := []) (by simp)
  have u9 := laws_heldGiveBoxS h9 g (cutB k l).length 1 (g9.rd (S := fun b => b ∈ fg) (by rw [marksBox_length]; omega) (fun b hb => hb)) (by omega) (by omega)
  have n2 : ¬ (1 : Int) + 6 * l.length < 0 := by omega
  have n3 : ¬ (1 : Int) + 6 * (cutB k l).length < 0 := by omega
  refine ⟨_, runF_eq (h' := h9) ?_⟩
  simp [claws_FnExactGiveCut, elaws_FnExactGiveCut_laws_szGiveBoxS, elaws_FnExactGiveCut_spec_GiveCut, elaws_FnExactGiveCut_laws_toGiveBoxS, elaws_FnExactGiveCut_impl_GiveCut, elaws_FnExactGiveCut_laws_eqGiveBoxS, elaws_FnExactGiveCut_laws_markGiveBoxS, elaws_FnExactGiveCut_laws_heldGiveBoxS, s1, hc.noLoc, m1.own.noLoc, m2.own.noLoc, m3.own.noLoc, m4.own.noLoc, m5.own.noLoc, m8.own.noLoc, m9.own.noLoc, n1, n2, n3, t1, t2, t3, t4, e1, t5, e2, t6, e3, t7, u7, t8, t9, e4, u9]
end Go.Abs

/-
  Runways and tubes: what the functions compute.
-/

namespace Go.Abs
set_option linter.unusedSimpArgs false
set_option linter.unusedVariables false
attribute [local simp] AW_skip AW_exit AW_ret AW_seq AW_block AW_cond CW_ite AW_reg AW_regD RW_nil RW_cons RW_guard GW_t GW_f GW_gt GW_gf GW_tup GY_some GY_tt GY_ff gd_t gd_f pk_t pk_f pk_and pk_or pk_andc pk_orc pk_bool gd_gd SW_some ThenQ_normal ThenQ_exit ThenQ_ret BlockQ_normal BlockQ_exit BlockQ_ret kill_nil kill_cons killT_at killL_at upo_some upo_none ev_t ev_k FinQ_ret FinQ_normal upd_eq upd_ne argsT_zero argsT_succ aop.eq_1 aop_pick aop.eq_3 aop.eq_4 aop.eq_5 aop.eq_6 aop.eq_7 aop.eq_8 aop.eq_9 aop.eq_10 aop.eq_11 aop.eq_12 aop.eq_13 aop.eq_14 aop.eq_15 aop.eq_16 aop.eq_17 aop.eq_18 aop.eq_19 aop.eq_20 aop.eq_21 aop_slice_hi aop_slice_lo aop.eq_23 aop.eq_24 aop.eq_26 aop.eq_27 aop.eq_28 aop.eq_29 aop.eq_31 aop.eq_32 aop_maxs2 aop_mins2 aop_mins3 aop_len aop_iaddr Av.bool? Av.ptr? Av.int? Av.int64? Av.str? Av.agg? ressA resA resOf noLoc_int noLoc_bool noLoc_str noLoc_nils noLoc_nilp noLoc_ptrl noLoc_ptrr noLoc_sll noLoc_slr noLoc_fn noLoc_tc noLoc_tagg noLoc_av noLoc_atup ce_c tv_v cells_c cells_agg noLocs keyLoc evs callA St.set St.get unAv binCe killV_int killV_bool killV_str killV_nils killV_nilp killV_agg killV_no killV_tup killV_ptrl killV_ptrr killV_sll killV_slr killV_fn killV_noLoc fillA repl
attribute [local congr] GY_congr

theorem laws_szGiveField (h : Heap) (f : Fld) (k : Int) (hw : SzS f.name) (hk : 0 ≤ k ∧ k ≤ 1048576) :
    ∃ r, Flaws_szGiveField [.v (.agg (fField.ces f)), .v (.c (.int .i64 k))] h = some (.v (.c (.int .i64 r)), h) ∧ Left k r := by
  unfold Flaws_szGiveField
  have e := sub_left (n := f.name.size) hk hw
  by_cases hb : k < f.name.size
  · have e1 : k - (f.name.size : Int) < 0 := by omega
    refine ⟨-1, runF_eq ?_, .inl rfl⟩
    simp [claws_szGiveField, fField, e, e1]
  · have e1 : ¬ k - (f.name.size : Int) < 0 := by omega
    refine ⟨k - f.name.size, runF_eq ?_, .inr (by omega)⟩
    simp [claws_szGiveField, fField, e, e1]

theorem laws_szGiveFieldS {S : Nat → Prop} (h : Heap) (c : Ce) (l : List Fld) (k : Int) (hc : RdF fField S h c l) (hw : ∀ f, f ∈ l → SzS f.name) (hk : 0 ≤ k ∧ k ≤ 1048576) :
    ∃ r, Flaws_szGiveFieldS [.v (.c c), .v (.c (.int .i64 k))] h = some (.v (.c (.int .i64 r)), h) ∧ Left k r ∧ (0 ≤ r → l.length ≤ 1048576) := by
  unfold Flaws_szGiveFieldS
  have hl := hc.le
  have e := sub_left (n := l.length) hk hl
  have A := laws_szGiveField
  simp only [fField] at A
  obtain ⟨v, h', h1, r, rfl, rfl, h2⟩ := runF_of (env := elaws_szGiveFieldS) (code := claws_szGiveFieldS) (rs := [.t 4]) (args := [.v (.c c), .v (.c (.int .i64 k))]) (h := h) (K := fun v h' => ∃ r, v = .v (.c (.int .i64 r)) ∧ h' = h ∧ Left k r ∧ (0 ≤ r → l.length ≤ 1048576)) (by
    by_cases hb : k < l.length
    · have e1 : k - (l.length : Int) < 0 := by omega
      simp [claws_szGiveFieldS, hc.slen, e, e1]
      exact .inl rfl
    · have e1 : ¬ k - (l.length : Int) < 0 := by omega
      simp [claws_szGiveFieldS, hc.slen, hc.noLoc, e, e1]
      refine AW_loop (fun i x => i ≤ l.length ∧ x.1 0 = .v (.c c) ∧ x.1 5 = .v (.c (.int .i64 i)) ∧ x.2 = ⟨h, nol⟩ ∧ ∃ r, x.1 1 = .v (.c (.int .i64 r)) ∧ 0 ≤ r ∧ r ≤ k) l.length (by simp; omega) ?_
      rintro i ⟨T, s⟩ hi ⟨_, h0, h5, rfl, r, h1, hr⟩
      simp only at h0 h1 h5
      by_cases hin : i < l.length
      · obtain ⟨eb, ep, er, e1, _, e2, e3, e4, e5, e6, e7⟩ := hc.field hin
        have hw1 := wrap1 (i := i) (by omega)
        obtain ⟨r', A1, A2⟩ := A h l[i] r (hw _ (List.getElem_mem hin)) (by omega)
        rcases A2 with rfl | A2
        · simp [claws_szGiveFieldS_L0, h0, h1, h5, hc.slen, hin, e1, e2, e3, e4, elaws_szGiveFieldS_laws_szGiveField, A1, hw1]
          exact .inl rfl
        · have A3 : ¬ r' < 0 := by omega
          simp [claws_szGiveFieldS_L0, h0, h1, h5, hc.slen, hin, e1, e2, e3, e4, elaws_szGiveFieldS_laws_szGiveField, A1, A3, hw1]
          omega
      · have hie : i = l.length := by omega
        subst hie
        simp [claws_szGiveFieldS_L0, h0, h1, h5, hc.slen]
        exact ⟨.inr hr, fun _ => by omega⟩)
  exact ⟨r, h1, h2⟩

def zField : Fld := ⟨⟨#[]⟩, 0, 0⟩
theorem laws_toGiveField (h : Heap) (b : Fld) : Flaws_toGiveField [.v (.agg (fField.ces b))] h = some (.v (.agg (fField.ces b)), h) := by
  unfold Flaws_toGiveField
  refine runF_eq ?_
  simp [claws_toGiveField, fField]
theorem laws_toGiveFieldS {S : Nat → Prop} (h : Heap) (c : Ce) (l : List Fld) (ho : HOk h) (hc : RdF fField S h c l) (hl : l.length ≤ 1048576) :
    Flaws_toGiveFieldS [.v (.c c)] h = some (.v (.c (.sl (.inr h.nx) 0 l.length .own)), h.push ⟨fField.all l, 3, true⟩) := by
  unfold Flaws_toGiveFieldS
  have A := laws_toGiveField
  simp only [fField] at A
  have hz : (List.replicate l.length [.str ⟨#[]⟩, .int .i64 0, .int .i64 0]).flatten = fField.all (List.replicate l.length zField) := fField.all_repl _ zField
  refine runF_eq ?_
  simp [claws_toGiveFieldS, hc.slen, hc.noLoc, lim, show (l.length : Int) ≤ 4294967296 by omega, hz]
  refine AW_each l.length (fun i x => x.1 0 = .v (.c c) ∧ x.1 3 = .v (.c (.sl (.inr h.nx) 0 l.length .own)) ∧ x.1 4 = .v (.c (.int .i64 i)) ∧ x.2 = ⟨h.push ⟨fField.all (l.take i ++ List.replicate (l.length - i) zField), 3, true⟩, nol⟩) (by simp [St.push]) ?_ ?_
  · rintro i ⟨T, s⟩ hin ⟨h0, h3, h4, rfl⟩
    simp only at h0 h3 h4
    obtain ⟨eb, ep, er, e1, _, e2, e3, e4, e5, e6, e7⟩ := hc.field hin
    have hne : eb ≠ h.nx := by have := ho.lt e2; omega
    have hlen : (fField.all (l.take i ++ List.replicate (l.length - i) zField)).length = l.length * 3 := by rw [fField.all_length]; simp [fField]; omega
    have hcut := fField.all_put (l.take i ++ List.replicate (l.length - i) zField) (i := i) (by simp; omega) l[i]
    rw [take_repl_put l zField hin] at hcut
    simp only [fField] at hcut hlen
    have hw := wrap1 (i := i) (by omega)
    have he2 : (Ce.sl (Sum.inr h.nx) 0 l.length .own).eltAt 3 i = some (.inr h.nx, i * 3) := by simp [Ce.eltAt, hin]
    have hfit : i * 3 + 3 ≤ l.length * 3 := by omega
    simp [claws_toGiveFieldS_L0, h0, h3, h4, hc.slen, hin, e1, e2, Heap.push, upd, hne, e3, e4, elaws_toGiveFieldS_laws_toGiveField, A, he2, hlen, hfit, hw, fField]
    rw [← hcut]
    exact upd_upd _ _ _ _
  · rintro ⟨T, s⟩ ⟨h0, h3, h4, rfl⟩
    simp only at h0 h3 h4
    simp [claws_toGiveFieldS_L0, h0, h3, h4, hc.slen]

def eqField (a b : Fld) : Bool := a.name.toList == b.name.toList && a.x == b.x && a.y == b.y
theorem eqField_iff (a b : Fld) : eqField a b = true ↔ a = b := by
  cases a; cases b
  simp [eqField, and_assoc, bytes_eq]
theorem laws_eqGiveField (h : Heap) (a b : Fld) : Flaws_eqGiveField [.v (.agg (fField.ces a)), .v (.agg (fField.ces b))] h = some (.v (.c (.bool (eqField a b))), h) := by
  unfold Flaws_eqGiveField eqField
  refine runF_eq ?_
  simp +contextual [claws_eqGiveField, fField]

theorem laws_eqGiveFieldS {S S' : Nat → Prop} (h : Heap) (c c' : Ce) (l l' : List Fld) (hc : RdF fField S h c l) (hc' : RdF fField S' h c' l') :
    ∃ r, Flaws_eqGiveFieldS [.v (.c c), .v (.c c')] h = some (.v (.c (.bool r)), h) ∧ (r = true ↔ l = l') := by
  unfold Flaws_eqGiveFieldS
  have hl := hc.le
  have A := laws_eqGiveField
  simp only [fField] at A
  obtain ⟨v, h', h1, r, rfl, rfl, h2⟩ := runF_of (env := elaws_eqGiveFieldS) (code := claws_eqGiveFieldS) (rs := [.t 4]) (args := [.v (.c c), .v (.c c')]) (h := h) (K := fun v h' => ∃ r, v = .v (.c (.bool r)) ∧ h' = h ∧ (r = true ↔ l = l')) (by
    by_cases hlen : l.length = l'.length
    · simp [claws_eqGiveFieldS, hc.slen, hc'.slen, hc.noLoc, hlen]
      refine AW_for1 l.length (fun i => !eqField (l.getD i default) (l'.getD i default)) (fun i x => x.1 0 = .v (.c c) ∧ x.1 1 = .v (.c c') ∧ x.1 5 = .v (.c (.int .i64 i)) ∧ x.2 = ⟨h, nol⟩) (by simp) ?_ ?_
      · rintro i ⟨T, s⟩ hin _ ⟨h0, h1, h5, rfl⟩
        simp only at h0 h1 h5
        have hin' : i < l'.length := by omega
        obtain ⟨eb, ep, er, e1, _, e2, e3, e4, e5, e6, e7⟩ := hc.field hin
        obtain ⟨fb, fp, fr, f1, _, f2, f3, f4, f5, f6, f7⟩ := hc'.field hin'
        have hw := wrap1 (i := i) (by omega)
        simp +contextual [claws_eqGiveFieldS_L0, h0, h1, h5, hc.slen, hin, hin', e1, e2, e3, e4, f1, f2, f3, f4, elaws_eqGiveFieldS_laws_eqGiveField, A, hw]
        rintro hb rfl
        rw [(eqField_iff _ _).2 rfl] at hb
        cases hb
      · rintro ⟨T, s⟩ hno ⟨h0, h1, h5, rfl⟩
        simp only at h0 h1 h5
        have hll : l = l' := by
          apply List.ext_getElem hlen
          intro j hj hj'
          exact (eqField_iff _ _).1 (by simpa [hj, hj'] using hno j hj)
        simp [claws_eqGiveFieldS_L0, h0, h1, h5, hc.slen, hll]
    · have hne : l ≠ l' := fun e => hlen (by rw [e])
      have : ¬ (l.length : Int) = l'.length := by omega
      simp [claws_eqGiveFieldS, hc.slen, hc'.slen, hlen, this, hne])
  exact ⟨r, h1, h2⟩


theorem spec_l1Next (h : Heap) (a b : Box) : Fspec_l1Next [.v (.agg (fBox.ces a)), .v (.agg (fBox.ces b))] h = some (.v (.c (.bool (nextB a b))), h) := by
  unfold Fspec_l1Next nextB wrap64
  refine runF_eq ?_
  simp +contextual [cspec_l1Next, fBox, espec_l1Next_spec_l1In, spec_l1In, Bool.and_assoc]
theorem spec_l1Ground {S : Nat → Prop} (h : Heap) (c : Ce) (l : List Fld) (b : Box) (hc : RdF fField S h c l) :
    Fspec_l1Ground [.v (.c c), .v (.agg (fBox.ces b))] h = some (.v (.c (.bool (groundB l b))), h) := by
  unfold Fspec_l1Ground
  have hl := hc.le
  refine runF_eq ?_
  simp [cspec_l1Ground, hc.noLoc, fBox]
  refine AW_for1 l.length (fun i => (l.getD i default).x == b.x && (l.getD i default).y == b.y && b.low == 0) (fun i x => x.1 0 = .v (.c c) ∧ x.1 3 = .v (.c (.ptr (.inl 3) 0)) ∧ x.2.lc 3 = some ⟨fBox.ces b, 6, true⟩ ∧ x.1 5 = .v (.c (.int .i64 i)) ∧ x.2.h = h) (by simp [fBox, hc.noLoc]) ?_ ?_
  · rintro i ⟨T, ⟨h', lc⟩⟩ hin _ ⟨h0, h3, hl3, h5, hs⟩
    simp only [fBox] at h0 h3 hl3 h5 hs
    subst hs
    obtain ⟨eb, ep, er, e1, _, e2, e3, e4, e5, e6, e7⟩ := hc.field hin
    have hw := wrap1 (i := i) (by omega)
    have fin : l[i].x = b.x → l[i].y = b.y → b.low = 0 → groundB l b = true := fun k1 k2 k3 => any_of hin (by simp [k1, k2, k3])
    simp +contextual [cspec_l1Ground_L0, h0, h3, hl3, h5, hc.slen, hin, e1, e2, e3, e5, e6, e7, hw, fin, fBox]
  · rintro ⟨T, ⟨h', lc⟩⟩ hno ⟨h0, h3, hl3, h5, hs⟩
    simp only at h0 h3 hl3 h5 hs
    subst hs
    have : groundB l b = false := any_no (fun j hj => by simpa [hj] using hno j hj)
    simp [cspec_l1Ground_L0, h0, h5, hc.slen, this]
theorem impl_isField {S : Nat → Prop} (h : Heap) (c : Ce) (l : List Fld) (x y : Int) (hc : RdF fField S h c l) :
    Fimpl_isField [.v (.c c), .v (.c (.int .i64 x)), .v (.c (.int .i64 y))] h = some (.v (.c (.bool (isFieldB l x y))), h) := by
  unfold Fimpl_isField
  have hl := hc.le
  refine runF_eq ?_
  simp [cimpl_isField, hc.slen]
  refine AW_for1 l.length (fun i => (l.getD i default).x == x && (l.getD i default).y == y) (fun i s => s.1 1 = .v (.c (.int .i64 x)) ∧ s.1 2 = .v (.c (.int .i64 y)) ∧ s.1 9 = .v (.c c) ∧ s.1 10 = .v (.c (.int .i64 l.length)) ∧ s.1 11 = .v (.c (.int .i64 i)) ∧ s.2.h = h) (by simp) ?_ ?_
  · rintro i ⟨T, ⟨h', lc⟩⟩ hin _ ⟨h1, h2, h9, h10, h11, hs⟩
    simp only at h1 h2 h9 h10 h11 hs
    subst hs
    obtain ⟨eb, ep, er, e1, _, e2, e3, e4, e5, e6, e7⟩ := hc.field hin
    have hw := wrap1 (i := i) (by omega)
    have fin : l[i].x = x → l[i].y = y → isFieldB l x y = true := fun k1 k2 => any_of hin (by simp [k1, k2])
    simp +contextual [cimpl_isField_L0, h1, h2, h9, h10, h11, hc.noLoc, hin, e1, e2, e3, e4, hw, fin]
  · rintro ⟨T, ⟨h', lc⟩⟩ hno ⟨h1, h2, h9, h10, h11, hs⟩
    simp only at h1 h2 h9 h10 h11 hs
    subst hs
    have : isFieldB l x y = false := any_no (fun j hj => by simpa [hj] using hno j hj)
    simp [cimpl_isField_L0, h10, h11, this]
theorem wrap_nat {n : Nat} (h : n ≤ 9223372036854775807) : IntKind.i64.wrap (n : Int) = n := wrap_i64 (by omega) (by omega)
theorem inB_len {n : Nat} : inB (n : Int) 1 40 = (decide (1 ≤ n) && decide (n ≤ 40)) := by
  unfold inB
  congr 1 <;> (rw [Bool.eq_iff_iff]; simp; try omega)
theorem spec_GiveTubeOk {S S' : Nat → Prop} (h : Heap) (cf c : Ce) (fs : List Fld) (l : List Box) (hf : RdF fField S h cf fs) (hc : RdF fBox S' h c l) :
    Fspec_GiveTubeOk [.v (.c cf), .v (.c c)] h = some (.v (.c (.bool (tubeOkB fs l))), h) := by
  unfold Fspec_GiveTubeOk
  have hl := hc.le
  have A := spec_l1BoxOk
  have B := spec_l1Next
  have C := fun b => spec_l1Ground h cf fs b hf
  simp only [fBox] at A B C
  refine runF_eq ?_
  by_cases h1 : 1 ≤ l.length
  · by_cases h2 : l.length ≤ 40
    · have e0 : inB (l.length : Int) 1 40 = true := by rw [inB_len]; simp [h1, h2]
      simp [cspec_GiveTubeOk, hc.slen, hc.noLoc, hf.noLoc, espec_GiveTubeOk_spec_l1In, spec_l1In, e0]
      refine AW_for1 l.length (fun i => !stepB l i) (fun i x => x.1 0 = .v (.c cf) ∧ x.1 1 = .v (.c c) ∧ x.1 5 = .v (.c (.int .i64 i)) ∧ x.2 = ⟨h, nol⟩) (by simp) ?_ ?_
      · rintro i ⟨T, s⟩ hin _ ⟨h0, h1', h5, rfl⟩
        simp only at h0 h1' h5
        obtain ⟨eb, ep, er, e1, _, e2, e3, e4, _⟩ := hc.box hin
        have hw := wrap1 (i := i) (by omega)
        have fin : stepB l i = false → tubeOkB fs l = false := fun k => by simp [tubeOkB, allN_no hin k]
        rcases i with _ | k
        · simp only [stepB] at fin ⊢
          simp at e1 hw
          simp [hin] at fin
          cases hk : okB l[0] <;> simp [hk] at fin <;> simp [cspec_GiveTubeOk_L0, h0, h1', h5, hc.slen, hin, e1, e2, e3, e4, espec_GiveTubeOk_spec_l1BoxOk, espec_GiveTubeOk_spec_l1Next, A, hw, hk, fin]
        · obtain ⟨gb, gp, gr, g1, _, g2, g3, g4, _⟩ := hc.box (show k < l.length by omega)
          have hk0 := wrap_nat (n := k) (by omega)
          have hkl : k < l.length := by omega
          have hin' : (k : Int) + 1 < l.length := by omega
          simp only [stepB] at fin ⊢
          simp at e1 hw
          simp [hin, hkl] at fin
          cases hk : okB l[k + 1] <;> cases hn : nextB l[k] l[k + 1] <;> simp [hk, hn] at fin <;> simp [cspec_GiveTubeOk_L0, h0, h1', h5, hc.slen, hin, hin', hkl, e1, e2, e3, e4, g1, g2, g3, g4, espec_GiveTubeOk_spec_l1BoxOk, espec_GiveTubeOk_spec_l1Next, A, B, hw, hk0, hk, hn, fin]
      · rintro ⟨T, s⟩ hno ⟨h0, h1', h5, rfl⟩
        simp only at h0 h1' h5
        obtain ⟨k, hk⟩ : ∃ k, l.length = k + 1 := ⟨l.length - 1, by omega⟩
        have hkl : k < l.length := by omega
        obtain ⟨eb, ep, er, e1, _, e2, e3, e4, _⟩ := hc.box hkl
        have hk0 := wrap_nat (n := k) (by omega)
        have fin : tubeOkB fs l = groundB fs l[k] := by
          have : allN l.length (stepB l) = true := allN_of fun j hj => by simpa using hno j hj
          have e : l.getD (l.length - 1) default = l[k] := by simp [hk, hkl]
          unfold tubeOkB
          rw [this, e]
          simp [h1, h2]
        simp [cspec_GiveTubeOk_L0, h0, h1', h5, hc.slen, hc.noLoc, hf.noLoc, hk, e1, e2, e3, e4, espec_GiveTubeOk_spec_l1Ground, C, hk0, fin]
    · have e0 : inB (l.length : Int) 1 40 = false := by rw [inB_len]; simp [h2]
      have e1 : tubeOkB fs l = false := by simp [tubeOkB, h2]
      simp [cspec_GiveTubeOk, hc.slen, hc.noLoc, hf.noLoc, espec_GiveTubeOk_spec_l1In, spec_l1In, e0, e1]
  · have e0 : inB (l.length : Int) 1 40 = false := by rw [inB_len]; simp [h1]
    have e1 : tubeOkB fs l = false := by simp [tubeOkB, h1]
    simp [cspec_GiveTubeOk, hc.slen, hc.noLoc, hf.noLoc, espec_GiveTubeOk_spec_l1In, spec_l1In, e0, e1]
theorem next_iff (a b : Box) (ha : okB a = true) (hb : okB b = true) : nextB a b = true ↔ inB (IntKind.i64.wrap (b.x - a.x)) (-1) 1 = true ∧ inB (IntKind.i64.wrap (b.y - a.y)) (-1) 1 = true ∧ max2 a.low b.low ≤ min2 a.high b.high ∧ a.tin ≤ b.tin ∧ a.tout ≤ b.tout ∧ b.tin ≤ IntKind.i64.wrap (a.tout + 1) := by
  simp only [okB, inB, Bool.and_eq_true, decide_eq_true_eq] at ha hb
  have e1 : wrap64 (a.x - b.x) = a.x - b.x := wrap64_id (by omega) (by omega)
  have e2 : wrap64 (a.y - b.y) = a.y - b.y := wrap64_id (by omega) (by omega)
  have e3 : IntKind.i64.wrap (b.x - a.x) = b.x - a.x := wrap_i64 (by omega) (by omega)
  have e4 : IntKind.i64.wrap (b.y - a.y) = b.y - a.y := wrap_i64 (by omega) (by omega)
  unfold nextB
  rw [e1, e2, e3, e4, max2_eq, min2_eq]
  simp only [inB, Bool.and_eq_true, decide_eq_true_eq, wrap64]
  constructor
  · rintro ⟨⟨⟨⟨⟨⟨a1, a2⟩, a3⟩, a4⟩, a5⟩, a6⟩, a7⟩
    refine ⟨⟨?_, ?_⟩, ⟨?_, ?_⟩, ?_, a5, a6, of_decide_eq_true a7⟩ <;> omega
  · rintro ⟨⟨a1, a2⟩, ⟨a3, a4⟩, a5, a6, a7, a8⟩
    refine ⟨⟨⟨⟨⟨⟨⟨?_, ?_⟩, ⟨?_, ?_⟩⟩, ?_⟩, ?_⟩, a6⟩, a7⟩, decide_eq_true a8⟩ <;> omega
theorem impl_GiveTubeOk {S S' : Nat → Prop} (h : Heap) (cf c : Ce) (fs : List Fld) (l : List Box) (hf : RdF fField S h cf fs) (hc : RdF fBox S' h c l) :
    Fimpl_GiveTubeOk [.v (.c cf), .v (.c c)] h = some (.v (.c (.bool (tubeOkB fs l))), h) := by
  unfold Fimpl_GiveTubeOk
  have hl := hc.le
  have A := impl_boxOk
  have C := fun x y => impl_isField h cf fs x y hf
  simp only [fBox] at A
  refine runF_eq ?_
  by_cases h1 : 1 ≤ l.length
  · by_cases h2 : l.length ≤ 40
    · have e0 : inB (l.length : Int) 1 40 = true := by rw [inB_len]; simp [h1, h2]
      simp [cimpl_GiveTubeOk, hc.slen, hc.noLoc, hf.noLoc, eimpl_GiveTubeOk_impl_in, impl_in, e0]
      refine AW_for1 l.length (fun i => !stepB l i) (fun i x => x.1 0 = .v (.c cf) ∧ x.1 1 = .v (.c c) ∧ x.1 13 = .v (.c c) ∧ x.1 14 = .v (.c (.int .i64 l.length)) ∧ x.1 15 = .v (.c (.int .i64 i)) ∧ x.2.h = h) (by simp) ?_ ?_
      · rintro i ⟨T, ⟨h', lc⟩⟩ hin hpre ⟨h0, h1', h13, h14, h15, hs⟩
        simp only at h0 h1' h13 h14 h15 hs
        subst hs
        obtain ⟨eb, ep, er, e1, _, e2, e3, e4, _⟩ := hc.box hin
        have hw := wrap1 (i := i) (by omega)
        have fin : stepB l i = false → tubeOkB fs l = false := fun k => by simp [tubeOkB, allN_no hin k]
        rcases i with _ | k
        · simp only [stepB] at fin ⊢
          simp at e1 hw
          simp [hin] at fin
          cases hk : okB l[0] <;> simp [hk] at fin <;> simp [cimpl_GiveTubeOk_L0, h0, h1', h13, h14, h15, hc.slen, hc.noLoc, hf.noLoc, hin, e1, e2, e3, e4, eimpl_GiveTubeOk_impl_boxOk, A, hw, hk, fin]
        · obtain ⟨gb, gp, gr, g1, _, g2, g3, g4, _⟩ := hc.box (show k < l.length by omega)
          have hk0 := wrap_nat (n := k) (by omega)
          have hkl : k < l.length := by omega
          have hin' : (k : Int) + 1 < l.length := by omega
          have hpk := hpre k (by omega)
          have okk : okB l[k] = true := by
            simp only [stepB, hkl, List.getD_eq_getElem?_getD, List.getElem?_eq_getElem, Option.getD_some] at hpk
            cases ho : okB l[k]
            · simp [ho] at hpk
            · rfl
          simp only [stepB] at fin ⊢
          simp at e1 hw
          simp [hin, hkl] at fin
          have hne : ¬ ((k : Int) + 1 = 0) := by omega
          cases hk : okB l[k + 1]
          · simp [hk] at fin
            simp [cimpl_GiveTubeOk_L0, h0, h1', h13, h14, h15, hc.slen, hc.noLoc, hf.noLoc, hin, hin', hkl, e1, e2, e3, e4, eimpl_GiveTubeOk_impl_boxOk, A, hw, hk, fin]
          · simp [hk] at fin
            simp +contextual (maxSteps := 1000000) [cimpl_GiveTubeOk_L0, h0, h1', h13, h14, h15, hc.slen, hc.noLoc, hf.noLoc, hin, hin', hkl, hne, e1, e2, e3, e4, g1, g2, g3, g4, eimpl_GiveTubeOk_impl_boxOk, eimpl_GiveTubeOk_impl_in, impl_in, A, hw, hk0, hk]
            have nx := next_iff l[k] l[k + 1] okk hk
            refine ⟨fun hb => ?_, fun a1 a2 a3 a4 a5 a6 => nx.2 ⟨a1, a2, a3, a4, a5, a6⟩⟩
            have hn : nextB l[k] l[k + 1] = false := by
              cases hn : nextB l[k] l[k + 1]
              · rfl
              · obtain ⟨a1, a2, a3, a4, a5, a6⟩ := nx.1 hn
                rcases hb with ((((hb | hb) | hb) | hb) | hb) | hb
                · rw [a1] at hb; cases hb
                · rw [a2] at hb; cases hb
                all_goals omega
            exact ⟨hn, fin hn⟩
      · rintro ⟨T, ⟨h', lc⟩⟩ hno ⟨h0, h1', h13, h14, h15, hs⟩
        simp only at h0 h1' h13 h14 h15 hs
        subst hs
        obtain ⟨k, hk⟩ : ∃ k, l.length = k + 1 := ⟨l.length - 1, by omega⟩
        have hkl : k < l.length := by omega
        obtain ⟨eb, ep, er, e1, _, e2, e3, e4, _⟩ := hc.box hkl
        have hk0 := wrap_nat (n := k) (by omega)
        have fin : tubeOkB fs l = groundB fs l[k] := by
          have : allN l.length (stepB l) = true := allN_of fun j hj => by simpa using hno j hj
          have e : l.getD (l.length - 1) default = l[k] := by simp [hk, hkl]
          unfold tubeOkB
          rw [this, e]
          simp [h1, h2]
        have fin2 : groundB fs l[k] = (l[k].low == 0 && isFieldB fs l[k].x l[k].y) := by
          unfold groundB isFieldB
          cases hz : l[k].low == 0 <;> simp
        simp +contextual [cimpl_GiveTubeOk_L0, h0, h1', h13, h14, h15, hc.slen, hc.noLoc, hf.noLoc, hk, e1, e2, e3, e4, eimpl_GiveTubeOk_impl_isField, C, hk0, fin, fin2]
    · have e0 : inB (l.length : Int) 1 40 = false := by rw [inB_len]; simp [h2]
      have e1 : tubeOkB fs l = false := by simp [tubeOkB, h2]
      simp [cimpl_GiveTubeOk, hc.slen, hc.noLoc, hf.noLoc, eimpl_GiveTubeOk_impl_in, impl_in, e0, e1]
  · have e0 : inB (l.length : Int) 1 40 = false := by rw [inB_len]; simp [h1]
    have e1 : tubeOkB fs l = false := by simp [tubeOkB, h1]
    simp [cimpl_GiveTubeOk, hc.slen, hc.noLoc, hf.noLoc, eimpl_GiveTubeOk_impl_in, impl_in, e0, e1]
end Go.Abs

/-
  The exact law of GiveTubeOk, over what its functions compute.
-/

namespace Go.Abs
set_option linter.unusedSimpArgs false
set_option linter.unusedVariables false
attribute [local simp] AW_skip AW_exit AW_ret AW_seq AW_block AW_cond CW_ite AW_reg AW_regD RW_nil RW_cons RW_guard GW_t GW_f GW_gt GW_gf GW_tup GY_some GY_tt GY_ff gd_t gd_f pk_t pk_f pk_and pk_or pk_andc pk_orc pk_bool gd_gd SW_some ThenQ_normal ThenQ_exit ThenQ_ret BlockQ_normal BlockQ_exit BlockQ_ret kill_nil kill_cons killT_at killL_at upo_some upo_none ev_t ev_k FinQ_ret FinQ_normal upd_eq upd_ne argsT_zero argsT_succ aop.eq_1 aop_pick aop.eq_3 aop.eq_4 aop.eq_5 aop.eq_6 aop.eq_7 aop.eq_8 aop.eq_9 aop.eq_10 aop.eq_11 aop.eq_12 aop.eq_13 aop.eq_14 aop.eq_15 aop.eq_16 aop.eq_17 aop.eq_18 aop.eq_19 aop.eq_20 aop.eq_21 aop_slice_hi aop_slice_lo aop.eq_23 aop.eq_24 aop.eq_26 aop.eq_27 aop.eq_28 aop.eq_29 aop.eq_31 aop.eq_32 aop_maxs2 aop_mins2 aop_mins3 aop_len aop_iaddr Av.bool? Av.ptr? Av.int? Av.int64? Av.str? Av.agg? ressA resA resOf noLoc_int noLoc_bool noLoc_str noLoc_nils noLoc_nilp noLoc_ptrl noLoc_ptrr noLoc_sll noLoc_slr noLoc_fn noLoc_tc noLoc_tagg noLoc_av noLoc_atup ce_c tv_v cells_c cells_agg noLocs keyLoc evs callA St.set St.get unAv binCe killV_int killV_bool killV_str killV_nils killV_nilp killV_agg killV_no killV_tup killV_ptrl killV_ptrr killV_sll killV_slr killV_fn killV_noLoc fillA repl
attribute [local congr] GY_congr

theorem toBoxes' {S : Nat → Prop} (h : Heap) (c : Ce) (l : List Box) (ho : HOk h) (hc : RdF fBox S h c l) (hl : l.length ≤ 1048576) :
    ∃ c' h' fp, Flaws_toGiveBoxS [.v (.c c)] h = some (.v (.c c'), h') ∧ NewF fBox h h' c' l fp := ⟨_, _, _, laws_toGiveBoxS h c l ho hc hl, NewF.push ho l _ rfl⟩
theorem toFields' {S : Nat → Prop} (h : Heap) (c : Ce) (l : List Fld) (ho : HOk h) (hc : RdF fField S h c l) (hl : l.length ≤ 1048576) :
    ∃ c' h' fp, Flaws_toGiveFieldS [.v (.c c)] h = some (.v (.c c'), h') ∧ NewF fField h h' c' l fp := ⟨_, _, _, laws_toGiveFieldS h c l ho hc hl, NewF.push ho l _ rfl⟩

theorem laws_FnExactGiveTubeOk (h : Heap) (cfs : Ce) (fs : List Fld) (ct : Ce) (t : List Box) (ho : HOk h) (rfs : RdF fField (fun b => b < h.nx) h cfs fs ∧ FieldsWf fs) (rt : RdF fBox (fun b => b < h.nx) h ct t) :
    ∃ h', Flaws_FnExactGiveTubeOk [.v (.c cfs), .v (.c ct)] h = some (.v (.c (.bool true)), h') := by
  unfold Flaws_FnExactGiveTubeOk
  obtain ⟨rfs, wfs⟩ := rfs
  obtain ⟨qfs, sfs, lefs, smfs⟩ := laws_szGiveFieldS h cfs fs 1048576 rfs wfs (by omega)
  rcases lefs with rfl | lefs
  · refine ⟨_, runF_eq (h' := h) ?_⟩
    simp [claws_FnExactGiveTubeOk, elaws_FnExactGiveTubeOk_laws_szGiveFieldS, rfs.noLoc, rt.noLoc, sfs]
  have nfs : ¬ qfs < 0 := by omega
  replace smfs := smfs lefs.1
  have st := laws_szGiveBoxS h ct t qfs rt (by omega)
  by_cases hbt : qfs < (t.length : Int)
  · rw [if_pos hbt] at st
    refine ⟨_, runF_eq (h' := h) ?_⟩
    simp [claws_FnExactGiveTubeOk, sfs, nfs, elaws_FnExactGiveTubeOk_laws_szGiveFieldS, elaws_FnExactGiveTubeOk_laws_szGiveBoxS, rfs.noLoc, rt.noLoc, st]
  rw [if_neg hbt] at st
  have nt : ¬ (qfs - (t.length : Int)) < 0 := by omega
  have smt : t.length ≤ 1048576 := by omega
  obtain ⟨c1, h2, fpc1, t3, m4⟩ := toFields' h cfs fs ho rfs smfs
  have f5 := m4.fr
  have nx1 := f5.nx
  have gec1 : ∀ b, b ∈ fpc1 → h.nx ≤ b := m4.ge
  have ltc1 : ∀ b, b ∈ fpc1 → b < h2.nx := fun b hb => m4.own.lt f5.ok hb
  have b6 := rt.keep ho f5
  obtain ⟨c7, h8, fpc7, t9, m10⟩ := toBoxes' h2 ct t f5.ok b6 smt
  have f11 := m10.fr
  have nx2 := f11.nx
  have gec7 : ∀ b, b ∈ fpc7 → h2.nx ≤ b := m10.ge
  have ltc7 : ∀ b, b ∈ fpc7 → b < h8.nx := fun b hb => m10.own.lt f11.ok hb
  have b12 := m4.own.chg f5.ok f11.chg (fp := []) (by simp)
  have u13 := spec_GiveTubeOk h8 _ _ _ _ (b12.rd (S := fun b => b ∈ fpc1) (by omega) (fun b hb => hb)) (m10.own.rd (S := fun b => b ∈ fpc7) (by omega) (fun b hb => hb))
  have b14 := rfs.keep ho f5
  have b15 := b14.keep f5.ok f11
  obtain ⟨c16, h17, fpc16, t18, m19⟩ := toFields' h8 cfs fs f11.ok b15 smfs
  have f20 := m19.fr
  have nx3 := f20.nx
  have gec16 : ∀ b, b ∈ fpc16 → h8.nx ≤ b := m19.ge
  have ltc16 : ∀ b, b ∈ fpc16 → b < h17.nx := fun b hb => m19.own.lt f20.ok hb
  have b21 := b6.keep f5.ok f11
  have b22 := b21.keep f11.ok f20
  obtain ⟨c23, h24, fpc23, t25, m26⟩ := toBoxes' h17 ct t f20.ok b22 smt
  have f27 := m26.fr
  have nx4 := f27.nx
  have gec23 : ∀ b, b ∈ fpc23 → h17.nx ≤ b := m26.ge
  have ltc23 : ∀ b, b ∈ fpc23 → b < h24.nx := fun b hb => m26.own.lt f27.ok hb
  have b28 := m19.own.chg f20.ok f27.chg (fp := []) (by simp)
  have u29 := impl_GiveTubeOk h24 _ _ _ _ (b28.rd (S := fun b => b ∈ fpc16) (by omega) (fun b hb => hb)) (m26.own.rd (S := fun b => b ∈ fpc23) (by omega) (fun b hb => hb))
  have b30 := b15.keep f11.ok f20
  have b31 := b30.keep f20.ok f27
  obtain ⟨c32, h33, fpc32, t34, m35⟩ := toFields' h24 cfs fs f27.ok b31 smfs
  have f36 := m35.fr
  have nx5 := f36.nx
  have gec32 : ∀ b, b ∈ fpc32 → h24.nx ≤ b := m35.ge
  have ltc32 : ∀ b, b ∈ fpc32 → b < h33.nx := fun b hb => m35.own.lt f36.ok hb
  have b37 := b28.chg f27.ok f36.chg (fp := []) (by simp)
  obtain ⟨q39, e38, z40⟩ := laws_eqGiveFieldS h33 c16 c32 _ _ (b37.rd (S := fun b => b ∈ fpc16) (by omega) (fun b hb => hb)) (m35.own.rd (S := fun b => b ∈ fpc32) (by omega) (fun b hb => hb))
  obtain rfl := z40.2 rfl
  have b41 := b22.keep f20.ok f27
  have b42 := b41.keep f27.ok f36
  obtain ⟨c43, h44, fpc43, t45, m46⟩ := toBoxes' h33 ct t f36.ok b42 smt
  have f47 := m46.fr
  have nx6 := f47.nx
  have gec43 : ∀ b, b ∈ fpc43 → h33.nx ≤ b := m46.ge
  have ltc43 : ∀ b, b ∈ fpc43 → b < h44.nx := fun b hb => m46.own.lt f47.ok hb
  have b48 := m26.own.chg f27.ok f36.chg (fp := []) (by simp)
  have b49 := b48.chg f36.ok f47.chg (fp := []) (by simp)
  obtain ⟨q51, e50, z52⟩ := laws_eqGiveBoxS h44 c23 c43 _ _ (b49.rd (S := fun b => b ∈ fpc23) (by omega) (fun b hb => hb)) (m46.own.rd (S := fun b => b ∈ fpc43) (by omega) (fun b hb => hb))
  obtain rfl := z52.2 rfl
  refine ⟨_, runF_eq (h' := h44) ?_⟩
  simp [claws_FnExactGiveTubeOk, sfs, nfs, st, nt, rfs.noLoc, rt.noLoc, t3, m4.own.noLoc, t9, m10.own.noLoc, u13, t18, m19.own.noLoc, t25, m26.own.noLoc, u29, t34, m35.own.noLoc, e38, t45, m46.own.noLoc, e50, elaws_FnExactGiveTubeOk_impl_GiveTubeOk, elaws_FnExactGiveTubeOk_laws_eqGiveBoxS, elaws_FnExactGiveTubeOk_laws_eqGiveFieldS, elaws_FnExactGiveTubeOk_laws_szGiveBoxS, elaws_FnExactGiveTubeOk_laws_szGiveFieldS, elaws_FnExactGiveTubeOk_laws_toGiveBoxS, elaws_FnExactGiveTubeOk_laws_toGiveFieldS, elaws_FnExactGiveTubeOk_spec_GiveTubeOk]
end Go.Abs

/-
  The codes of the functions, for the abstract machine (printed by wip/tools/gen3.py; not typed by hand).
-/

namespace Go.Abs

/-! ### laws_szGiveHeld: function 163 -/
def claws_szGiveHeld : ACode := (.seq (.reg [2] [OP 2 (.boxL 3 (.t 0)),
 OP 4 (.mov (KI 0))])
((.seq (.reg [] [MV 5 1,
 FA 6 0 2,
 LD 7 6,
 OP 8 (.lenS (.t 7)),
 OP 9 (.bin .sub (.t 5) (.t 8)),
 MV 1 9])
((.seq ((.seq (.reg [] [MV 10 1,
 OP 11 (.bin .lss (.t 10) (KI 0))])
(.cond (.t 11) ((.seq (.reg [] [OP 4 (.mov (KI (-1)))])
(.ret))) (.skip))))
((.seq (.reg [] [FA 12 1 2,
 LD 13 12,
 MV 14 1,
 OP 15 (.call 23 [.t 13, .t 14]),
 MV 1 15])
((.seq ((.seq (.reg [] [MV 16 1,
 OP 17 (.bin .lss (.t 16) (KI 0))])
(.cond (.t 17) ((.seq (.reg [] [OP 4 (.mov (KI (-1)))])
(.ret))) (.skip))))
((.seq (.reg [] [FA 18 2 2,
 LD 19 18,
 MV 20 1,
 OP 21 (.call 23 [.t 19, .t 20]),
 MV 1 21])
((.seq ((.seq (.reg [] [MV 22 1,
 OP 23 (.bin .lss (.t 22) (KI 0))])
(.cond (.t 23) ((.seq (.reg [] [OP 4 (.mov (KI (-1)))])
(.ret))) (.skip))))
((.seq (.reg [] [MV 24 1,
 MV 4 24])
(.ret))))))))))))))))
noncomputable def elaws_szGiveHeld : Env := envL [(23, Flaws_szGiveBoxS)]
noncomputable def Flaws_szGiveHeld : Fun := runF elaws_szGiveHeld claws_szGiveHeld [.t 4]
theorem elaws_szGiveHeld_laws_szGiveBoxS : elaws_szGiveHeld 23 = some Flaws_szGiveBoxS := by simp [elaws_szGiveHeld, envL_cons]

/-! ### laws_szGiveHeldS: function 124 -/
def claws_szGiveHeldS_L0 : ACode := (.seq ((.seq (.reg [] [MV 12 5,
 MV 13 0,
 LE 14 13,
 OP 15 (.bin .lss (.t 12) (.t 14))])
(.cond (.t 15) (.skip) (.exit 0))))
((.seq (.block 1 ((.seq (.reg [] [MV 18 0,
 MV 19 5,
 IA 20 3 18 19,
 OP 21 (.loadN 3 (.t 20)),
 MV 22 1,
 OP 23 (.call 163 [.t 21, .t 22]),
 MV 1 23])
((.seq (.reg [] [MV 24 1,
 OP 25 (.bin .lss (.t 24) (KI 0))])
(.cond (.t 25) ((.seq (.reg [] [OP 4 (.mov (KI (-1)))])
(.ret))) (.skip)))))))
(.reg [] [MV 16 5,
 OP 17 (.bin .add (.t 16) (KI 1)),
 MV 5 17]))))
def claws_szGiveHeldS : ACode := (.seq (.reg [] [OP 4 (.mov (KI 0))])
((.seq (.reg [] [MV 6 1,
 MV 7 0,
 LE 8 7,
 OP 9 (.bin .sub (.t 6) (.t 8)),
 MV 1 9])
((.seq ((.seq (.reg [] [MV 10 1,
 OP 11 (.bin .lss (.t 10) (KI 0))])
(.cond (.t 11) ((.seq (.reg [] [OP 4 (.mov (KI (-1)))])
(.ret))) (.skip))))
((.seq ((.seq (.reg [] [OP 5 (.mov (KI 0))])
(.block 0 (.loop claws_szGiveHeldS_L0))))
((.seq (.reg [] [MV 26 1,
 MV 4 26])
(.ret))))))))))
noncomputable def elaws_szGiveHeldS : Env := envL [(163, Flaws_szGiveHeld)]
noncomputable def Flaws_szGiveHeldS : Fun := runF elaws_szGiveHeldS claws_szGiveHeldS [.t 4]
theorem elaws_szGiveHeldS_laws_szGiveHeld : elaws_szGiveHeldS 163 = some Flaws_szGiveHeld := by simp [elaws_szGiveHeldS, envL_cons]

/-! ### laws_szGiveBook: function 48 -/
def claws_szGiveBook : ACode := (.seq (.reg [2] [OP 2 (.boxL 3 (.t 0)),
 OP 4 (.mov (KI 0))])
((.seq (.reg [] [FA 5 1 2,
 LD 6 5,
 MV 7 1,
 OP 8 (.call 32 [.t 6, .t 7]),
 MV 1 8])
((.seq ((.seq (.reg [] [MV 9 1,
 OP 10 (.bin .lss (.t 9) (KI 0))])
(.cond (.t 10) ((.seq (.reg [] [OP 4 (.mov (KI (-1)))])
(.ret))) (.skip))))
((.seq (.reg [] [FA 11 2 2,
 LD 12 11,
 MV 13 1,
 OP 14 (.call 124 [.t 12, .t 13]),
 MV 1 14])
((.seq ((.seq (.reg [] [MV 15 1,
 OP 16 (.bin .lss (.t 15) (KI 0))])
(.cond (.t 16) ((.seq (.reg [] [OP 4 (.mov (KI (-1)))])
(.ret))) (.skip))))
((.seq (.reg [] [MV 17 1,
 MV 4 17])
(.ret))))))))))))
noncomputable def elaws_szGiveBook : Env := envL [(32, Flaws_szGiveFieldS), (124, Flaws_szGiveHeldS)]
noncomputable def Flaws_szGiveBook : Fun := runF elaws_szGiveBook claws_szGiveBook [.t 4]
theorem elaws_szGiveBook_laws_szGiveFieldS : elaws_szGiveBook 32 = some Flaws_szGiveFieldS := by simp [elaws_szGiveBook, envL_cons]
theorem elaws_szGiveBook_laws_szGiveHeldS : elaws_szGiveBook 124 = some Flaws_szGiveHeldS := by simp [elaws_szGiveBook, envL_cons]

/-! ### spec_l2From: function 145 -/
def cspec_l2From_L0 : ACode := (.seq ((.seq (.reg [] [MV 6 5,
 MV 7 0,
 LE 8 7,
 OP 9 (.bin .lss (.t 6) (.t 8))])
(.cond (.t 9) (.skip) (.exit 0))))
((.seq (.block 1 ((.seq (.reg [] [MV 12 0,
 MV 13 5,
 IA 14 6 12 13,
 FA 15 4 14,
 LD 16 15,
 MV 17 1,
 OP 18 (.bin .lss (.t 16) (.t 17))])
(.cond (.t 18) ((.seq (.reg [] [MF 4])
(.ret))) (.skip)))))
(.reg [] [MV 10 5,
 OP 11 (.bin .add (.t 10) (KI 1)),
 MV 5 11]))))
def cspec_l2From : ACode := (.seq (.reg [] [MF 4])
((.seq ((.seq (.reg [] [OP 5 (.mov (KI 0))])
(.block 0 (.loop cspec_l2From_L0))))
((.seq (.reg [] [OP 4 (.mov KT)])
(.ret))))))
noncomputable def espec_l2From : Env := envL []
noncomputable def Fspec_l2From : Fun := runF espec_l2From cspec_l2From [.t 4]

/-! ### spec_l2HeldOk: function 125 -/
def cspec_l2HeldOk : ACode := (.seq (.reg [2, 3] [OP 2 (.boxL 3 (.t 0)),
 OP 3 (.boxL 3 (.t 1)),
 MF 4])
((.seq (.reg [] [FA 5 0 3,
 LD 6 5,
 OP 7 (.call 119 [.t 6]),
 MV 8 7,
 OT 9 8 (.faddr 1 (.t 2)),
 OT 10 8 (.load1 (.t 9)),
 OT 11 8 (.faddr 1 (.t 3)),
 OT 12 8 (.load1 (.t 11)),
 OT 13 8 (.call 33 [.t 10, .t 12]),
 OP 14 (.pick (.t 8) (.t 13) KF),
 MV 15 14,
 OT 16 15 (.faddr 1 (.t 3)),
 OT 17 15 (.load1 (.t 16)),
 OT 18 15 (.faddr 0 (.t 2)),
 OT 19 15 (.load1 (.t 18)),
 OT 20 15 (.call 145 [.t 17, .t 19]),
 OP 21 (.pick (.t 15) (.t 20) KF),
 MV 22 21,
 OT 23 22 (.faddr 2 (.t 3)),
 OT 24 22 (.load1 (.t 23)),
 OT 25 22 (.len (.t 24)),
 OT 26 22 (.bin .eql (.t 25) (KI 0)),
 OT 27 22 (.mov (.t 26)),
 OF 28 27 (.faddr 1 (.t 2)),
 OF 29 27 (.load1 (.t 28)),
 OF 30 27 (.faddr 2 (.t 3)),
 OF 31 27 (.load1 (.t 30)),
 OF 32 27 (.call 33 [.t 29, .t 31]),
 OF 33 27 (.mov (.t 32)),
 OT 34 33 (.faddr 2 (.t 3)),
 OT 35 33 (.load1 (.t 34)),
 OT 36 33 (.faddr 0 (.t 2)),
 OT 37 33 (.load1 (.t 36)),
 OT 38 33 (.call 145 [.t 35, .t 37]),
 OF 39 27 (.pick (.t 33) (.t 38) KF),
 OT 40 22 (.pick (.t 27) KT (.t 39)),
 OP 41 (.pick (.t 22) (.t 40) KF),
 MV 4 41])
(.ret))))
noncomputable def espec_l2HeldOk : Env := envL [(33, Fspec_GiveTubeOk), (119, Fspec_l1NameOk), (145, Fspec_l2From)]
noncomputable def Fspec_l2HeldOk : Fun := runF espec_l2HeldOk cspec_l2HeldOk [.t 4]
theorem espec_l2HeldOk_spec_GiveTubeOk : espec_l2HeldOk 33 = some Fspec_GiveTubeOk := by simp [espec_l2HeldOk, envL_cons]
theorem espec_l2HeldOk_spec_l1NameOk : espec_l2HeldOk 119 = some Fspec_l1NameOk := by simp [espec_l2HeldOk, envL_cons]
theorem espec_l2HeldOk_spec_l2From : espec_l2HeldOk 145 = some Fspec_l2From := by simp [espec_l2HeldOk, envL_cons]

/-! ### spec_l2Meets: function 126 -/
def cspec_l2Meets : ACode := (.seq (.reg [2, 3] [OP 2 (.boxL 3 (.t 0)),
 OP 3 (.boxL 3 (.t 1)),
 MF 4])
((.seq (.reg [] [FA 5 1 2,
 LD 6 5,
 FA 7 1 3,
 LD 8 7,
 OP 9 (.call 24 [.t 6, .t 8]),
 MV 10 9,
 OF 11 10 (.faddr 1 (.t 2)),
 OF 12 10 (.load1 (.t 11)),
 OF 13 10 (.faddr 2 (.t 3)),
 OF 14 10 (.load1 (.t 13)),
 OF 15 10 (.call 24 [.t 12, .t 14]),
 OP 16 (.pick (.t 10) KT (.t 15)),
 MV 17 16,
 OF 18 17 (.faddr 2 (.t 2)),
 OF 19 17 (.load1 (.t 18)),
 OF 20 17 (.faddr 1 (.t 3)),
 OF 21 17 (.load1 (.t 20)),
 OF 22 17 (.call 24 [.t 19, .t 21]),
 OP 23 (.pick (.t 17) KT (.t 22)),
 MV 24 23,
 OF 25 24 (.faddr 2 (.t 2)),
 OF 26 24 (.load1 (.t 25)),
 OF 27 24 (.faddr 2 (.t 3)),
 OF 28 24 (.load1 (.t 27)),
 OF 29 24 (.call 24 [.t 26, .t 28]),
 OP 30 (.pick (.t 24) KT (.t 29)),
 MV 4 30])
(.ret))))
noncomputable def espec_l2Meets : Env := envL [(24, Fspec_GiveNear)]
noncomputable def Fspec_l2Meets : Fun := runF espec_l2Meets cspec_l2Meets [.t 4]
theorem espec_l2Meets_spec_GiveNear : espec_l2Meets 24 = some Fspec_GiveNear := by simp [espec_l2Meets, envL_cons]

/-! ### spec_GiveBookOk: function 49 -/
def cspec_GiveBookOk_L1 : ACode := (.seq ((.seq (.reg [] [MV 56 4,
 MV 57 3,
 OP 58 (.bin .lss (.t 56) (.t 57))])
(.cond (.t 58) (.skip) (.exit 2))))
((.seq (.block 3 ((.seq (.regD [] [FA 61 2 1,
 LD 62 61,
 MV 63 4,
 IA 64 3 62 63,
 OP 65 (.loadN 3 (.t 64)),
 FA 66 2 1,
 LD 67 66,
 MV 68 3,
 IA 69 3 67 68,
 OP 70 (.loadN 3 (.t 69)),
 OP 71 (.call 126 [.t 65, .t 70])] [])
(.cond (.t 71) ((.seq (.reg [] [MF 2])
(.ret))) (.skip)))))
(.reg [] [MV 59 4,
 OP 60 (.bin .add (.t 59) (KI 1)),
 MV 4 60]))))
def cspec_GiveBookOk_L0 : ACode := (.seq ((.seq (.reg [] [MV 21 3,
 FA 22 2 1,
 LD 23 22,
 LE 24 23,
 OP 25 (.bin .lss (.t 21) (.t 24))])
(.cond (.t 25) (.skip) (.exit 0))))
((.seq (.block 1 ((.seq ((.seq (.regD [] [OP 28 (.loadN 3 (.t 1)),
 FA 29 2 1,
 LD 30 29,
 MV 31 3,
 IA 32 3 30 31,
 OP 33 (.loadN 3 (.t 32)),
 OP 34 (.call 125 [.t 28, .t 33]),
 OP 35 (.un .not (.t 34)),
 MV 36 35,
 OF 37 36 (.mov (.t 3)),
 OF 38 36 (.bin .gtr (.t 37) (KI 0)),
 OF 39 36 (.mov (.t 38)),
 OT 40 39 (.faddr 2 (.t 1)),
 OT 41 39 (.load1 (.t 40)),
 OT 42 39 (.mov (.t 3)),
 OT 43 39 (.bin .sub (.t 42) (KI 1)),
 OT 44 39 (.iaddr 3 (.t 41) (.t 43)),
 OT 45 39 (.faddr 0 (.t 44)),
 OT 46 39 (.load1 (.t 45)),
 OT 47 39 (.faddr 2 (.t 1)),
 OT 48 39 (.load1 (.t 47)),
 OT 49 39 (.mov (.t 3)),
 OT 50 39 (.iaddr 3 (.t 48) (.t 49)),
 OT 51 39 (.faddr 0 (.t 50)),
 OT 52 39 (.load1 (.t 51)),
 OT 53 39 (.bin .geq (.t 46) (.t 52)),
 OF 54 36 (.pick (.t 39) (.t 53) KF),
 OP 55 (.pick (.t 36) KT (.t 54))] [])
(.cond (.t 55) ((.seq (.reg [] [MF 2])
(.ret))) (.skip))))
((.seq (.reg [] [OP 4 (.mov (KI 0))])
(.block 2 (.loop cspec_GiveBookOk_L1)))))))
(.reg [] [MV 26 3,
 OP 27 (.bin .add (.t 26) (KI 1)),
 MV 3 27]))))
def cspec_GiveBookOk : ACode := (.seq (.reg [1] [OP 1 (.boxL 3 (.t 0)),
 MF 2])
((.seq ((.seq (.reg [] [FA 5 0 1,
 LD 6 5,
 OP 7 (.call 91 [.t 6, KI 0, KI 10000]),
 OP 8 (.un .not (.t 7)),
 MV 9 8,
 OF 10 9 (.faddr 1 (.t 1)),
 OF 11 9 (.load1 (.t 10)),
 OF 12 9 (.call 118 [.t 11]),
 OF 13 9 (.un .not (.t 12)),
 OP 14 (.pick (.t 9) KT (.t 13)),
 MV 15 14,
 OF 16 15 (.faddr 2 (.t 1)),
 OF 17 15 (.load1 (.t 16)),
 OF 18 15 (.len (.t 17)),
 OF 19 15 (.bin .gtr (.t 18) (KI 16)),
 OP 20 (.pick (.t 15) KT (.t 19))])
(.cond (.t 20) ((.seq (.reg [] [MF 2])
(.ret))) (.skip))))
((.seq ((.seq (.reg [] [OP 3 (.mov (KI 0))])
(.block 0 (.loop cspec_GiveBookOk_L0))))
((.seq (.reg [] [OP 2 (.mov KT)])
(.ret))))))))
noncomputable def espec_GiveBookOk : Env := envL [(91, Fspec_l1In), (118, Fspec_l2FieldsOk), (125, Fspec_l2HeldOk), (126, Fspec_l2Meets)]
noncomputable def Fspec_GiveBookOk : Fun := runF espec_GiveBookOk cspec_GiveBookOk [.t 2]
theorem espec_GiveBookOk_spec_l1In : espec_GiveBookOk 91 = some Fspec_l1In := by simp [espec_GiveBookOk, envL_cons]
theorem espec_GiveBookOk_spec_l2FieldsOk : espec_GiveBookOk 118 = some Fspec_l2FieldsOk := by simp [espec_GiveBookOk, envL_cons]
theorem espec_GiveBookOk_spec_l2HeldOk : espec_GiveBookOk 125 = some Fspec_l2HeldOk := by simp [espec_GiveBookOk, envL_cons]
theorem espec_GiveBookOk_spec_l2Meets : espec_GiveBookOk 126 = some Fspec_l2Meets := by simp [espec_GiveBookOk, envL_cons]

/-! ### laws_toGiveHeld: function 164 -/
def claws_toGiveHeld : ACode := (.seq (.reg [1, 2] [OP 1 (.boxL 3 (.t 0)),
 ⟨some 2, .allocL 3 [.str ⟨#[]⟩, .nils, .nils], none⟩])
((.seq (.reg [3] [⟨some 3, .allocL 3 [.str ⟨#[]⟩, .nils, .nils], none⟩])
((.seq (.reg [] [FA 4 0 1,
 LD 5 4,
 FA 6 0 3,
 OX (.store 1 (.t 6) (.t 5))])
((.seq (.reg [] [FA 7 1 1,
 LD 8 7,
 OP 9 (.call 25 [.t 8]),
 FA 10 1 3,
 OX (.store 1 (.t 10) (.t 9))])
((.seq (.reg [] [FA 11 2 1,
 LD 12 11,
 OP 13 (.call 25 [.t 12]),
 FA 14 2 3,
 OX (.store 1 (.t 14) (.t 13))])
((.seq (.reg [] [OP 15 (.loadN 3 (.t 3)),
 OX (.store 3 (.t 2) (.t 15))])
(.ret))))))))))))
noncomputable def elaws_toGiveHeld : Env := envL [(25, Flaws_toGiveBoxS)]
noncomputable def Flaws_toGiveHeld : Fun := runF elaws_toGiveHeld claws_toGiveHeld [.cellN 2 3]
theorem elaws_toGiveHeld_laws_toGiveBoxS : elaws_toGiveHeld 25 = some Flaws_toGiveBoxS := by simp [elaws_toGiveHeld, envL_cons]

/-! ### laws_toGiveHeldS: function 127 -/
def claws_toGiveHeldS_L0 : ACode := (.seq ((.seq (.reg [] [MV 8 4,
 MV 9 0,
 LE 10 9,
 OP 11 (.bin .lss (.t 8) (.t 10))])
(.cond (.t 11) (.skip) (.exit 0))))
((.seq (.block 1 (.reg [] [MV 14 3,
 MV 15 4,
 MV 16 0,
 MV 17 4,
 IA 18 3 16 17,
 OP 19 (.loadN 3 (.t 18)),
 OP 20 (.call 164 [.t 19]),
 IA 21 3 14 15,
 OX (.store 3 (.t 21) (.t 20))]))
(.reg [] [MV 12 4,
 OP 13 (.bin .add (.t 12) (KI 1)),
 MV 4 13]))))
def claws_toGiveHeldS : ACode := (.seq (.reg [] [OP 2 (.mov KN)])
((.seq (.reg [] [MV 5 0,
 LE 6 5,
 ⟨some 7, .make 3 [.str ⟨#[]⟩, .nils, .nils] (.t 6) (.t 6), none⟩,
 MV 3 7])
((.seq ((.seq (.reg [] [OP 4 (.mov (KI 0))])
(.block 0 (.loop claws_toGiveHeldS_L0))))
((.seq (.reg [] [MV 22 3,
 MV 2 22])
(.ret))))))))
noncomputable def elaws_toGiveHeldS : Env := envL [(164, Flaws_toGiveHeld)]
noncomputable def Flaws_toGiveHeldS : Fun := runF elaws_toGiveHeldS claws_toGiveHeldS [.t 2]
theorem elaws_toGiveHeldS_laws_toGiveHeld : elaws_toGiveHeldS 164 = some Flaws_toGiveHeld := by simp [elaws_toGiveHeldS, envL_cons]

/-! ### laws_toGiveBook: function 50 -/
def claws_toGiveBook : ACode := (.seq (.reg [1, 2] [OP 1 (.boxL 3 (.t 0)),
 OP 2 (.allocL 3 [.int .i64 0, .nils, .nils])])
((.seq (.reg [3] [OP 3 (.allocL 3 [.int .i64 0, .nils, .nils])])
((.seq (.reg [] [FA 4 0 1,
 LD 5 4,
 FA 6 0 3,
 OX (.store 1 (.t 6) (.t 5))])
((.seq (.reg [] [FA 7 1 1,
 LD 8 7,
 OP 9 (.call 34 [.t 8]),
 FA 10 1 3,
 OX (.store 1 (.t 10) (.t 9))])
((.seq (.reg [] [FA 11 2 1,
 LD 12 11,
 OP 13 (.call 127 [.t 12]),
 FA 14 2 3,
 OX (.store 1 (.t 14) (.t 13))])
((.seq (.reg [] [OP 15 (.loadN 3 (.t 3)),
 OX (.store 3 (.t 2) (.t 15))])
(.ret))))))))))))
noncomputable def elaws_toGiveBook : Env := envL [(34, Flaws_toGiveFieldS), (127, Flaws_toGiveHeldS)]
noncomputable def Flaws_toGiveBook : Fun := runF elaws_toGiveBook claws_toGiveBook [.cellN 2 3]
theorem elaws_toGiveBook_laws_toGiveFieldS : elaws_toGiveBook 34 = some Flaws_toGiveFieldS := by simp [elaws_toGiveBook, envL_cons]
theorem elaws_toGiveBook_laws_toGiveHeldS : elaws_toGiveBook 127 = some Flaws_toGiveHeldS := by simp [elaws_toGiveBook, envL_cons]

/-! ### impl_from: function 128 -/
def cimpl_from_L0 : ACode := (.seq (.reg [] [OP 10 (.bin .lss (.t 9) (.t 8))])
((.seq (.cond (.t 10) (.skip) (.exit 0))
((.seq (.block 1 ((.seq (.reg [6] [IA 11 6 7 9,
 OP 12 (.loadN 6 (.t 11)),
 OP 6 (.allocL 6 Z6),
 OX (.store 6 (.t 6) (.t 12))])
((.seq (.reg [] [FA 13 4 6,
 LD 14 13,
 MV 15 1,
 OP 16 (.bin .lss (.t 14) (.t 15))])
(.cond (.t 16) ((.seq (.reg [] [MF 4])
(.ret))) (.skip)))))))
(.reg [] [OP 17 (.bin .add (.t 9) (KI 1)),
 MV 9 17]))))))
def cimpl_from : ACode := (.seq (.reg [] [MF 4])
((.seq ((.seq (.reg [] [MV 7 0,
 LE 8 7,
 OP 9 (.mov (KI 0))])
(.block 0 (.loop cimpl_from_L0))))
((.seq (.reg [] [OP 4 (.mov KT)])
(.ret))))))
noncomputable def eimpl_from : Env := envL []
noncomputable def Fimpl_from : Fun := runF eimpl_from cimpl_from [.t 4]

/-! ### impl_GiveHeld_near: function 129 -/
def cimpl_GiveHeld_near : ACode := (.seq (.reg [2] [OP 2 (.boxL 3 (.t 0)),
 MF 4])
((.seq (.reg [] [FA 5 1 2,
 LD 6 5,
 MV 7 1,
 OP 8 (.call 26 [.t 6, .t 7]),
 MV 9 8,
 OF 10 9 (.faddr 2 (.t 2)),
 OF 11 9 (.load1 (.t 10)),
 OF 12 9 (.mov (.t 1)),
 OF 13 9 (.call 26 [.t 11, .t 12]),
 OP 14 (.pick (.t 9) KT (.t 13)),
 MV 4 14])
(.ret))))
noncomputable def eimpl_GiveHeld_near : Env := envL [(26, Fimpl_GiveNear)]
noncomputable def Fimpl_GiveHeld_near : Fun := runF eimpl_GiveHeld_near cimpl_GiveHeld_near [.t 4]
theorem eimpl_GiveHeld_near_impl_GiveNear : eimpl_GiveHeld_near 26 = some Fimpl_GiveNear := by simp [eimpl_GiveHeld_near, envL_cons]

/-! ### impl_GiveBookOk: function 51 -/
def cimpl_GiveBookOk_L1 : ACode := (.seq (.reg [] [OP 93 (.bin .lss (.t 92) (.t 91))])
((.seq (.cond (.t 93) (.skip) (.exit 2))
((.seq (.block 3 ((.seq (.reg [6] [IA 94 3 90 92,
 OP 95 (.loadN 3 (.t 94)),
 ⟨some 6, .allocL 3 [.str ⟨#[]⟩, .nils, .nils], none⟩,
 OX (.store 3 (.t 6) (.t 95))])
((.seq (.reg [] [OP 96 (.loadN 3 (.t 6)),
 FA 97 1 4,
 LD 98 97,
 OP 99 (.call 129 [.t 96, .t 98]),
 MV 100 99,
 OF 101 100 (.loadN 3 (.t 6)),
 OF 102 100 (.faddr 2 (.t 4)),
 OF 103 100 (.load1 (.t 102)),
 OF 104 100 (.call 129 [.t 101, .t 103]),
 OP 105 (.pick (.t 100) KT (.t 104))])
(.cond (.t 105) ((.seq (.reg [] [MF 2])
(.ret))) (.skip)))))))
(.reg [] [OP 106 (.bin .add (.t 92) (KI 1)),
 MV 92 106]))))))
def cimpl_GiveBookOk_L0 : ACode := (.seq (.reg [] [OP 27 (.bin .lss (.t 26) (.t 25))])
((.seq (.cond (.t 27) (.skip) (.exit 0))
((.seq (.block 1 ((.seq (.reg [4] [MV 28 26,
 IA 29 3 24 26,
 OP 30 (.loadN 3 (.t 29)),
 ⟨some 4, .allocL 3 [.str ⟨#[]⟩, .nils, .nils], none⟩,
 MV 3 28,
 OX (.store 3 (.t 4) (.t 30))])
((.seq ((.seq (.regD [] [FA 31 0 4,
 LD 32 31,
 OP 33 (.call 122 [.t 32]),
 OP 34 (.un .not (.t 33)),
 MV 35 34,
 OF 36 35 (.mov (.t 3)),
 OF 37 35 (.bin .gtr (.t 36) (KI 0)),
 OF 38 35 (.mov (.t 37)),
 OT 39 38 (.faddr 2 (.t 1)),
 OT 40 38 (.load1 (.t 39)),
 OT 41 38 (.mov (.t 3)),
 OT 42 38 (.bin .sub (.t 41) (KI 1)),
 OT 43 38 (.iaddr 3 (.t 40) (.t 42)),
 OT 44 38 (.faddr 0 (.t 43)),
 OT 45 38 (.load1 (.t 44)),
 OT 46 38 (.faddr 0 (.t 4)),
 OT 47 38 (.load1 (.t 46)),
 OT 48 38 (.bin .geq (.t 45) (.t 47)),
 OF 49 35 (.pick (.t 38) (.t 48) KF),
 OP 50 (.pick (.t 35) KT (.t 49)),
 MV 51 50,
 OF 52 51 (.faddr 1 (.t 1)),
 OF 53 51 (.load1 (.t 52)),
 OF 54 51 (.faddr 1 (.t 4)),
 OF 55 51 (.load1 (.t 54)),
 OF 56 51 (.call 35 [.t 53, .t 55]),
 OF 57 51 (.un .not (.t 56)),
 OP 58 (.pick (.t 51) KT (.t 57)),
 MV 59 58,
 OF 60 59 (.faddr 1 (.t 4)),
 OF 61 59 (.load1 (.t 60)),
 OF 62 59 (.faddr 0 (.t 1)),
 OF 63 59 (.load1 (.t 62)),
 OF 64 59 (.call 128 [.t 61, .t 63]),
 OF 65 59 (.un .not (.t 64)),
 OP 66 (.pick (.t 59) KT (.t 65))] [])
(.cond (.t 66) ((.seq (.reg [] [MF 2])
(.ret))) (.skip))))
((.seq ((.seq (.reg [] [FA 67 2 4,
 LD 68 67,
 LE 69 68,
 OP 70 (.bin .gtr (.t 69) (KI 0)),
 MV 71 70,
 OT 72 71 (.faddr 1 (.t 1)),
 OT 73 71 (.load1 (.t 72)),
 OT 74 71 (.faddr 2 (.t 4)),
 OT 75 71 (.load1 (.t 74)),
 OT 76 71 (.call 35 [.t 73, .t 75]),
 OT 77 71 (.un .not (.t 76)),
 OT 78 71 (.mov (.t 77)),
 OF 79 78 (.faddr 2 (.t 4)),
 OF 80 78 (.load1 (.t 79)),
 OF 81 78 (.faddr 0 (.t 1)),
 OF 82 78 (.load1 (.t 81)),
 OF 83 78 (.call 128 [.t 80, .t 82]),
 OF 84 78 (.un .not (.t 83)),
 OT 85 71 (.pick (.t 78) KT (.t 84)),
 OP 86 (.pick (.t 71) (.t 85) KF)])
(.cond (.t 86) ((.seq (.reg [] [MF 2])
(.ret))) (.skip))))
((.seq (.reg [] [FA 87 2 1,
 LD 88 87,
 MV 89 3,
 OP 90 (.slice 3 (.t 88) none (some (.t 89)) none),
 LE 91 90,
 OP 92 (.mov (KI 0))])
(.block 2 (.loop cimpl_GiveBookOk_L1)))))))))))
(.reg [] [OP 107 (.bin .add (.t 26) (KI 1)),
 MV 26 107]))))))
def cimpl_GiveBookOk : ACode := (.seq (.reg [1] [OP 1 (.boxL 3 (.t 0)),
 MF 2])
((.seq ((.seq (.reg [] [FA 7 0 1,
 LD 8 7,
 OP 9 (.call 96 [.t 8, KI 0, KI 10000]),
 OP 10 (.un .not (.t 9)),
 MV 11 10,
 OF 12 11 (.faddr 1 (.t 1)),
 OF 13 11 (.load1 (.t 12)),
 OF 14 11 (.call 121 [.t 13]),
 OF 15 11 (.un .not (.t 14)),
 OP 16 (.pick (.t 11) KT (.t 15)),
 MV 17 16,
 OF 18 17 (.faddr 2 (.t 1)),
 OF 19 17 (.load1 (.t 18)),
 OF 20 17 (.len (.t 19)),
 OF 21 17 (.bin .gtr (.t 20) (KI 16)),
 OP 22 (.pick (.t 17) KT (.t 21))])
(.cond (.t 22) ((.seq (.reg [] [MF 2])
(.ret))) (.skip))))
((.seq ((.seq (.reg [] [FA 23 2 1,
 LD 24 23,
 LE 25 24,
 OP 26 (.mov (KI 0))])
(.block 0 (.loop cimpl_GiveBookOk_L0))))
((.seq (.reg [] [OP 2 (.mov KT)])
(.ret))))))))
noncomputable def eimpl_GiveBookOk : Env := envL [(35, Fimpl_GiveTubeOk), (96, Fimpl_in), (121, Fimpl_fieldsOk), (122, Fimpl_name), (128, Fimpl_from), (129, Fimpl_GiveHeld_near)]
noncomputable def Fimpl_GiveBookOk : Fun := runF eimpl_GiveBookOk cimpl_GiveBookOk [.t 2]
theorem eimpl_GiveBookOk_impl_GiveTubeOk : eimpl_GiveBookOk 35 = some Fimpl_GiveTubeOk := by simp [eimpl_GiveBookOk, envL_cons]
theorem eimpl_GiveBookOk_impl_in : eimpl_GiveBookOk 96 = some Fimpl_in := by simp [eimpl_GiveBookOk, envL_cons]
theorem eimpl_GiveBookOk_impl_fieldsOk : eimpl_GiveBookOk 121 = some Fimpl_fieldsOk := by simp [eimpl_GiveBookOk, envL_cons]
theorem eimpl_GiveBookOk_impl_name : eimpl_GiveBookOk 122 = some Fimpl_name := by simp [eimpl_GiveBookOk, envL_cons]
theorem eimpl_GiveBookOk_impl_from : eimpl_GiveBookOk 128 = some Fimpl_from := by simp [eimpl_GiveBookOk, envL_cons]
theorem eimpl_GiveBookOk_impl_GiveHeld_near : eimpl_GiveBookOk 129 = some Fimpl_GiveHeld_near := by simp [eimpl_GiveBookOk, envL_cons]

/-! ### laws_eqGiveHeld: function 165 -/
def claws_eqGiveHeld : ACode := (.seq (.reg [2, 3] [OP 2 (.boxL 3 (.t 0)),
 OP 3 (.boxL 3 (.t 1)),
 MF 4])
((.seq ((.seq (.reg [] [FA 5 0 2,
 LD 6 5,
 FA 7 0 3,
 LD 8 7,
 OP 9 (.bin .neq (.t 6) (.t 8))])
(.cond (.t 9) ((.seq (.reg [] [MF 4])
(.ret))) (.skip))))
((.seq ((.seq (.reg [] [FA 10 1 2,
 LD 11 10,
 FA 12 1 3,
 LD 13 12,
 OP 14 (.call 27 [.t 11, .t 13]),
 OP 15 (.un .not (.t 14))])
(.cond (.t 15) ((.seq (.reg [] [MF 4])
(.ret))) (.skip))))
((.seq ((.seq (.reg [] [FA 16 2 2,
 LD 17 16,
 FA 18 2 3,
 LD 19 18,
 OP 20 (.call 27 [.t 17, .t 19]),
 OP 21 (.un .not (.t 20))])
(.cond (.t 21) ((.seq (.reg [] [MF 4])
(.ret))) (.skip))))
((.seq (.reg [] [OP 4 (.mov KT)])
(.ret))))))))))
noncomputable def elaws_eqGiveHeld : Env := envL [(27, Flaws_eqGiveBoxS)]
noncomputable def Flaws_eqGiveHeld : Fun := runF elaws_eqGiveHeld claws_eqGiveHeld [.t 4]
theorem elaws_eqGiveHeld_laws_eqGiveBoxS : elaws_eqGiveHeld 27 = some Flaws_eqGiveBoxS := by simp [elaws_eqGiveHeld, envL_cons]

/-! ### laws_eqGiveHeldS: function 130 -/
def claws_eqGiveHeldS_L0 : ACode := (.seq ((.seq (.reg [] [MV 11 5,
 MV 12 0,
 LE 13 12,
 OP 14 (.bin .lss (.t 11) (.t 13))])
(.cond (.t 14) (.skip) (.exit 0))))
((.seq (.block 1 ((.seq (.regD [] [MV 17 0,
 MV 18 5,
 IA 19 3 17 18,
 OP 20 (.loadN 3 (.t 19)),
 MV 21 1,
 MV 22 5,
 IA 23 3 21 22,
 OP 24 (.loadN 3 (.t 23)),
 OP 25 (.call 165 [.t 20, .t 24]),
 OP 26 (.un .not (.t 25))] [])
(.cond (.t 26) ((.seq (.reg [] [MF 4])
(.ret))) (.skip)))))
(.reg [] [MV 15 5,
 OP 16 (.bin .add (.t 15) (KI 1)),
 MV 5 16]))))
def claws_eqGiveHeldS : ACode := (.seq (.reg [] [MF 4])
((.seq ((.seq (.reg [] [MV 6 0,
 LE 7 6,
 MV 8 1,
 LE 9 8,
 OP 10 (.bin .neq (.t 7) (.t 9))])
(.cond (.t 10) ((.seq (.reg [] [MF 4])
(.ret))) (.skip))))
((.seq ((.seq (.reg [] [OP 5 (.mov (KI 0))])
(.block 0 (.loop claws_eqGiveHeldS_L0))))
((.seq (.reg [] [OP 4 (.mov KT)])
(.ret))))))))
noncomputable def elaws_eqGiveHeldS : Env := envL [(165, Flaws_eqGiveHeld)]
noncomputable def Flaws_eqGiveHeldS : Fun := runF elaws_eqGiveHeldS claws_eqGiveHeldS [.t 4]
theorem elaws_eqGiveHeldS_laws_eqGiveHeld : elaws_eqGiveHeldS 165 = some Flaws_eqGiveHeld := by simp [elaws_eqGiveHeldS, envL_cons]

/-! ### laws_eqGiveBook: function 52 -/
def claws_eqGiveBook : ACode := (.seq (.reg [2, 3] [OP 2 (.boxL 3 (.t 0)),
 OP 3 (.boxL 3 (.t 1)),
 MF 4])
((.seq ((.seq (.reg [] [FA 5 0 2,
 LD 6 5,
 FA 7 0 3,
 LD 8 7,
 OP 9 (.bin .neq (.t 6) (.t 8))])
(.cond (.t 9) ((.seq (.reg [] [MF 4])
(.ret))) (.skip))))
((.seq ((.seq (.reg [] [FA 10 1 2,
 LD 11 10,
 FA 12 1 3,
 LD 13 12,
 OP 14 (.call 36 [.t 11, .t 13]),
 OP 15 (.un .not (.t 14))])
(.cond (.t 15) ((.seq (.reg [] [MF 4])
(.ret))) (.skip))))
((.seq ((.seq (.reg [] [FA 16 2 2,
 LD 17 16,
 FA 18 2 3,
 LD 19 18,
 OP 20 (.call 130 [.t 17, .t 19]),
 OP 21 (.un .not (.t 20))])
(.cond (.t 21) ((.seq (.reg [] [MF 4])
(.ret))) (.skip))))
((.seq (.reg [] [OP 4 (.mov KT)])
(.ret))))))))))
noncomputable def elaws_eqGiveBook : Env := envL [(36, Flaws_eqGiveFieldS), (130, Flaws_eqGiveHeldS)]
noncomputable def Flaws_eqGiveBook : Fun := runF elaws_eqGiveBook claws_eqGiveBook [.t 4]
theorem elaws_eqGiveBook_laws_eqGiveFieldS : elaws_eqGiveBook 36 = some Flaws_eqGiveFieldS := by simp [elaws_eqGiveBook, envL_cons]
theorem elaws_eqGiveBook_laws_eqGiveHeldS : elaws_eqGiveBook 130 = some Flaws_eqGiveHeldS := by simp [elaws_eqGiveBook, envL_cons]

/-! ### laws_FnExactGiveBookOk: function 10 -/
def claws_FnExactGiveBookOk : ACode := (.seq (.reg [1] [OP 1 (.boxL 3 (.t 0)),
 MF 2])
((.seq (.reg [] [OP 3 (.mov (KI 1048576))])
((.seq (.reg [] [OP 7 (.loadN 3 (.t 1)),
 MV 8 3,
 OP 9 (.call 48 [.t 7, .t 8]),
 MV 3 9])
((.seq ((.seq (.reg [] [MV 10 3,
 OP 11 (.bin .lss (.t 10) (KI 0))])
(.cond (.t 11) ((.seq (.reg [] [OP 2 (.mov KT)])
(.ret))) (.skip))))
((.seq (.reg [] [OP 12 (.loadN 3 (.t 1)),
 OP 13 (.call 50 [.t 12]),
 OP 14 (.call 49 [.t 13]),
 MV 4 14])
((.seq (.reg [5] [OP 15 (.loadN 3 (.t 1)),
 OP 16 (.call 50 [.t 15]),
 OP 5 (.allocL 3 [.int .i64 0, .nils, .nils]),
 OX (.store 3 (.t 5) (.t 16))])
((.seq (.reg [] [OP 17 (.loadN 3 (.t 5)),
 OP 18 (.call 51 [.t 17]),
 MV 6 18])
((.seq ((.seq (.reg [] [MV 19 6,
 MV 20 4,
 OP 21 (.binB true (.t 19) (.t 20))])
(.cond (.t 21) ((.seq (.reg [] [MF 2])
(.ret))) (.skip))))
((.seq ((.seq (.regD [] [OP 22 (.loadN 3 (.t 5)),
 OP 23 (.loadN 3 (.t 1)),
 OP 24 (.call 50 [.t 23]),
 OP 25 (.call 52 [.t 22, .t 24]),
 OP 26 (.un .not (.t 25))] [(2, 0)])
(.cond (.t 26) ((.seq (.reg [] [MF 2])
(.ret))) (.skip))))
((.seq (.reg [] [OP 2 (.mov KT)])
(.ret))))))))))))))))))))
noncomputable def elaws_FnExactGiveBookOk : Env := envL [(48, Flaws_szGiveBook), (49, Fspec_GiveBookOk), (50, Flaws_toGiveBook), (51, Fimpl_GiveBookOk), (52, Flaws_eqGiveBook)]
noncomputable def Flaws_FnExactGiveBookOk : Fun := runF elaws_FnExactGiveBookOk claws_FnExactGiveBookOk [.t 2]
theorem elaws_FnExactGiveBookOk_laws_szGiveBook : elaws_FnExactGiveBookOk 48 = some Flaws_szGiveBook := by simp [elaws_FnExactGiveBookOk, envL_cons]
theorem elaws_FnExactGiveBookOk_spec_GiveBookOk : elaws_FnExactGiveBookOk 49 = some Fspec_GiveBookOk := by simp [elaws_FnExactGiveBookOk, envL_cons]
theorem elaws_FnExactGiveBookOk_laws_toGiveBook : elaws_FnExactGiveBookOk 50 = some Flaws_toGiveBook := by simp [elaws_FnExactGiveBookOk, envL_cons]
theorem elaws_FnExactGiveBookOk_impl_GiveBookOk : elaws_FnExactGiveBookOk 51 = some Fimpl_GiveBookOk := by simp [elaws_FnExactGiveBookOk, envL_cons]
theorem elaws_FnExactGiveBookOk_laws_eqGiveBook : elaws_FnExactGiveBookOk 52 = some Flaws_eqGiveBook := by simp [elaws_FnExactGiveBookOk, envL_cons]

/-! ### spec_l3Free: function 131 -/
def cspec_l3Free_L0 : ACode := (.seq ((.seq (.reg [] [MV 8 7,
 FA 9 2 3,
 LD 10 9,
 LE 11 10,
 OP 12 (.bin .lss (.t 8) (.t 11))])
(.cond (.t 12) (.skip) (.exit 0))))
((.seq (.block 1 ((.seq (.reg [] [FA 15 2 3,
 LD 16 15,
 MV 17 7,
 IA 18 3 16 17,
 FA 19 0 18,
 LD 20 19,
 MV 21 1,
 OP 22 (.bin .neq (.t 20) (.t 21)),
 MV 23 22,
 OT 24 23 (.faddr 2 (.t 3)),
 OT 25 23 (.load1 (.t 24)),
 OT 26 23 (.mov (.t 7)),
 OT 27 23 (.iaddr 3 (.t 25) (.t 26)),
 OT 28 23 (.faddr 1 (.t 27)),
 OT 29 23 (.load1 (.t 28)),
 OT 30 23 (.mov (.t 2)),
 OT 31 23 (.call 24 [.t 29, .t 30]),
 OT 32 23 (.mov (.t 31)),
 OF 33 32 (.faddr 2 (.t 3)),
 OF 34 32 (.load1 (.t 33)),
 OF 35 32 (.mov (.t 7)),
 OF 36 32 (.iaddr 3 (.t 34) (.t 35)),
 OF 37 32 (.faddr 2 (.t 36)),
 OF 38 32 (.load1 (.t 37)),
 OF 39 32 (.mov (.t 2)),
 OF 40 32 (.call 24 [.t 38, .t 39]),
 OT 41 23 (.pick (.t 32) KT (.t 40)),
 OP 42 (.pick (.t 23) (.t 41) KF)])
(.cond (.t 42) ((.seq (.reg [] [MF 6])
(.ret))) (.skip)))))
(.reg [] [MV 13 7,
 OP 14 (.bin .add (.t 13) (KI 1)),
 MV 7 14]))))
def cspec_l3Free : ACode := (.seq (.reg [3] [OP 3 (.boxL 3 (.t 0)),
 MF 6])
((.seq ((.seq (.reg [] [OP 7 (.mov (KI 0))])
(.block 0 (.loop cspec_l3Free_L0))))
((.seq (.reg [] [OP 6 (.mov KT)])
(.ret))))))
noncomputable def espec_l3Free : Env := envL [(24, Fspec_GiveNear)]
noncomputable def Fspec_l3Free : Fun := runF espec_l3Free cspec_l3Free [.t 6]
theorem espec_l3Free_spec_GiveNear : espec_l3Free 24 = some Fspec_GiveNear := by simp [espec_l3Free, envL_cons]

/-! ### spec_GiveFree: function 53 -/
def cspec_GiveFree : ACode := (.seq (.reg [3] [OP 3 (.boxL 3 (.t 0)),
 MF 6])
((.seq (.reg [] [OP 7 (.loadN 3 (.t 3)),
 OP 8 (.call 49 [.t 7]),
 MV 9 8,
 OT 10 9 (.faddr 1 (.t 3)),
 OT 11 9 (.load1 (.t 10)),
 OT 12 9 (.mov (.t 2)),
 OT 13 9 (.call 33 [.t 11, .t 12]),
 OP 14 (.pick (.t 9) (.t 13) KF),
 MV 15 14,
 OT 16 15 (.loadN 3 (.t 3)),
 OT 17 15 (.mov (.t 1)),
 OT 18 15 (.mov (.t 2)),
 OT 19 15 (.call 131 [.t 16, .t 17, .t 18]),
 OP 20 (.pick (.t 15) (.t 19) KF),
 MV 6 20])
(.ret))))
noncomputable def espec_GiveFree : Env := envL [(33, Fspec_GiveTubeOk), (49, Fspec_GiveBookOk), (131, Fspec_l3Free)]
noncomputable def Fspec_GiveFree : Fun := runF espec_GiveFree cspec_GiveFree [.t 6]
theorem espec_GiveFree_spec_GiveTubeOk : espec_GiveFree 33 = some Fspec_GiveTubeOk := by simp [espec_GiveFree, envL_cons]
theorem espec_GiveFree_spec_GiveBookOk : espec_GiveFree 49 = some Fspec_GiveBookOk := by simp [espec_GiveFree, envL_cons]
theorem espec_GiveFree_spec_l3Free : espec_GiveFree 131 = some Fspec_l3Free := by simp [espec_GiveFree, envL_cons]

/-! ### impl_GiveBook_free: function 132 -/
def cimpl_GiveBook_free_L0 : ACode := (.seq (.reg [] [OP 13 (.bin .lss (.t 12) (.t 11))])
((.seq (.cond (.t 13) (.skip) (.exit 0))
((.seq (.block 1 ((.seq (.reg [8] [IA 14 3 10 12,
 OP 15 (.loadN 3 (.t 14)),
 ⟨some 8, .allocL 3 [.str ⟨#[]⟩, .nils, .nils], none⟩,
 OX (.store 3 (.t 8) (.t 15))])
((.seq (.reg [] [FA 16 0 8,
 LD 17 16,
 MV 18 1,
 OP 19 (.bin .neq (.t 17) (.t 18)),
 MV 20 19,
 OT 21 20 (.loadN 3 (.t 8)),
 OT 22 20 (.mov (.t 2)),
 OT 23 20 (.call 129 [.t 21, .t 22]),
 OP 24 (.pick (.t 20) (.t 23) KF)])
(.cond (.t 24) ((.seq (.reg [] [MF 6])
(.ret))) (.skip)))))))
(.reg [] [OP 25 (.bin .add (.t 12) (KI 1)),
 MV 12 25]))))))
def cimpl_GiveBook_free : ACode := (.seq (.reg [3] [OP 3 (.boxL 3 (.t 0)),
 MF 6])
((.seq ((.seq (.reg [] [FA 9 2 3,
 LD 10 9,
 LE 11 10,
 OP 12 (.mov (KI 0))])
(.block 0 (.loop cimpl_GiveBook_free_L0))))
((.seq (.reg [] [OP 6 (.mov KT)])
(.ret))))))
noncomputable def eimpl_GiveBook_free : Env := envL [(129, Fimpl_GiveHeld_near)]
noncomputable def Fimpl_GiveBook_free : Fun := runF eimpl_GiveBook_free cimpl_GiveBook_free [.t 6]
theorem eimpl_GiveBook_free_impl_GiveHeld_near : eimpl_GiveBook_free 129 = some Fimpl_GiveHeld_near := by simp [eimpl_GiveBook_free, envL_cons]

/-! ### impl_GiveFree: function 54 -/
def cimpl_GiveFree : ACode := (.seq (.reg [3] [OP 3 (.boxL 3 (.t 0)),
 MF 6])
((.seq (.reg [] [OP 7 (.loadN 3 (.t 3)),
 OP 8 (.call 51 [.t 7]),
 MV 9 8,
 OT 10 9 (.faddr 1 (.t 3)),
 OT 11 9 (.load1 (.t 10)),
 OT 12 9 (.mov (.t 2)),
 OT 13 9 (.call 35 [.t 11, .t 12]),
 OP 14 (.pick (.t 9) (.t 13) KF),
 MV 15 14,
 OT 16 15 (.loadN 3 (.t 3)),
 OT 17 15 (.mov (.t 1)),
 OT 18 15 (.mov (.t 2)),
 OT 19 15 (.call 132 [.t 16, .t 17, .t 18]),
 OP 20 (.pick (.t 15) (.t 19) KF),
 MV 6 20])
(.ret))))
noncomputable def eimpl_GiveFree : Env := envL [(35, Fimpl_GiveTubeOk), (51, Fimpl_GiveBookOk), (132, Fimpl_GiveBook_free)]
noncomputable def Fimpl_GiveFree : Fun := runF eimpl_GiveFree cimpl_GiveFree [.t 6]
theorem eimpl_GiveFree_impl_GiveTubeOk : eimpl_GiveFree 35 = some Fimpl_GiveTubeOk := by simp [eimpl_GiveFree, envL_cons]
theorem eimpl_GiveFree_impl_GiveBookOk : eimpl_GiveFree 51 = some Fimpl_GiveBookOk := by simp [eimpl_GiveFree, envL_cons]
theorem eimpl_GiveFree_impl_GiveBook_free : eimpl_GiveFree 132 = some Fimpl_GiveBook_free := by simp [eimpl_GiveFree, envL_cons]

/-! ### laws_FnExactGiveFree: function 11 -/
def claws_FnExactGiveFree : ACode := (.seq (.reg [3] [OP 3 (.boxL 3 (.t 0)),
 MF 6])
((.seq ((.seq (.reg [] [MV 12 1,
 OP 13 (.lenS (.t 12)),
 OP 14 (.bin .gtr (.t 13) (KI 1048576))])
(.cond (.t 14) ((.seq (.reg [] [OP 6 (.mov KT)])
(.ret))) (.skip))))
((.seq (.reg [] [OP 7 (.mov (KI 1048576))])
((.seq (.reg [] [OP 15 (.loadN 3 (.t 3)),
 MV 16 7,
 OP 17 (.call 48 [.t 15, .t 16]),
 MV 7 17])
((.seq ((.seq (.reg [] [MV 18 7,
 OP 19 (.bin .lss (.t 18) (KI 0))])
(.cond (.t 19) ((.seq (.reg [] [OP 6 (.mov KT)])
(.ret))) (.skip))))
((.seq (.reg [] [MV 20 2,
 MV 21 7,
 OP 22 (.call 23 [.t 20, .t 21]),
 MV 7 22])
((.seq ((.seq (.reg [] [MV 23 7,
 OP 24 (.bin .lss (.t 23) (KI 0))])
(.cond (.t 24) ((.seq (.reg [] [OP 6 (.mov KT)])
(.ret))) (.skip))))
((.seq (.reg [] [OP 25 (.loadN 3 (.t 3)),
 OP 26 (.call 50 [.t 25]),
 MV 27 1,
 MV 28 2,
 OP 29 (.call 25 [.t 28]),
 OP 30 (.call 53 [.t 26, .t 27, .t 29]),
 MV 8 30])
((.seq (.reg [9] [OP 31 (.loadN 3 (.t 3)),
 OP 32 (.call 50 [.t 31]),
 OP 9 (.allocL 3 [.int .i64 0, .nils, .nils]),
 OX (.store 3 (.t 9) (.t 32))])
((.seq (.reg [] [MV 33 2,
 OP 34 (.call 25 [.t 33]),
 MV 10 34])
((.seq (.reg [] [OP 35 (.loadN 3 (.t 9)),
 MV 36 1,
 MV 37 10,
 OP 38 (.call 54 [.t 35, .t 36, .t 37]),
 MV 11 38])
((.seq ((.seq (.reg [] [MV 39 11,
 MV 40 8,
 OP 41 (.binB true (.t 39) (.t 40))])
(.cond (.t 41) ((.seq (.reg [] [MF 6])
(.ret))) (.skip))))
((.seq ((.seq (.regD [] [OP 42 (.loadN 3 (.t 9)),
 OP 43 (.loadN 3 (.t 3)),
 OP 44 (.call 50 [.t 43]),
 OP 45 (.call 52 [.t 42, .t 44]),
 OP 46 (.un .not (.t 45))] [(2, 0)])
(.cond (.t 46) ((.seq (.reg [] [MF 6])
(.ret))) (.skip))))
((.seq ((.seq (.reg [] [MV 47 10,
 MV 48 2,
 OP 49 (.call 25 [.t 48]),
 OP 50 (.call 27 [.t 47, .t 49]),
 OP 51 (.un .not (.t 50))])
(.cond (.t 51) ((.seq (.reg [] [MF 6])
(.ret))) (.skip))))
((.seq (.reg [] [OP 6 (.mov KT)])
(.ret))))))))))))))))))))))))))))))
noncomputable def elaws_FnExactGiveFree : Env := envL [(23, Flaws_szGiveBoxS), (25, Flaws_toGiveBoxS), (27, Flaws_eqGiveBoxS), (48, Flaws_szGiveBook), (50, Flaws_toGiveBook), (52, Flaws_eqGiveBook), (53, Fspec_GiveFree), (54, Fimpl_GiveFree)]
noncomputable def Flaws_FnExactGiveFree : Fun := runF elaws_FnExactGiveFree claws_FnExactGiveFree [.t 6]
theorem elaws_FnExactGiveFree_laws_szGiveBoxS : elaws_FnExactGiveFree 23 = some Flaws_szGiveBoxS := by simp [elaws_FnExactGiveFree, envL_cons]
theorem elaws_FnExactGiveFree_laws_toGiveBoxS : elaws_FnExactGiveFree 25 = some Flaws_toGiveBoxS := by simp [elaws_FnExactGiveFree, envL_cons]
theorem elaws_FnExactGiveFree_laws_eqGiveBoxS : elaws_FnExactGiveFree 27 = some Flaws_eqGiveBoxS := by simp [elaws_FnExactGiveFree, envL_cons]
theorem elaws_FnExactGiveFree_laws_szGiveBook : elaws_FnExactGiveFree 48 = some Flaws_szGiveBook := by simp [elaws_FnExactGiveFree, envL_cons]
theorem elaws_FnExactGiveFree_laws_toGiveBook : elaws_FnExactGiveFree 50 = some Flaws_toGiveBook := by simp [elaws_FnExactGiveFree, envL_cons]
theorem elaws_FnExactGiveFree_laws_eqGiveBook : elaws_FnExactGiveFree 52 = some Flaws_eqGiveBook := by simp [elaws_FnExactGiveFree, envL_cons]
theorem elaws_FnExactGiveFree_spec_GiveFree : elaws_FnExactGiveFree 53 = some Fspec_GiveFree := by simp [elaws_FnExactGiveFree, envL_cons]
theorem elaws_FnExactGiveFree_impl_GiveFree : elaws_FnExactGiveFree 54 = some Fimpl_GiveFree := by simp [elaws_FnExactGiveFree, envL_cons]

end Go.Abs

/-
  Names, runways, books: what the functions compute.
-/

namespace Go.Abs
set_option linter.unusedSimpArgs false
set_option linter.unusedVariables false
attribute [local simp] AW_skip AW_exit AW_ret AW_seq AW_block AW_cond CW_ite AW_reg AW_regD RW_nil RW_cons RW_guard GW_t GW_f GW_gt GW_gf GW_tup GY_some GY_tt GY_ff gd_t gd_f pk_t pk_f pk_and pk_or pk_andc pk_orc pk_bool gd_gd SW_some ThenQ_normal ThenQ_exit ThenQ_ret BlockQ_normal BlockQ_exit BlockQ_ret kill_nil kill_cons killT_at killL_at upo_some upo_none ev_t ev_k FinQ_ret FinQ_normal upd_eq upd_ne argsT_zero argsT_succ aop.eq_1 aop_pick aop.eq_3 aop.eq_4 aop.eq_5 aop.eq_6 aop.eq_7 aop.eq_8 aop.eq_9 aop.eq_10 aop.eq_11 aop.eq_12 aop.eq_13 aop.eq_14 aop.eq_15 aop.eq_16 aop.eq_17 aop.eq_18 aop.eq_19 aop.eq_20 aop.eq_21 aop_slice_hi aop_slice_lo aop.eq_23 aop.eq_24 aop.eq_26 aop.eq_27 aop.eq_28 aop.eq_29 aop.eq_31 aop.eq_32 aop_maxs2 aop_mins2 aop_mins3 aop_len aop_iaddr Av.bool? Av.ptr? Av.int? Av.int64? Av.str? Av.agg? ressA resA resOf noLoc_int noLoc_bool noLoc_str noLoc_nils noLoc_nilp noLoc_ptrl noLoc_ptrr noLoc_sll noLoc_slr noLoc_fn noLoc_tc noLoc_tagg noLoc_av noLoc_atup ce_c tv_v cells_c cells_agg noLocs keyLoc evs callA St.set St.get unAv binCe killV_int killV_bool killV_str killV_nils killV_nilp killV_agg killV_no killV_tup killV_ptrl killV_ptrr killV_sll killV_slr killV_fn killV_noLoc fillA repl
attribute [local congr] GY_congr

theorem spec_l1NameOk (h : Heap) (s : ByteArray) (hs : SzS s) : Fspec_l1NameOk [.v (.c (.str s))] h = some (.v (.c (.bool (nameOkB s))), h) := by
  unfold Fspec_l1NameOk
  have hz : (s.size : Int) ≤ 9223372036854775807 := by unfold SzS at hs; omega
  have hb : inB (s.size : Int) 1 8 = (decide (1 ≤ s.size) && decide (s.size ≤ 8)) := by
    unfold inB
    congr 1 <;> (rw [Bool.eq_iff_iff]; simp; try omega)
  refine runF_eq ?_
  by_cases h1 : 1 ≤ s.size
  · by_cases h2 : s.size ≤ 8
    · simp [h1, h2] at hb
      simp [cspec_l1NameOk, espec_l1NameOk_spec_l1In, spec_l1In, hb]
      refine AW_for1 s.size (fun i => !chOk (byteAt s i)) (fun i x => x.1 0 = .v (.c (.str s)) ∧ x.1 3 = .v (.c (.int .i64 i)) ∧ x.2 = ⟨h, nol⟩) (by simp) ?_ ?_
      · rintro i ⟨T, s'⟩ hin _ ⟨h0, h3, rfl⟩
        simp only at h0 h3
        have hw := wrap1 (i := i) (by omega)
        have hat : byteAt s i = s[i] := by simp [byteAt, hin]
        have fin : chOk (byteAt s i) = false → nameOkB s = false := fun k => by
          have := allN_no (p := fun i => chOk (byteAt s i)) hin k
          simp [nameOkB, this]
        have hch : chOk s[i] = ((decide (97 ≤ (s[i].toNat : Int)) && decide ((s[i].toNat : Int) ≤ 122)) || (decide (48 ≤ (s[i].toNat : Int)) && decide ((s[i].toNat : Int) ≤ 57)) || (s[i].toNat : Int) == 45) := rfl
        rw [hat] at fin ⊢
        obtain ⟨n, hn⟩ : ∃ n : Int, n = (s[i].toNat : Int) := ⟨_, rfl⟩
        rw [← hn] at hch
        rw [hch] at fin ⊢
        simp +contextual [cspec_l1NameOk_L0, h0, h3, hin, hw, ← hn]
        intro a1 a2 a3
        apply fin
        simp
        refine ⟨⟨?_, ?_⟩, a3⟩ <;> omega
      · rintro ⟨T, s'⟩ hno ⟨h0, h3, rfl⟩
        simp only at h0 h3
        have : nameOkB s = true := by
          have := allN_of (n := s.size) (p := fun i => chOk (byteAt s i)) fun j hj => by simpa using hno j hj
          simp [nameOkB, this, h1, h2]
        simp [cspec_l1NameOk_L0, h0, h3, this]
    · have e1 : nameOkB s = false := by simp [nameOkB, h2]
      simp [h2] at hb
      simp [cspec_l1NameOk, espec_l1NameOk_spec_l1In, spec_l1In, hb, e1]
  · have e1 : nameOkB s = false := by simp [nameOkB, h1]
    simp [h1] at hb
    simp [cspec_l1NameOk, espec_l1NameOk_spec_l1In, spec_l1In, hb, e1]

theorem impl_name (h : Heap) (s : ByteArray) (hs : SzS s) : Fimpl_name [.v (.c (.str s))] h = some (.v (.c (.bool (nameOkB s))), h) := by
  unfold Fimpl_name
  have hz : (s.size : Int) ≤ 9223372036854775807 := by unfold SzS at hs; omega
  have hb : inB (s.size : Int) 1 8 = (decide (1 ≤ s.size) && decide (s.size ≤ 8)) := by
    unfold inB
    congr 1 <;> (rw [Bool.eq_iff_iff]; simp; try omega)
  refine runF_eq ?_
  by_cases h1 : 1 ≤ s.size
  · by_cases h2 : s.size ≤ 8
    · simp [h1, h2] at hb
      simp [cimpl_name, eimpl_name_impl_in, impl_in, hb]
      refine AW_for1 s.size (fun i => !chOk (byteAt s i)) (fun i x => x.1 0 = .v (.c (.str s)) ∧ x.1 3 = .v (.c (.int .i64 i)) ∧ x.2 = ⟨h, nol⟩) (by simp) ?_ ?_
      · rintro i ⟨T, s'⟩ hin _ ⟨h0, h3, rfl⟩
        simp only at h0 h3
        have hw := wrap1 (i := i) (by omega)
        have hat : byteAt s i = s[i] := by simp [byteAt, hin]
        have fin : chOk (byteAt s i) = false → nameOkB s = false := fun k => by
          have := allN_no (p := fun i => chOk (byteAt s i)) hin k
          simp [nameOkB, this]
        have hch : chOk s[i] = ((decide (97 ≤ (s[i].toNat : Int)) && decide ((s[i].toNat : Int) ≤ 122)) || (decide (48 ≤ (s[i].toNat : Int)) && decide ((s[i].toNat : Int) ≤ 57)) || (s[i].toNat : Int) == 45) := rfl
        rw [hat] at fin ⊢
        obtain ⟨n, hn⟩ : ∃ n : Int, n = (s[i].toNat : Int) := ⟨_, rfl⟩
        rw [← hn] at hch
        rw [hch] at fin ⊢
        simp +contextual [cimpl_name_L0, h0, h3, hin, hw, ← hn]
        intro a1 a2 a3
        apply fin
        simp
        refine ⟨⟨?_, ?_⟩, a3⟩ <;> omega
      · rintro ⟨T, s'⟩ hno ⟨h0, h3, rfl⟩
        simp only at h0 h3
        have : nameOkB s = true := by
          have := allN_of (n := s.size) (p := fun i => chOk (byteAt s i)) fun j hj => by simpa using hno j hj
          simp [nameOkB, this, h1, h2]
        simp [cimpl_name_L0, h0, h3, this]
    · have e1 : nameOkB s = false := by simp [nameOkB, h2]
      simp [h2] at hb
      simp [cimpl_name, eimpl_name_impl_in, impl_in, hb, e1]
  · have e1 : nameOkB s = false := by simp [nameOkB, h1]
    simp [h1] at hb
    simp [cimpl_name, eimpl_name_impl_in, impl_in, hb, e1]
end Go.Abs
