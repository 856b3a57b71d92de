/-
  Boxes: what the functions over boxes and tubes compute.
-/
import Derived.Test.YtenccnpdaldkfaaAbs28
import Derived.Test.YtenccnpdaldkfaaBoxCode
namespace Go.Abs
set_option linter.unusedSimpArgs false
set_option linter.unusedVariables false
attribute [local simp] AW_skip AW_exit AW_ret AW_seq AW_block AW_cond CW_ite AW_reg AW_regD RW_nil RW_cons RW_guard GW_t GW_f GW_gt GW_gf GW_tup GY_some GY_tt GY_ff gd_t gd_f pk_t pk_f pk_and pk_or pk_andc pk_orc pk_bool gd_gd SW_some ThenQ_normal ThenQ_exit ThenQ_ret BlockQ_normal BlockQ_exit BlockQ_ret kill_nil kill_cons killT_at killL_at upo_some upo_none ev_t ev_k FinQ_ret FinQ_normal upd_eq upd_ne argsT_zero argsT_succ aop.eq_1 aop_pick aop.eq_3 aop.eq_4 aop.eq_5 aop.eq_6 aop.eq_7 aop.eq_8 aop.eq_9 aop.eq_10 aop.eq_11 aop.eq_12 aop.eq_13 aop.eq_14 aop.eq_15 aop.eq_16 aop.eq_17 aop.eq_18 aop.eq_19 aop.eq_20 aop.eq_21 aop.eq_22 aop.eq_23 aop.eq_24 aop.eq_26 aop.eq_27 aop.eq_28 aop.eq_29 aop.eq_31 aop.eq_32 aop_maxs2 aop_mins2 aop_mins3 aop_len aop_iaddr Av.bool? Av.ptr? Av.int? Av.int64? Av.str? Av.agg? ressA resA resOf noLoc_int noLoc_bool noLoc_str noLoc_nils noLoc_nilp noLoc_ptrl noLoc_ptrr noLoc_sll noLoc_slr noLoc_fn noLoc_tc noLoc_tagg noLoc_av noLoc_atup ce_c tv_v cells_c cells_agg noLocs keyLoc evs callA St.set St.get unAv binCe killV_int killV_bool killV_str killV_nils killV_nilp killV_agg killV_no killV_tup killV_ptrl killV_ptrr killV_sll killV_slr killV_fn killV_noLoc fillA repl
attribute [local congr] GY_congr
theorem spec_l1In (h : Heap) (n lo hi : Int) : Fspec_l1In [.v (.c (.int .i64 n)), .v (.c (.int .i64 lo)), .v (.c (.int .i64 hi))] h = some (.v (.c (.bool (inB n lo hi))), h) := by
  unfold Fspec_l1In inB
  refine runF_eq ?_
  simp +contextual [cspec_l1In]
theorem impl_in (h : Heap) (n lo hi : Int) : Fimpl_in [.v (.c (.int .i64 n)), .v (.c (.int .i64 lo)), .v (.c (.int .i64 hi))] h = some (.v (.c (.bool (inB n lo hi))), h) := by
  unfold Fimpl_in inB
  refine runF_eq ?_
  simp +contextual [cimpl_in]
theorem spec_l1BoxOk (h : Heap) (b : Box) : Fspec_l1BoxOk [.v (.agg (fBox.ces b))] h = some (.v (.c (.bool (okB b))), h) := by
  unfold Fspec_l1BoxOk okB
  refine runF_eq ?_
  simp +contextual [cspec_l1BoxOk, fBox, espec_l1BoxOk_spec_l1In, spec_l1In]
theorem impl_boxOk (h : Heap) (b : Box) : Fimpl_boxOk [.v (.agg (fBox.ces b))] h = some (.v (.c (.bool (okB b))), h) := by
  unfold Fimpl_boxOk okB
  refine runF_eq ?_
  simp +contextual [cimpl_boxOk, fBox, eimpl_boxOk_impl_in, impl_in, inB, Bool.and_assoc]
theorem spec_l1Close (h : Heap) (a b : Box) : Fspec_l1Close [.v (.agg (fBox.ces a)), .v (.agg (fBox.ces b))] h = some (.v (.c (.bool (closeB a b))), h) := by
  unfold Fspec_l1Close closeB wrap64
  have A := spec_l1BoxOk
  simp only [fBox] at A
  refine runF_eq ?_
  simp +contextual [cspec_l1Close, fBox, espec_l1Close_spec_l1In, espec_l1Close_spec_l1BoxOk, spec_l1In, A, Bool.and_assoc]
def besideB (a b : Box) : Bool := okB a && okB b && inB (wrap64 (a.x - b.x)) (-1) 1 && inB (wrap64 (a.y - b.y)) (-1) 1 && decide (max2 a.low b.low ≤ min2 a.high b.high)
theorem impl_beside (h : Heap) (a b : Box) : Fimpl_beside [.v (.agg (fBox.ces a)), .v (.agg (fBox.ces b))] h = some (.v (.c (.bool (besideB a b))), h) := by
  unfold Fimpl_beside besideB wrap64
  have A := impl_boxOk
  simp only [fBox] at A
  refine runF_eq ?_
  simp +contextual [cimpl_beside, fBox, eimpl_beside_impl_in, eimpl_beside_impl_boxOk, impl_in, A, Bool.and_assoc]
theorem laws_toGiveBox (h : Heap) (b : Box) : Flaws_toGiveBox [.v (.agg (fBox.ces b))] h = some (.v (.agg (fBox.ces b)), h) := by
  unfold Flaws_toGiveBox
  refine runF_eq ?_
  simp [claws_toGiveBox, fBox]
def eqBox (a b : Box) : Bool := a.x == b.x && a.y == b.y && a.low == b.low && a.high == b.high && a.tin == b.tin && a.tout == b.tout
theorem eqBox_iff (a b : Box) : eqBox a b = true ↔ a = b := by
  cases a; cases b
  simp [eqBox, and_assoc]
theorem laws_eqGiveBox (h : Heap) (a b : Box) : Flaws_eqGiveBox [.v (.agg (fBox.ces a)), .v (.agg (fBox.ces b))] h = some (.v (.c (.bool (eqBox a b))), h) := by
  unfold Flaws_eqGiveBox eqBox
  refine runF_eq ?_
  simp +contextual [claws_eqGiveBox, fBox]
theorem laws_szGiveBoxS {S : Nat → Prop} (h : Heap) (c : Ce) (l : List Box) (k : Int) (hc : RdF fBox S h c l) (hk : 0 ≤ k ∧ k ≤ 1048576) :
    Flaws_szGiveBoxS [.v (.c c), .v (.c (.int .i64 k))] h = some (.v (.c (.int .i64 (if k < l.length then -1 else k - l.length))), h) := by
  unfold Flaws_szGiveBoxS
  have hl := hc.le
  have e : IntKind.i64.wrap (k - l.length) = k - l.length := wrap_i64 (by omega) (by omega)
  have e1 : k - (l.length : Int) < 0 ↔ k < l.length := by omega
  refine runF_eq ?_
  simp +contextual [claws_szGiveBoxS, hc.slen, e, e1]
  intros; omega

theorem spec_GiveNear {S S' : Nat → Prop} (h : Heap) (c c' : Ce) (l l' : List Box) (hc : RdF fBox S h c l) (hc' : RdF fBox S' h c' l') :
    Fspec_GiveNear [.v (.c c), .v (.c c')] h = some (.v (.c (.bool (nearL l l'))), h) := by
  unfold Fspec_GiveNear
  have hl := hc.le
  have hl' := hc'.le
  have A := spec_l1Close
  simp only [fBox] at A
  refine runF_eq ?_
  simp [cspec_GiveNear]
  refine AW_for1 l.length (fun i => l'.any (closeB (l.getD i default))) (fun i x => x.1 0 = .v (.c c) ∧ x.1 1 = .v (.c c') ∧ x.1 5 = .v (.c (.int .i64 i)) ∧ x.2 = ⟨h, nol⟩) (by simp) ?_ ?_
  · rintro i ⟨T, s⟩ hin _ ⟨h0, h1, h5, rfl⟩
    simp only at h0 h1 h5
    obtain ⟨b, p, r, e1, _, e2, e3, e4, _⟩ := hc.box hin
    have hw := wrap1 (i := i) (by omega)
    simp [cspec_GiveNear_L0, h0, h1, h5, hc.slen, hin]
    refine AW_for1 l'.length (fun k => closeB l[i] (l'.getD k default)) (fun k x => x.1 0 = .v (.c c) ∧ x.1 1 = .v (.c c') ∧ x.1 5 = .v (.c (.int .i64 i)) ∧ x.1 6 = .v (.c (.int .i64 k)) ∧ x.2 = ⟨h, nol⟩) (by simp [h0, h1, h5]) ?_ ?_
    · rintro k ⟨T, s⟩ hkn _ ⟨h0, h1, h5, h6, rfl⟩
      simp only at h0 h1 h5 h6
      obtain ⟨b', p', r', f1, _, f2, f3, f4, _⟩ := hc'.box hkn
      have hw' := wrap1 (i := k) (by omega)
      simp +contextual [cspec_GiveNear_L1, h0, h1, h5, h6, hc'.slen, hkn, hin, e1, e2, e3, e4, f1, f2, f3, f4, espec_GiveNear_spec_l1Close, A, hw']
      intro hcl
      exact ⟨⟨_, List.getElem_mem hkn, hcl⟩, any_of hin (any_of hkn hcl)⟩
    · rintro ⟨T, s⟩ hno ⟨h0, h1, h5, h6, rfl⟩
      simp only at h0 h1 h5 h6
      have := any_no (l := l') (p := closeB l[i]) (fun j hj => by simpa [hj] using hno j hj)
      simp [cspec_GiveNear_L1, h0, h1, h5, h6, hc'.slen, hin, hw]
      simpa using this
  · rintro ⟨T, s⟩ hno ⟨h0, h1, h5, rfl⟩
    simp only at h0 h1 h5
    have : nearL l l' = false := any_no (fun j hj => by simpa [hj] using hno j hj)
    simp [cspec_GiveNear_L0, h0, h1, h5, hc.slen, this]
theorem near_close (a b : Box) : (besideB a b && decide (max2 a.tin b.tin ≤ min2 a.tout b.tout)) = closeB a b := by
  unfold besideB closeB
  cases h1 : okB a
  · simp
  cases h2 : okB b
  · simp
  simp only [okB, inB, Bool.and_eq_true, decide_eq_true_eq] at h1 h2
  simp only [max2_eq, min2_eq]
  rw [Bool.eq_iff_iff]
  simp only [Bool.and_eq_true, decide_eq_true_eq]
  constructor
  · rintro ⟨⟨⟨⟨_, h3⟩, h4⟩, h5⟩, h6⟩
    refine ⟨⟨⟨⟨⟨⟨⟨trivial, trivial⟩, h3⟩, h4⟩, ?_⟩, ?_⟩, ?_⟩, ?_⟩ <;> omega
  · rintro ⟨⟨⟨⟨⟨⟨_, h3⟩, h4⟩, h5⟩, h6⟩, h7⟩, h8⟩
    refine ⟨⟨⟨⟨⟨trivial, trivial⟩, h3⟩, h4⟩, ?_⟩, ?_⟩ <;> omega

theorem impl_GiveNear {S S' : Nat → Prop} (h : Heap) (c c' : Ce) (l l' : List Box) (hc : RdF fBox S h c l) (hc' : RdF fBox S' h c' l') :
    Fimpl_GiveNear [.v (.c c), .v (.c c')] h = some (.v (.c (.bool (nearL l l'))), h) := by
  unfold Fimpl_GiveNear
  have hl := hc.le
  have hl' := hc'.le
  have A := impl_beside
  simp only [fBox] at A
  refine runF_eq ?_
  simp [cimpl_GiveNear, hc.slen]
  refine AW_for1 l.length (fun i => l'.any (closeB (l.getD i default))) (fun i x => x.1 1 = .v (.c c') ∧ x.1 9 = .v (.c c) ∧ x.1 10 = .v (.c (.int .i64 l.length)) ∧ x.1 11 = .v (.c (.int .i64 i)) ∧ x.2.h = h) (by simp) ?_ ?_
  · rintro i ⟨T, ⟨h', lc⟩⟩ hin _ ⟨h1, h9, h10, h11, hs⟩
    simp only at h1 h9 h10 h11 hs
    subst hs
    obtain ⟨b, p, r, e1, _, e2, e3, e4, _⟩ := hc.box hin
    have hw := wrap1 (i := i) (by omega)
    simp [cimpl_GiveNear_L0, h1, h9, h10, h11, hc.slen, hc'.slen, hc.noLoc, hc'.noLoc, hin, e1, e2, e3, e4]
    refine AW_for1 l'.length (fun k => closeB l[i] (l'.getD k default)) (fun k x => x.1 1 = .v (.c c') ∧ x.1 9 = .v (.c c) ∧ x.1 10 = .v (.c (.int .i64 l.length)) ∧ x.1 11 = .v (.c (.int .i64 i)) ∧ x.1 6 = .v (.c (.ptr (.inl 6) 0)) ∧ x.2.lc 6 = some ⟨fBox.ces l[i], 6, true⟩ ∧ x.1 15 = .v (.c c') ∧ x.1 16 = .v (.c (.int .i64 l'.length)) ∧ x.1 17 = .v (.c (.int .i64 k)) ∧ x.2.h = h') (by simp [h1, h9, h10, h11, hc.noLoc, hc'.noLoc, fBox]) ?_ ?_
    · rintro k ⟨T, ⟨h', lc⟩⟩ hkn _ ⟨h1, h9, h10, h11, h6, hl6, h15, h16, h17, hs⟩
      simp only at h1 h9 h10 h11 h6 hl6 h15 h16 h17 hs
      subst hs
      obtain ⟨b', p', r', f1, _, f2, f3, f4, _⟩ := hc'.box hkn
      have hw' := wrap1 (i := k) (by omega)
      have hq := near_close l[i] l'[k]
      simp only [fBox] at hl6
      simp +contextual [cimpl_GiveNear_L1, h1, h9, h10, h11, h6, hl6, h15, h16, h17, hc'.slen, hc.noLoc, hc'.noLoc, hkn, hin, f1, f2, f3, f4, eimpl_GiveNear_impl_beside, A, hw', fBox, ← hq]
      intro hcl1 hcl2
      have hcl : closeB l[i] l'[k] = true := by rw [← hq]; simp [hcl1, hcl2]
      exact ⟨⟨_, List.getElem_mem hkn, hcl⟩, any_of hin (any_of hkn hcl)⟩
    · rintro ⟨T, ⟨h', lc⟩⟩ hno ⟨h1, h9, h10, h11, h6, hl6, h15, h16, h17, hs⟩
      simp only at h1 h9 h10 h11 h6 hl6 h15 h16 h17 hs
      subst hs
      have := any_no (l := l') (p := closeB l[i]) (fun j hj => by simpa [hj] using hno j hj)
      simp [cimpl_GiveNear_L1, h1, h9, h10, h11, h16, h17, hin, hw]
      simpa using this
  · rintro ⟨T, ⟨h', lc⟩⟩ hno ⟨h1, h9, h10, h11, hs⟩
    simp only at h1 h9 h10 h11 hs
    subst hs
    have : nearL l l' = false := any_no (fun j hj => by simpa [hj] using hno j hj)
    simp [cimpl_GiveNear_L0, h1, h9, h10, h11, this]

def zBox : Box := ⟨0, 0, 0, 0, 0, 0⟩
theorem take_repl_put {α : Type} (l : List α) (z : α) {i : Nat} (hi : i < l.length) : (l.take i ++ List.replicate (l.length - i) z).set i l[i] = l.take (i + 1) ++ List.replicate (l.length - (i + 1)) z := by
  have e : l.length - i = (l.length - (i + 1)) + 1 := by omega
  have e2 : l.take (i + 1) = l.take i ++ [l[i]] := by rw [List.take_add_one, List.getElem?_eq_getElem hi]; rfl
  rw [List.set_append_right _ _ (by rw [List.length_take]; omega), e, List.replicate_succ, e2, List.append_assoc, List.length_take, Nat.min_eq_left (by omega), Nat.sub_self]
  rfl
theorem laws_toGiveBoxS {S : Nat → Prop} (h : Heap) (c : Ce) (l : List Box) (ho : HOk h) (hc : RdF fBox S h c l) (hl : l.length ≤ 1048576) :
    Flaws_toGiveBoxS [.v (.c c)] h = some (.v (.c (.sl (.inr h.nx) 0 l.length .own)), h.push ⟨fBox.all l, 6, true⟩) := by
  unfold Flaws_toGiveBoxS
  have A := laws_toGiveBox
  simp only [fBox] at A
  have hz : (List.replicate l.length Z6).flatten = fBox.all (List.replicate l.length zBox) := fBox.all_repl _ zBox
  simp only [Z6] at hz
  refine runF_eq ?_
  simp [claws_toGiveBoxS, hc.slen, hc.noLoc, lim, show (l.length : Int) ≤ 4294967296 by omega, hz]
  refine AW_each l.length (fun i x => x.1 0 = .v (.c c) ∧ x.1 3 = .v (.c (.sl (.inr h.nx) 0 l.length .own)) ∧ x.1 4 = .v (.c (.int .i64 i)) ∧ x.2 = ⟨h.push ⟨fBox.all (l.take i ++ List.replicate (l.length - i) zBox), 6, true⟩, nol⟩) (by simp [St.push]) ?_ ?_
  · rintro i ⟨T, s⟩ hin ⟨h0, h3, h4, rfl⟩
    simp only at h0 h3 h4
    obtain ⟨b, p, r, e1, _, e2, e3, e4, _⟩ := hc.box hin
    have hne : b ≠ h.nx := by have := ho.lt e2; omega
    have hlen : (fBox.all (l.take i ++ List.replicate (l.length - i) zBox)).length = l.length * 6 := by rw [fBox.all_length]; simp [fBox]; omega
    have hcut := fBox.all_put (l.take i ++ List.replicate (l.length - i) zBox) (i := i) (by simp; omega) l[i]
    rw [take_repl_put l zBox hin] at hcut
    simp only [fBox] at hcut hlen
    have hw := wrap1 (i := i) (by omega)
    have he2 : (Ce.sl (Sum.inr h.nx) 0 l.length .own).eltAt 6 i = some (.inr h.nx, i * 6) := by simp [Ce.eltAt, hin]
    have hfit : i * 6 + 6 ≤ l.length * 6 := by omega
    simp [claws_toGiveBoxS_L0, h0, h3, h4, hc.slen, hin, e1, e2, Heap.push, upd, hne, e3, e4, elaws_toGiveBoxS_laws_toGiveBox, A, he2, hlen, hfit, hw, fBox]
    rw [← hcut]
    exact upd_upd _ _ _ _
  · rintro ⟨T, s⟩ ⟨h0, h3, h4, rfl⟩
    simp only at h0 h3 h4
    simp [claws_toGiveBoxS_L0, h0, h3, h4, hc.slen]

theorem laws_eqGiveBoxS {S S' : Nat → Prop} (h : Heap) (c c' : Ce) (l l' : List Box) (hc : RdF fBox S h c l) (hc' : RdF fBox S' h c' l') :
    ∃ r, Flaws_eqGiveBoxS [.v (.c c), .v (.c c')] h = some (.v (.c (.bool r)), h) ∧ (r = true ↔ l = l') := by
  unfold Flaws_eqGiveBoxS
  have hl := hc.le
  have A := laws_eqGiveBox
  simp only [fBox] at A
  obtain ⟨v, h', h1, r, rfl, rfl, h2⟩ := runF_of (env := elaws_eqGiveBoxS) (code := claws_eqGiveBoxS) (rs := [.t 4]) (args := [.v (.c c), .v (.c c')]) (h := h) (K := fun v h' => ∃ r, v = .v (.c (.bool r)) ∧ h' = h ∧ (r = true ↔ l = l')) (by
    by_cases hlen : l.length = l'.length
    · simp [claws_eqGiveBoxS, hc.slen, hc'.slen, hc.noLoc, hlen]
      refine AW_for1 l.length (fun i => !eqBox (l.getD i default) (l'.getD i default)) (fun i x => x.1 0 = .v (.c c) ∧ x.1 1 = .v (.c c') ∧ x.1 5 = .v (.c (.int .i64 i)) ∧ x.2 = ⟨h, nol⟩) (by simp) ?_ ?_
      · rintro i ⟨T, s⟩ hin _ ⟨h0, h1, h5, rfl⟩
        simp only at h0 h1 h5
        have hin' : i < l'.length := by omega
        obtain ⟨b, p, r, e1, _, e2, e3, e4, _⟩ := hc.box hin
        obtain ⟨b', p', r', f1, _, f2, f3, f4, _⟩ := hc'.box hin'
        have hw := wrap1 (i := i) (by omega)
        simp +contextual [claws_eqGiveBoxS_L0, h0, h1, h5, hc.slen, hin, hin', e1, e2, e3, e4, f1, f2, f3, f4, elaws_eqGiveBoxS_laws_eqGiveBox, A, hw]
        rintro hb rfl
        rw [(eqBox_iff _ _).2 rfl] at hb
        cases hb
      · rintro ⟨T, s⟩ hno ⟨h0, h1, h5, rfl⟩
        simp only at h0 h1 h5
        have hll : l = l' := by
          apply List.ext_getElem hlen
          intro j hj hj'
          exact (eqBox_iff _ _).1 (by simpa [hj, hj'] using hno j hj)
        simp [claws_eqGiveBoxS_L0, h0, h1, h5, hc.slen, hll]
    · have hne : l ≠ l' := fun e => hlen (by rw [e])
      have : ¬ (l.length : Int) = l'.length := by omega
      simp [claws_eqGiveBoxS, hc.slen, hc'.slen, hlen, this, hne])
  exact ⟨r, h1, h2⟩
theorem spec_GiveCut {S : Nat → Prop} (h : Heap) (c : Ce) (l : List Box) (k : Int) (ho : HOk h) (hc : RdF fBox S h c l) (hl : l.length ≤ 1048576) :
    ∃ c' h' fp, Fspec_GiveCut [.v (.c c), .v (.c (.int .i64 k))] h = some (.v (.c c'), h') ∧ NewF fBox h h' c' (cutB k l) fp := by
  unfold Fspec_GiveCut
  obtain ⟨v, h', h1, c', fp, rfl, h2⟩ := runF_of (env := espec_GiveCut) (code := cspec_GiveCut) (rs := [.t 4]) (args := [.v (.c c), .v (.c (.int .i64 k))]) (h := h) (K := fun v h' => ∃ c' fp, v = .v (.c c') ∧ NewF fBox h h' c' (cutB k l) fp) (by
    simp [cspec_GiveCut]
    refine AW_each l.length (fun i x => x.1 0 = .v (.c c) ∧ x.1 1 = .v (.c (.int .i64 k)) ∧ x.1 6 = .v (.c (.int .i64 i)) ∧ ∃ c5 fp, x.1 5 = .v (.c c5) ∧ NewF fBox h x.2.h c5 (cutB k (l.take i)) fp) ?_ ?_ ?_
    · simp [St.push]
      exact ⟨_, NewF.push ho [] 0 rfl⟩
    · rintro i ⟨T, ⟨h', lc⟩⟩ hin ⟨h0, h1, h6, c5, fp, h5, nw⟩
      simp only at h0 h1 h5 h6 nw
      obtain ⟨b, p, r, e1, _, e2, e3, e4, _⟩ := (hc.keep ho nw.fr).box hin
      have hw := wrap1 (i := i) (by omega)
      have hlen : (cutB k (l.take i)).length + 1 ≤ lim := by
        have := cutB_le k (l.take i)
        rw [List.length_take] at this
        simp only [lim]
        omega
      have ht := cutB_take k l hin
      by_cases hb : l[i].tout < k
      · have hcut : cut1 k l[i] = none := by simp [cut1, hb]
        rw [hcut] at ht
        simp only [Option.toList, List.append_nil] at ht
        simp [cspec_GiveCut_L0, h0, h1, h5, h6, hc.slen, hc.noLoc, nw.own.noLoc, hin, e1, e2, e3, e4, hw, hb, ht]
        exact ⟨fp, nw⟩
      · have hcut : cut1 k l[i] = some { l[i] with tin := if l[i].tin < k then k else l[i].tin } := by simp [cut1, hb]
        rw [hcut] at ht
        simp only [Option.toList] at ht
        obtain ⟨c'', h'', fp'', nw', _, _, _, hap⟩ := nw.append1 { l[i] with tin := if l[i].tin < k then k else l[i].tin } hlen
        simp only [fBox] at hap
        rw [← ht] at nw'
        by_cases hm : l[i].tin < k
        · simp only [hm, if_true] at hap
          simp [cspec_GiveCut_L0, h0, h1, h5, h6, hc.slen, hc.noLoc, nw.own.noLoc, hin, e1, e2, e3, e4, hw, hb, hm, hap]
          exact ⟨fp'', nw'⟩
        · simp only [hm, if_false] at hap
          simp [cspec_GiveCut_L0, h0, h1, h5, h6, hc.slen, hc.noLoc, nw.own.noLoc, hin, e1, e2, e3, e4, hw, hb, hm, hap]
          exact ⟨fp'', nw'⟩
    · rintro ⟨T, ⟨h', lc⟩⟩ ⟨h0, h1, h6, c5, fp, h5, nw⟩
      simp only at h0 h1 h5 h6 nw
      rw [List.take_length] at nw
      simp [cspec_GiveCut_L0, h0, h1, h5, h6, hc.slen, nw.own.noLoc]
      exact ⟨fp, nw⟩)
  exact ⟨c', h', fp, h1, h2⟩
theorem impl_GiveCut {S : Nat → Prop} (h : Heap) (c : Ce) (l : List Box) (k : Int) (ho : HOk h) (hc : RdF fBox S h c l) (hl : l.length ≤ 1048576) :
    ∃ c' h' fp, Fimpl_GiveCut [.v (.c c), .v (.c (.int .i64 k))] h = some (.v (.c c'), h') ∧ NewF fBox h h' c' (cutB k l) fp := by
  unfold Fimpl_GiveCut
  obtain ⟨v, h', h1, c', fp, rfl, h2⟩ := runF_of (env := eimpl_GiveCut) (code := cimpl_GiveCut) (rs := [.t 4]) (args := [.v (.c c), .v (.c (.int .i64 k))]) (h := h) (K := fun v h' => ∃ c' fp, v = .v (.c c') ∧ NewF fBox h h' c' (cutB k l) fp) (by
    simp [cimpl_GiveCut, hc.slen]
    refine AW_each l.length (fun i x => x.1 1 = .v (.c (.int .i64 k)) ∧ x.1 9 = .v (.c c) ∧ x.1 10 = .v (.c (.int .i64 l.length)) ∧ x.1 11 = .v (.c (.int .i64 i)) ∧ ∃ c5 fp, x.1 5 = .v (.c c5) ∧ NewF fBox h x.2.h c5 (cutB k (l.take i)) fp) ?_ ?_ ?_
    · simp [St.push]
      exact ⟨_, NewF.push ho [] 0 rfl⟩
    · rintro i ⟨T, ⟨h', lc⟩⟩ hin ⟨h1, h9, h10, h11, c5, fp, h5, nw⟩
      simp only at h1 h9 h10 h11 h5 nw
      obtain ⟨b, p, r, e1, _, e2, e3, e4, _⟩ := (hc.keep ho nw.fr).box hin
      have hw := wrap1 (i := i) (by omega)
      have hlen : (cutB k (l.take i)).length + 1 ≤ lim := by
        have := cutB_le k (l.take i)
        rw [List.length_take] at this
        simp only [lim]
        omega
      have ht := cutB_take k l hin
      by_cases hb : l[i].tout < k
      · have hcut : cut1 k l[i] = none := by simp [cut1, hb]
        rw [hcut] at ht
        simp only [Option.toList, List.append_nil] at ht
        have hb' : ¬ k ≤ l[i].tout := by omega
        simp [cimpl_GiveCut_L0, h1, h9, h10, h11, h5, hc.noLoc, nw.own.noLoc, hin, e1, e2, e3, e4, hw, hb', ht]
        exact ⟨fp, nw⟩
      · have hcut : cut1 k l[i] = some { l[i] with tin := max2 l[i].tin k } := by simp [cut1, hb, max2]
        rw [hcut] at ht
        simp only [Option.toList] at ht
        obtain ⟨c'', h'', fp'', nw', _, _, _, hap⟩ := nw.append1 { l[i] with tin := max2 l[i].tin k } hlen
        simp only [fBox] at hap
        rw [← ht] at nw'
        have hb' : k ≤ l[i].tout := by omega
        simp [cimpl_GiveCut_L0, h1, h9, h10, h11, h5, hc.noLoc, nw.own.noLoc, hin, e1, e2, e3, e4, hw, hb', hap]
        exact ⟨fp'', nw'⟩
    · rintro ⟨T, ⟨h', lc⟩⟩ ⟨h1, h9, h10, h11, c5, fp, h5, nw⟩
      simp only at h1 h9 h10 h11 h5 nw
      rw [List.take_length] at nw
      simp [cimpl_GiveCut_L0, h1, h9, h10, h11, h5, nw.own.noLoc]
      exact ⟨fp, nw⟩)
  exact ⟨c', h', fp, h1, h2⟩
/-- What the marks write. -/
def mkBox (k : Int) (i : Nat) : Box := ⟨k + 6 * i, k + 6 * i + 1, k + 6 * i + 2, k + 6 * i + 3, k + 6 * i + 4, k + 6 * i + 5⟩
def marksBox (k : Int) (n : Nat) : List Box := (List.range n).map (mkBox k)
theorem marksBox_length (k : Int) (n : Nat) : (marksBox k n).length = n := by simp [marksBox]
theorem marksBox_at (k : Int) (n i : Nat) (h : i < (marksBox k n).length) : (marksBox k n)[i] = mkBox k i := by simp [marksBox]
theorem laws_markGiveBoxS (h : Heap) (c : Ce) (l : List Box) (fp : List Nat) (k : Int) (ho : HOk h) (hc : OwnF fBox h c l fp) (hl : l.length ≤ 1048576) (hk : 0 ≤ k ∧ k ≤ 1099511627776) :
    ∃ h', Flaws_markGiveBoxS [.v (.c c), .v (.c (.int .i64 k))] h = some (.v (.c (.int .i64 (k + 6 * l.length))), h') ∧ OwnF fBox h' c (marksBox k l.length) fp ∧ Chg fp h h' := by
  unfold Flaws_markGiveBoxS
  rcases hc with ⟨rfl, rfl, rfl⟩ | ⟨b, rfl, hb, rfl⟩
  · refine ⟨h, runF_eq ?_, .inl ⟨rfl, rfl, rfl⟩, Chg.refl ho⟩
    simp [claws_markGiveBoxS]
    refine AW_each 0 (fun i x => x.1 0 = .v (.c .nils) ∧ x.1 1 = .v (.c (.int .i64 k)) ∧ x.1 5 = .v (.c (.int .i64 0)) ∧ x.2 = ⟨h, nol⟩) (by simp) (by intros; omega) ?_
    rintro ⟨T, s⟩ ⟨h0, h1, h5, rfl⟩
    simp only at h0 h1 h5
    simp [claws_markGiveBoxS_L0, h0, h1, h5, Ce.slen]
  · refine ⟨⟨h.nx, upd h.hp b (some ⟨fBox.all (marksBox k l.length), 6, true⟩)⟩, runF_eq ?_, .inr ⟨b, by rw [marksBox_length], by simp [upd, fBox], rfl⟩, Chg.one ho (ho.lt hb) _⟩
    simp [claws_markGiveBoxS]
    refine AW_each l.length (fun i x => x.1 0 = .v (.c (.sl (.inr b) 0 l.length .own)) ∧ x.1 1 = .v (.c (.int .i64 (k + 6 * i))) ∧ x.1 5 = .v (.c (.int .i64 i)) ∧ x.2 = ⟨⟨h.nx, upd h.hp b (some ⟨fBox.all ((marksBox k l.length).take i ++ l.drop i), 6, true⟩)⟩, nol⟩) ?_ ?_ ?_
    · have := upd_same hb
      simp only [show fBox.sz = 6 from rfl] at this
      simp [this]
    · rintro i ⟨T, s⟩ hin ⟨h0, h1, h5, rfl⟩
      simp only at h0 h1 h5
      obtain ⟨K0, k0⟩ : ∃ K, K = k + 6 * (i : Int) := ⟨_, rfl⟩
      rw [← k0] at h1
      obtain ⟨K1, k1⟩ : ∃ K, K = K0 + 1 := ⟨_, rfl⟩
      have w0 : IntKind.i64.wrap (K0 + 1) = K1 := by rw [k1]; exact wrap_i64 (by omega) (by omega)
      obtain ⟨K2, k2⟩ : ∃ K, K = K1 + 1 := ⟨_, rfl⟩
      have w1 : IntKind.i64.wrap (K1 + 1) = K2 := by rw [k2]; exact wrap_i64 (by omega) (by omega)
      obtain ⟨K3, k3⟩ : ∃ K, K = K2 + 1 := ⟨_, rfl⟩
      have w2 : IntKind.i64.wrap (K2 + 1) = K3 := by rw [k3]; exact wrap_i64 (by omega) (by omega)
      obtain ⟨K4, k4⟩ : ∃ K, K = K3 + 1 := ⟨_, rfl⟩
      have w3 : IntKind.i64.wrap (K3 + 1) = K4 := by rw [k4]; exact wrap_i64 (by omega) (by omega)
      obtain ⟨K5, k5⟩ : ∃ K, K = K4 + 1 := ⟨_, rfl⟩
      have w4 : IntKind.i64.wrap (K4 + 1) = K5 := by rw [k5]; exact wrap_i64 (by omega) (by omega)
      obtain ⟨K6, k6⟩ : ∃ K, K = K5 + 1 := ⟨_, rfl⟩
      have w5 : IntKind.i64.wrap (K5 + 1) = K6 := by rw [k6]; exact wrap_i64 (by omega) (by omega)
      obtain ⟨L, hL⟩ : ∃ L, L = (marksBox k l.length).take i ++ l.drop i := ⟨_, rfl⟩
      rw [← hL]
      have hiL : i < L.length := by rw [hL]; simp [marksBox]; omega
      have hLi : L[i] = l[i] := by
        simp only [hL]
        rw [List.getElem_append_right (by simp; omega)]
        simp [marksBox, Nat.min_eq_left (Nat.le_of_lt hin)]
      have hlen : (fBox.all L).length = l.length * 6 := by rw [fBox.all_length, hL]; simp [fBox, marksBox]; omega
      have hlenS : ∀ B, (fBox.all (L.set i B)).length = l.length * 6 := by intro B; rw [fBox.all_length, List.length_set, ← fBox.all_length, hlen]
      have s0 := fBox.all_set L (i := i) (k := 0) (by simpa using hiL) (by decide) (b := ⟨K0, l[i].y, l[i].low, l[i].high, l[i].tin, l[i].tout⟩) (v := .int .i64 K0) (by simp [fBox, hLi])
      simp only [show fBox.sz = 6 from rfl, Nat.add_zero, Nat.add_assoc, Nat.reduceAdd] at s0
      have s1 := fBox.all_set (L.set i ⟨K0, l[i].y, l[i].low, l[i].high, l[i].tin, l[i].tout⟩) (i := i) (k := 1) (by simpa using hiL) (by decide) (b := ⟨K0, K1, l[i].low, l[i].high, l[i].tin, l[i].tout⟩) (v := .int .i64 K1) (by simp [fBox])
      rw [List.set_set] at s1
      simp only [show fBox.sz = 6 from rfl, Nat.add_zero, Nat.add_assoc, Nat.reduceAdd] at s1
      have s2 := fBox.all_set (L.set i ⟨K0, K1, l[i].low, l[i].high, l[i].tin, l[i].tout⟩) (i := i) (k := 2) (by simpa using hiL) (by decide) (b := ⟨K0, K1, K2, l[i].high, l[i].tin, l[i].tout⟩) (v := .int .i64 K2) (by simp [fBox])
      rw [List.set_set] at s2
      simp only [show fBox.sz = 6 from rfl, Nat.add_zero, Nat.add_assoc, Nat.reduceAdd] at s2
      have s3 := fBox.all_set (L.set i ⟨K0, K1, K2, l[i].high, l[i].tin, l[i].tout⟩) (i := i) (k := 3) (by simpa using hiL) (by decide) (b := ⟨K0, K1, K2, K3, l[i].tin, l[i].tout⟩) (v := .int .i64 K3) (by simp [fBox])
      rw [List.set_set] at s3
      simp only [show fBox.sz = 6 from rfl, Nat.add_zero, Nat.add_assoc, Nat.reduceAdd] at s3
      have s4 := fBox.all_set (L.set i ⟨K0, K1, K2, K3, l[i].tin, l[i].tout⟩) (i := i) (k := 4) (by simpa using hiL) (by decide) (b := ⟨K0, K1, K2, K3, K4, l[i].tout⟩) (v := .int .i64 K4) (by simp [fBox])
      rw [List.set_set] at s4
      simp only [show fBox.sz = 6 from rfl, Nat.add_zero, Nat.add_assoc, Nat.reduceAdd] at s4
      have s5 := fBox.all_set (L.set i ⟨K0, K1, K2, K3, K4, l[i].tout⟩) (i := i) (k := 5) (by simpa using hiL) (by decide) (b := ⟨K0, K1, K2, K3, K4, K5⟩) (v := .int .i64 K5) (by simp [fBox])
      rw [List.set_set] at s5
      simp only [show fBox.sz = 6 from rfl, Nat.add_zero, Nat.add_assoc, Nat.reduceAdd] at s5
      have q1 : i * 6 + 1 ≤ l.length * 6 := by omega
      have q2 : i * 6 + 2 ≤ l.length * 6 := by omega
      have q3 : i * 6 + 3 ≤ l.length * 6 := by omega
      have q4 : i * 6 + 4 ≤ l.length * 6 := by omega
      have q5 : i * 6 + 5 ≤ l.length * 6 := by omega
      have q6 : i * 6 + 6 ≤ l.length * 6 := by omega
      have g1 : (fBox.all (L.set i ⟨K0, l[i].y, l[i].low, l[i].high, l[i].tin, l[i].tout⟩)).length = l.length * 6 := hlenS _
      have g2 : (fBox.all (L.set i ⟨K0, K1, l[i].low, l[i].high, l[i].tin, l[i].tout⟩)).length = l.length * 6 := hlenS _
      have g3 : (fBox.all (L.set i ⟨K0, K1, K2, l[i].high, l[i].tin, l[i].tout⟩)).length = l.length * 6 := hlenS _
      have g4 : (fBox.all (L.set i ⟨K0, K1, K2, K3, l[i].tin, l[i].tout⟩)).length = l.length * 6 := hlenS _
      have g5 : (fBox.all (L.set i ⟨K0, K1, K2, K3, K4, l[i].tout⟩)).length = l.length * 6 := hlenS _
      have g6 : (fBox.all (L.set i ⟨K0, K1, K2, K3, K4, K5⟩)).length = l.length * 6 := hlenS _
      have hw := wrap1 (i := i) (by omega)
      have he2 : (Ce.sl (Sum.inr b) 0 l.length .own).eltAt 6 i = some (.inr b, i * 6) := by simp [Ce.eltAt, hin]
      have hend : L.set i ⟨K0, K1, K2, K3, K4, K5⟩ = (marksBox k l.length).take (i + 1) ++ l.drop (i + 1) := by
        rw [hL, ← take_drop_set _ _ hin (by rw [marksBox_length]; omega), marksBox_at]
        simp only [mkBox]
        congr 2 <;> omega
      have hK : K6 = k + 6 * ((i : Int) + 1) := by omega
      simp [claws_markGiveBoxS_L0, h0, h1, h5, Ce.slen, hin, he2, upd_upd, hlen, s0, w0, q1, g1, s1, w1, q2, g2, s2, w2, q3, g3, s3, w3, q4, g4, s4, w4, q5, g5, s5, w5, q6, g6, hw]
      exact ⟨hK, by rw [hend]⟩
    · rintro ⟨T, s⟩ ⟨h0, h1, h5, rfl⟩
      simp only at h0 h1 h5
      have e1 : (marksBox k l.length).take l.length = marksBox k l.length := by
        apply List.take_of_length_le
        rw [marksBox_length]; omega
      simp [claws_markGiveBoxS_L0, h0, h1, h5, Ce.slen, e1]

theorem laws_heldGiveBoxS {S : Nat → Prop} (h : Heap) (c : Ce) (n : Nat) (k : Int) (hc : RdF fBox S h c (marksBox k n)) (hl : n ≤ 1048576) (hk : 0 ≤ k ∧ k ≤ 1099511627776) :
    Flaws_heldGiveBoxS [.v (.c c), .v (.c (.int .i64 k))] h = some (.v (.c (.int .i64 (k + 6 * n))), h) := by
  unfold Flaws_heldGiveBoxS
  refine runF_eq ?_
  have hsl := hc.slen
  rw [marksBox_length] at hsl
  simp [claws_heldGiveBoxS]
  refine AW_each n (fun i x => x.1 0 = .v (.c c) ∧ x.1 1 = .v (.c (.int .i64 (k + 6 * i))) ∧ x.1 5 = .v (.c (.int .i64 i)) ∧ x.2 = ⟨h, nol⟩) (by simp) ?_ ?_
  · rintro i ⟨T, s⟩ hin ⟨h0, h1, h5, rfl⟩
    simp only at h0 h1 h5
    obtain ⟨eb, ep, er, e1, _, e2, e3, e4, e5, e6, e7, e8, e9, e10⟩ := hc.box (show i < (marksBox k n).length by rw [marksBox_length]; exact hin)
    rw [marksBox_at] at e5 e6 e7 e8 e9 e10
    simp only [mkBox] at e5 e6 e7 e8 e9 e10
    obtain ⟨K0, k0⟩ : ∃ K, K = k + 6 * (i : Int) := ⟨_, rfl⟩
    obtain ⟨K1, k1⟩ : ∃ K, K = K0 + 1 := ⟨_, rfl⟩
    have w0 : IntKind.i64.wrap (K0 + 1) = K1 := by rw [k1]; exact wrap_i64 (by omega) (by omega)
    obtain ⟨K2, k2⟩ : ∃ K, K = K1 + 1 := ⟨_, rfl⟩
    have w1 : IntKind.i64.wrap (K1 + 1) = K2 := by rw [k2]; exact wrap_i64 (by omega) (by omega)
    obtain ⟨K3, k3⟩ : ∃ K, K = K2 + 1 := ⟨_, rfl⟩
    have w2 : IntKind.i64.wrap (K2 + 1) = K3 := by rw [k3]; exact wrap_i64 (by omega) (by omega)
    obtain ⟨K4, k4⟩ : ∃ K, K = K3 + 1 := ⟨_, rfl⟩
    have w3 : IntKind.i64.wrap (K3 + 1) = K4 := by rw [k4]; exact wrap_i64 (by omega) (by omega)
    obtain ⟨K5, k5⟩ : ∃ K, K = K4 + 1 := ⟨_, rfl⟩
    have w4 : IntKind.i64.wrap (K4 + 1) = K5 := by rw [k5]; exact wrap_i64 (by omega) (by omega)
    obtain ⟨K6, k6⟩ : ∃ K, K = K5 + 1 := ⟨_, rfl⟩
    have w5 : IntKind.i64.wrap (K5 + 1) = K6 := by rw [k6]; exact wrap_i64 (by omega) (by omega)
    simp only [← k0] at h1 e5 e6 e7 e8 e9 e10
    rw [show K0 + 1 = K1 by omega] at e6
    rw [show K0 + 2 = K2 by omega] at e7
    rw [show K0 + 3 = K3 by omega] at e8
    rw [show K0 + 4 = K4 by omega] at e9
    rw [show K0 + 5 = K5 by omega] at e10
    have hw := wrap1 (i := i) (by omega)
    have hK : K6 = k + 6 * ((i : Int) + 1) := by omega
    simp [claws_heldGiveBoxS_L0, h0, h1, h5, hsl, hin, e1, e2, e5, e6, e7, e8, e9, e10, w0, w1, w2, w3, w4, w5, hw]
    exact hK
  · rintro ⟨T, s⟩ ⟨h0, h1, h5, rfl⟩
    simp only at h0 h1 h5
    simp [claws_heldGiveBoxS_L0, h0, h1, h5, hsl]

end Go.Abs
