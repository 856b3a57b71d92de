/-
  Runways and tubes: what the functions compute.
-/
import Derived.Test.YtenccnpdaldkfaaB79a77
import Derived.Test.YtenccnpdaldkfaaB58efe
import Derived.Test.YtenccnpdaldkfaaB69a55
import Derived.Test.YtenccnpdaldkfaaB4dbb2
set_option linter.unusedSimpArgs false
set_option linter.unusedVariables false
namespace Go.Abs
set_option linter.unusedSimpArgs false
set_option linter.unusedVariables false
attribute [local simp] AW_skip AW_exit AW_ret AW_seq AW_block AW_cond CW_ite AW_reg AW_regD RW_nil RW_cons RW_guard GW_t GW_f GW_gt GW_gf GW_tup GY_some GY_tt GY_ff gd_t gd_f pk_t pk_f pk_and pk_or pk_andc pk_orc pk_bool gd_gd SW_some ThenQ_normal ThenQ_exit ThenQ_ret BlockQ_normal BlockQ_exit BlockQ_ret kill_nil kill_cons killT_at killL_at upo_some upo_none ev_t ev_k FinQ_ret FinQ_normal upd_eq upd_ne argsT_zero argsT_succ aop.eq_1 aop_pick aop.eq_3 aop.eq_4 aop.eq_5 aop.eq_6 aop.eq_7 aop.eq_8 aop.eq_9 aop.eq_10 aop.eq_11 aop.eq_12 aop.eq_13 aop.eq_14 aop.eq_15 aop.eq_16 aop.eq_17 aop.eq_18 aop.eq_19 aop.eq_20 aop.eq_21 aop_slice_hi aop_slice_lo aop.eq_23 aop.eq_24 aop.eq_26 aop.eq_27 aop.eq_28 aop.eq_29 aop.eq_31 aop.eq_32 aop_maxs2 aop_mins2 aop_mins3 aop_len aop_iaddr Av.bool? Av.ptr? Av.int? Av.int64? Av.str? Av.agg? ressA resA resOf noLoc_int noLoc_bool noLoc_str noLoc_nils noLoc_nilp noLoc_ptrl noLoc_ptrr noLoc_sll noLoc_slr noLoc_fn noLoc_tc noLoc_tagg noLoc_av noLoc_atup ce_c tv_v cells_c cells_agg noLocs keyLoc evs callA St.set St.get unAv binCe killV_int killV_bool killV_str killV_nils killV_nilp killV_agg killV_no killV_tup killV_ptrl killV_ptrr killV_sll killV_slr killV_fn killV_noLoc fillA repl
attribute [local congr] GY_congr

theorem laws_szGiveField (h : Heap) (f : Fld) (k : Int) (hw : SzS f.name) (hk : 0 ≤ k ∧ k ≤ 1048576) :
    ∃ r, Flaws_szGiveField [.v (.agg (fField.ces f)), .v (.c (.int .i64 k))] h = some (.v (.c (.int .i64 r)), h) ∧ Left k r := by
  unfold Flaws_szGiveField
  have e := sub_left (n := f.name.size) hk hw
  by_cases hb : k < f.name.size
  · have e1 : k - (f.name.size : Int) < 0 := by omega
    refine ⟨-1, runF_eq ?_, .inl rfl⟩
    simp [claws_szGiveField, fField, e, e1]
  · have e1 : ¬ k - (f.name.size : Int) < 0 := by omega
    refine ⟨k - f.name.size, runF_eq ?_, .inr (by omega)⟩
    simp [claws_szGiveField, fField, e, e1]

theorem laws_szGiveFieldS {S : Nat → Prop} (h : Heap) (c : Ce) (l : List Fld) (k : Int) (hc : RdF fField S h c l) (hw : ∀ f, f ∈ l → SzS f.name) (hk : 0 ≤ k ∧ k ≤ 1048576) :
    ∃ r, Flaws_szGiveFieldS [.v (.c c), .v (.c (.int .i64 k))] h = some (.v (.c (.int .i64 r)), h) ∧ Left k r ∧ (0 ≤ r → l.length ≤ 1048576) := by
  unfold Flaws_szGiveFieldS
  have hl := hc.le
  have e := sub_left (n := l.length) hk hl
  have A := laws_szGiveField
  simp only [fField] at A
  obtain ⟨v, h', h1, r, rfl, rfl, h2⟩ := runF_of (env := elaws_szGiveFieldS) (code := claws_szGiveFieldS) (rs := [.t 4]) (args := [.v (.c c), .v (.c (.int .i64 k))]) (h := h) (K := fun v h' => ∃ r, v = .v (.c (.int .i64 r)) ∧ h' = h ∧ Left k r ∧ (0 ≤ r → l.length ≤ 1048576)) (by
    by_cases hb : k < l.length
    · have e1 : k - (l.length : Int) < 0 := by omega
      simp [claws_szGiveFieldS, hc.slen, e, e1]
      exact .inl rfl
    · have e1 : ¬ k - (l.length : Int) < 0 := by omega
      simp [claws_szGiveFieldS, hc.slen, hc.noLoc, e, e1]
      refine AW_loop (fun i x => i ≤ l.length ∧ x.1 0 = .v (.c c) ∧ x.1 5 = .v (.c (.int .i64 i)) ∧ x.2 = ⟨h, nol⟩ ∧ ∃ r, x.1 1 = .v (.c (.int .i64 r)) ∧ 0 ≤ r ∧ r ≤ k) l.length (by simp; omega) ?_
      rintro i ⟨T, s⟩ hi ⟨_, h0, h5, rfl, r, h1, hr⟩
      simp only at h0 h1 h5
      by_cases hin : i < l.length
      · obtain ⟨eb, ep, er, e1, _, e2, e3, e4, e5, e6, e7⟩ := hc.field hin
        have hw1 := wrap1 (i := i) (by omega)
        obtain ⟨r', A1, A2⟩ := A h l[i] r (hw _ (List.getElem_mem hin)) (by omega)
        rcases A2 with rfl | A2
        · simp [claws_szGiveFieldS_L0, h0, h1, h5, hc.slen, hin, e1, e2, e3, e4, elaws_szGiveFieldS_laws_szGiveField, A1, hw1]
          exact .inl rfl
        · have A3 : ¬ r' < 0 := by omega
          simp [claws_szGiveFieldS_L0, h0, h1, h5, hc.slen, hin, e1, e2, e3, e4, elaws_szGiveFieldS_laws_szGiveField, A1, A3, hw1]
          omega
      · have hie : i = l.length := by omega
        subst hie
        simp [claws_szGiveFieldS_L0, h0, h1, h5, hc.slen]
        exact ⟨.inr hr, fun _ => by omega⟩)
  exact ⟨r, h1, h2⟩

def zField : Fld := ⟨⟨#[]⟩, 0, 0⟩
theorem laws_toGiveField (h : Heap) (b : Fld) : Flaws_toGiveField [.v (.agg (fField.ces b))] h = some (.v (.agg (fField.ces b)), h) := by
  unfold Flaws_toGiveField
  refine runF_eq ?_
  simp [claws_toGiveField, fField]
theorem laws_toGiveFieldS {S : Nat → Prop} (h : Heap) (c : Ce) (l : List Fld) (ho : HOk h) (hc : RdF fField S h c l) (hl : l.length ≤ 1048576) :
    Flaws_toGiveFieldS [.v (.c c)] h = some (.v (.c (.sl (.inr h.nx) 0 l.length .own)), h.push ⟨fField.all l, 3, true⟩) := by
  unfold Flaws_toGiveFieldS
  have A := laws_toGiveField
  simp only [fField] at A
  have hz : (List.replicate l.length [.str ⟨#[]⟩, .int .i64 0, .int .i64 0]).flatten = fField.all (List.replicate l.length zField) := fField.all_repl _ zField
  refine runF_eq ?_
  simp [claws_toGiveFieldS, hc.slen, hc.noLoc, lim, show (l.length : Int) ≤ 4294967296 by omega, hz]
  refine AW_each l.length (fun i x => x.1 0 = .v (.c c) ∧ x.1 3 = .v (.c (.sl (.inr h.nx) 0 l.length .own)) ∧ x.1 4 = .v (.c (.int .i64 i)) ∧ x.2 = ⟨h.push ⟨fField.all (l.take i ++ List.replicate (l.length - i) zField), 3, true⟩, nol⟩) (by simp [St.push]) ?_ ?_
  · rintro i ⟨T, s⟩ hin ⟨h0, h3, h4, rfl⟩
    simp only at h0 h3 h4
    obtain ⟨eb, ep, er, e1, _, e2, e3, e4, e5, e6, e7⟩ := hc.field hin
    have hne : eb ≠ h.nx := by have := ho.lt e2; omega
    have hlen : (fField.all (l.take i ++ List.replicate (l.length - i) zField)).length = l.length * 3 := by rw [fField.all_length]; simp [fField]; omega
    have hcut := fField.all_put (l.take i ++ List.replicate (l.length - i) zField) (i := i) (by simp; omega) l[i]
    rw [take_repl_put l zField hin] at hcut
    simp only [fField] at hcut hlen
    have hw := wrap1 (i := i) (by omega)
    have he2 : (Ce.sl (Sum.inr h.nx) 0 l.length .own).eltAt 3 i = some (.inr h.nx, i * 3) := by simp [Ce.eltAt, hin]
    have hfit : i * 3 + 3 ≤ l.length * 3 := by omega
    simp [claws_toGiveFieldS_L0, h0, h3, h4, hc.slen, hin, e1, e2, Heap.push, upd, hne, e3, e4, elaws_toGiveFieldS_laws_toGiveField, A, he2, hlen, hfit, hw, fField]
    rw [← hcut]
    exact upd_upd _ _ _ _
  · rintro ⟨T, s⟩ ⟨h0, h3, h4, rfl⟩
    simp only at h0 h3 h4
    simp [claws_toGiveFieldS_L0, h0, h3, h4, hc.slen]

def eqField (a b : Fld) : Bool := a.name.toList == b.name.toList && a.x == b.x && a.y == b.y
theorem eqField_iff (a b : Fld) : eqField a b = true ↔ a = b := by
  cases a; cases b
  simp [eqField, and_assoc, bytes_eq]
theorem laws_eqGiveField (h : Heap) (a b : Fld) : Flaws_eqGiveField [.v (.agg (fField.ces a)), .v (.agg (fField.ces b))] h = some (.v (.c (.bool (eqField a b))), h) := by
  unfold Flaws_eqGiveField eqField
  refine runF_eq ?_
  simp +contextual [claws_eqGiveField, fField]

theorem laws_eqGiveFieldS {S S' : Nat → Prop} (h : Heap) (c c' : Ce) (l l' : List Fld) (hc : RdF fField S h c l) (hc' : RdF fField S' h c' l') :
    ∃ r, Flaws_eqGiveFieldS [.v (.c c), .v (.c c')] h = some (.v (.c (.bool r)), h) ∧ (r = true ↔ l = l') := by
  unfold Flaws_eqGiveFieldS
  have hl := hc.le
  have A := laws_eqGiveField
  simp only [fField] at A
  obtain ⟨v, h', h1, r, rfl, rfl, h2⟩ := runF_of (env := elaws_eqGiveFieldS) (code := claws_eqGiveFieldS) (rs := [.t 4]) (args := [.v (.c c), .v (.c c')]) (h := h) (K := fun v h' => ∃ r, v = .v (.c (.bool r)) ∧ h' = h ∧ (r = true ↔ l = l')) (by
    by_cases hlen : l.length = l'.length
    · simp [claws_eqGiveFieldS, hc.slen, hc'.slen, hc.noLoc, hlen]
      refine AW_for1 l.length (fun i => !eqField (l.getD i default) (l'.getD i default)) (fun i x => x.1 0 = .v (.c c) ∧ x.1 1 = .v (.c c') ∧ x.1 5 = .v (.c (.int .i64 i)) ∧ x.2 = ⟨h, nol⟩) (by simp) ?_ ?_
      · rintro i ⟨T, s⟩ hin _ ⟨h0, h1, h5, rfl⟩
        simp only at h0 h1 h5
        have hin' : i < l'.length := by omega
        obtain ⟨eb, ep, er, e1, _, e2, e3, e4, e5, e6, e7⟩ := hc.field hin
        obtain ⟨fb, fp, fr, f1, _, f2, f3, f4, f5, f6, f7⟩ := hc'.field hin'
        have hw := wrap1 (i := i) (by omega)
        simp +contextual [claws_eqGiveFieldS_L0, h0, h1, h5, hc.slen, hin, hin', e1, e2, e3, e4, f1, f2, f3, f4, elaws_eqGiveFieldS_laws_eqGiveField, A, hw]
        rintro hb rfl
        rw [(eqField_iff _ _).2 rfl] at hb
        cases hb
      · rintro ⟨T, s⟩ hno ⟨h0, h1, h5, rfl⟩
        simp only at h0 h1 h5
        have hll : l = l' := by
          apply List.ext_getElem hlen
          intro j hj hj'
          exact (eqField_iff _ _).1 (by simpa [hj, hj'] using hno j hj)
        simp [claws_eqGiveFieldS_L0, h0, h1, h5, hc.slen, hll]
    · have hne : l ≠ l' := fun e => hlen (by rw [e])
      have : ¬ (l.length : Int) = l'.length := by omega
      simp [claws_eqGiveFieldS, hc.slen, hc'.slen, hlen, this, hne])
  exact ⟨r, h1, h2⟩


theorem spec_l1Next (h : Heap) (a b : Box) : Fspec_l1Next [.v (.agg (fBox.ces a)), .v (.agg (fBox.ces b))] h = some (.v (.c (.bool (nextB a b))), h) := by
  unfold Fspec_l1Next nextB wrap64
  refine runF_eq ?_
  simp +contextual [cspec_l1Next, fBox, espec_l1Next_spec_l1In, spec_l1In, Bool.and_assoc]
theorem spec_l1Ground {S : Nat → Prop} (h : Heap) (c : Ce) (l : List Fld) (b : Box) (hc : RdF fField S h c l) :
    Fspec_l1Ground [.v (.c c), .v (.agg (fBox.ces b))] h = some (.v (.c (.bool (groundB l b))), h) := by
  unfold Fspec_l1Ground
  have hl := hc.le
  refine runF_eq ?_
  simp [cspec_l1Ground, hc.noLoc, fBox]
  refine AW_for1 l.length (fun i => (l.getD i default).x == b.x && (l.getD i default).y == b.y && b.low == 0) (fun i x => x.1 0 = .v (.c c) ∧ x.1 3 = .v (.c (.ptr (.inl 3) 0)) ∧ x.2.lc 3 = some ⟨fBox.ces b, 6, true⟩ ∧ x.1 5 = .v (.c (.int .i64 i)) ∧ x.2.h = h) (by simp [fBox, hc.noLoc]) ?_ ?_
  · rintro i ⟨T, ⟨h', lc⟩⟩ hin _ ⟨h0, h3, hl3, h5, hs⟩
    simp only [fBox] at h0 h3 hl3 h5 hs
    subst hs
    obtain ⟨eb, ep, er, e1, _, e2, e3, e4, e5, e6, e7⟩ := hc.field hin
    have hw := wrap1 (i := i) (by omega)
    have fin : l[i].x = b.x → l[i].y = b.y → b.low = 0 → groundB l b = true := fun k1 k2 k3 => any_of hin (by simp [k1, k2, k3])
    simp +contextual [cspec_l1Ground_L0, h0, h3, hl3, h5, hc.slen, hin, e1, e2, e3, e5, e6, e7, hw, fin, fBox]
  · rintro ⟨T, ⟨h', lc⟩⟩ hno ⟨h0, h3, hl3, h5, hs⟩
    simp only at h0 h3 hl3 h5 hs
    subst hs
    have : groundB l b = false := any_no (fun j hj => by simpa [hj] using hno j hj)
    simp [cspec_l1Ground_L0, h0, h5, hc.slen, this]
theorem impl_isField {S : Nat → Prop} (h : Heap) (c : Ce) (l : List Fld) (x y : Int) (hc : RdF fField S h c l) :
    Fimpl_isField [.v (.c c), .v (.c (.int .i64 x)), .v (.c (.int .i64 y))] h = some (.v (.c (.bool (isFieldB l x y))), h) := by
  unfold Fimpl_isField
  have hl := hc.le
  refine runF_eq ?_
  simp [cimpl_isField, hc.slen]
  refine AW_for1 l.length (fun i => (l.getD i default).x == x && (l.getD i default).y == y) (fun i s => s.1 1 = .v (.c (.int .i64 x)) ∧ s.1 2 = .v (.c (.int .i64 y)) ∧ s.1 9 = .v (.c c) ∧ s.1 10 = .v (.c (.int .i64 l.length)) ∧ s.1 11 = .v (.c (.int .i64 i)) ∧ s.2.h = h) (by simp) ?_ ?_
  · rintro i ⟨T, ⟨h', lc⟩⟩ hin _ ⟨h1, h2, h9, h10, h11, hs⟩
    simp only at h1 h2 h9 h10 h11 hs
    subst hs
    obtain ⟨eb, ep, er, e1, _, e2, e3, e4, e5, e6, e7⟩ := hc.field hin
    have hw := wrap1 (i := i) (by omega)
    have fin : l[i].x = x → l[i].y = y → isFieldB l x y = true := fun k1 k2 => any_of hin (by simp [k1, k2])
    simp +contextual [cimpl_isField_L0, h1, h2, h9, h10, h11, hc.noLoc, hin, e1, e2, e3, e4, hw, fin]
  · rintro ⟨T, ⟨h', lc⟩⟩ hno ⟨h1, h2, h9, h10, h11, hs⟩
    simp only at h1 h2 h9 h10 h11 hs
    subst hs
    have : isFieldB l x y = false := any_no (fun j hj => by simpa [hj] using hno j hj)
    simp [cimpl_isField_L0, h10, h11, this]
theorem wrap_nat {n : Nat} (h : n ≤ 9223372036854775807) : IntKind.i64.wrap (n : Int) = n := wrap_i64 (by omega) (by omega)
theorem inB_len {n : Nat} : inB (n : Int) 1 40 = (decide (1 ≤ n) && decide (n ≤ 40)) := by
  unfold inB
  congr 1 <;> (rw [Bool.eq_iff_iff]; simp; try omega)
theorem spec_GiveTubeOk {S S' : Nat → Prop} (h : Heap) (cf c : Ce) (fs : List Fld) (l : List Box) (hf : RdF fField S h cf fs) (hc : RdF fBox S' h c l) :
    Fspec_GiveTubeOk [.v (.c cf), .v (.c c)] h = some (.v (.c (.bool (tubeOkB fs l))), h) := by
  unfold Fspec_GiveTubeOk
  have hl := hc.le
  have A := spec_l1BoxOk
  have B := spec_l1Next
  have C := fun b => spec_l1Ground h cf fs b hf
  simp only [fBox] at A B C
  refine runF_eq ?_
  by_cases h1 : 1 ≤ l.length
  · by_cases h2 : l.length ≤ 40
    · have e0 : inB (l.length : Int) 1 40 = true := by rw [inB_len]; simp [h1, h2]
      simp [cspec_GiveTubeOk, hc.slen, hc.noLoc, hf.noLoc, espec_GiveTubeOk_spec_l1In, spec_l1In, e0]
      refine AW_for1 l.length (fun i => !stepB l i) (fun i x => x.1 0 = .v (.c cf) ∧ x.1 1 = .v (.c c) ∧ x.1 5 = .v (.c (.int .i64 i)) ∧ x.2 = ⟨h, nol⟩) (by simp) ?_ ?_
      · rintro i ⟨T, s⟩ hin _ ⟨h0, h1', h5, rfl⟩
        simp only at h0 h1' h5
        obtain ⟨eb, ep, er, e1, _, e2, e3, e4, _⟩ := hc.box hin
        have hw := wrap1 (i := i) (by omega)
        have fin : stepB l i = false → tubeOkB fs l = false := fun k => by simp [tubeOkB, allN_no hin k]
        rcases i with _ | k
        · simp only [stepB] at fin ⊢
          simp at e1 hw
          simp [hin] at fin
          cases hk : okB l[0] <;> simp [hk] at fin <;> simp [cspec_GiveTubeOk_L0, h0, h1', h5, hc.slen, hin, e1, e2, e3, e4, espec_GiveTubeOk_spec_l1BoxOk, espec_GiveTubeOk_spec_l1Next, A, hw, hk, fin]
        · obtain ⟨gb, gp, gr, g1, _, g2, g3, g4, _⟩ := hc.box (show k < l.length by omega)
          have hk0 := wrap_nat (n := k) (by omega)
          have hkl : k < l.length := by omega
          have hin' : (k : Int) + 1 < l.length := by omega
          simp only [stepB] at fin ⊢
          simp at e1 hw
          simp [hin, hkl] at fin
          cases hk : okB l[k + 1] <;> cases hn : nextB l[k] l[k + 1] <;> simp [hk, hn] at fin <;> simp [cspec_GiveTubeOk_L0, h0, h1', h5, hc.slen, hin, hin', hkl, e1, e2, e3, e4, g1, g2, g3, g4, espec_GiveTubeOk_spec_l1BoxOk, espec_GiveTubeOk_spec_l1Next, A, B, hw, hk0, hk, hn, fin]
      · rintro ⟨T, s⟩ hno ⟨h0, h1', h5, rfl⟩
        simp only at h0 h1' h5
        obtain ⟨k, hk⟩ : ∃ k, l.length = k + 1 := ⟨l.length - 1, by omega⟩
        have hkl : k < l.length := by omega
        obtain ⟨eb, ep, er, e1, _, e2, e3, e4, _⟩ := hc.box hkl
        have hk0 := wrap_nat (n := k) (by omega)
        have fin : tubeOkB fs l = groundB fs l[k] := by
          have : allN l.length (stepB l) = true := allN_of fun j hj => by simpa using hno j hj
          have e : l.getD (l.length - 1) default = l[k] := by simp [hk, hkl]
          unfold tubeOkB
          rw [this, e]
          simp [h1, h2]
        simp [cspec_GiveTubeOk_L0, h0, h1', h5, hc.slen, hc.noLoc, hf.noLoc, hk, e1, e2, e3, e4, espec_GiveTubeOk_spec_l1Ground, C, hk0, fin]
    · have e0 : inB (l.length : Int) 1 40 = false := by rw [inB_len]; simp [h2]
      have e1 : tubeOkB fs l = false := by simp [tubeOkB, h2]
      simp [cspec_GiveTubeOk, hc.slen, hc.noLoc, hf.noLoc, espec_GiveTubeOk_spec_l1In, spec_l1In, e0, e1]
  · have e0 : inB (l.length : Int) 1 40 = false := by rw [inB_len]; simp [h1]
    have e1 : tubeOkB fs l = false := by simp [tubeOkB, h1]
    simp [cspec_GiveTubeOk, hc.slen, hc.noLoc, hf.noLoc, espec_GiveTubeOk_spec_l1In, spec_l1In, e0, e1]
theorem next_iff (a b : Box) (ha : okB a = true) (hb : okB b = true) : nextB a b = true ↔ inB (IntKind.i64.wrap (b.x - a.x)) (-1) 1 = true ∧ inB (IntKind.i64.wrap (b.y - a.y)) (-1) 1 = true ∧ max2 a.low b.low ≤ min2 a.high b.high ∧ a.tin ≤ b.tin ∧ a.tout ≤ b.tout ∧ b.tin ≤ IntKind.i64.wrap (a.tout + 1) := by
  simp only [okB, inB, Bool.and_eq_true, decide_eq_true_eq] at ha hb
  have e1 : wrap64 (a.x - b.x) = a.x - b.x := wrap64_id (by omega) (by omega)
  have e2 : wrap64 (a.y - b.y) = a.y - b.y := wrap64_id (by omega) (by omega)
  have e3 : IntKind.i64.wrap (b.x - a.x) = b.x - a.x := wrap_i64 (by omega) (by omega)
  have e4 : IntKind.i64.wrap (b.y - a.y) = b.y - a.y := wrap_i64 (by omega) (by omega)
  unfold nextB
  rw [e1, e2, e3, e4, max2_eq, min2_eq]
  simp only [inB, Bool.and_eq_true, decide_eq_true_eq, wrap64]
  constructor
  · rintro ⟨⟨⟨⟨⟨⟨a1, a2⟩, a3⟩, a4⟩, a5⟩, a6⟩, a7⟩
    refine ⟨⟨?_, ?_⟩, ⟨?_, ?_⟩, ?_, a5, a6, of_decide_eq_true a7⟩ <;> omega
  · rintro ⟨⟨a1, a2⟩, ⟨a3, a4⟩, a5, a6, a7, a8⟩
    refine ⟨⟨⟨⟨⟨⟨⟨?_, ?_⟩, ⟨?_, ?_⟩⟩, ?_⟩, ?_⟩, a6⟩, a7⟩, decide_eq_true a8⟩ <;> omega
theorem impl_GiveTubeOk {S S' : Nat → Prop} (h : Heap) (cf c : Ce) (fs : List Fld) (l : List Box) (hf : RdF fField S h cf fs) (hc : RdF fBox S' h c l) :
    Fimpl_GiveTubeOk [.v (.c cf), .v (.c c)] h = some (.v (.c (.bool (tubeOkB fs l))), h) := by
  unfold Fimpl_GiveTubeOk
  have hl := hc.le
  have A := impl_boxOk
  have C := fun x y => impl_isField h cf fs x y hf
  simp only [fBox] at A
  refine runF_eq ?_
  by_cases h1 : 1 ≤ l.length
  · by_cases h2 : l.length ≤ 40
    · have e0 : inB (l.length : Int) 1 40 = true := by rw [inB_len]; simp [h1, h2]
      simp [cimpl_GiveTubeOk, hc.slen, hc.noLoc, hf.noLoc, eimpl_GiveTubeOk_impl_in, impl_in, e0]
      refine AW_for1 l.length (fun i => !stepB l i) (fun i x => x.1 0 = .v (.c cf) ∧ x.1 1 = .v (.c c) ∧ x.1 13 = .v (.c c) ∧ x.1 14 = .v (.c (.int .i64 l.length)) ∧ x.1 15 = .v (.c (.int .i64 i)) ∧ x.2.h = h) (by simp) ?_ ?_
      · rintro i ⟨T, ⟨h', lc⟩⟩ hin hpre ⟨h0, h1', h13, h14, h15, hs⟩
        simp only at h0 h1' h13 h14 h15 hs
        subst hs
        obtain ⟨eb, ep, er, e1, _, e2, e3, e4, _⟩ := hc.box hin
        have hw := wrap1 (i := i) (by omega)
        have fin : stepB l i = false → tubeOkB fs l = false := fun k => by simp [tubeOkB, allN_no hin k]
        rcases i with _ | k
        · simp only [stepB] at fin ⊢
          simp at e1 hw
          simp [hin] at fin
          cases hk : okB l[0] <;> simp [hk] at fin <;> simp [cimpl_GiveTubeOk_L0, h0, h1', h13, h14, h15, hc.slen, hc.noLoc, hf.noLoc, hin, e1, e2, e3, e4, eimpl_GiveTubeOk_impl_boxOk, A, hw, hk, fin]
        · obtain ⟨gb, gp, gr, g1, _, g2, g3, g4, _⟩ := hc.box (show k < l.length by omega)
          have hk0 := wrap_nat (n := k) (by omega)
          have hkl : k < l.length := by omega
          have hin' : (k : Int) + 1 < l.length := by omega
          have hpk := hpre k (by omega)
          have okk : okB l[k] = true := by
            simp only [stepB, hkl, List.getD_eq_getElem?_getD, List.getElem?_eq_getElem, Option.getD_some] at hpk
            cases ho : okB l[k]
            · simp [ho] at hpk
            · rfl
          simp only [stepB] at fin ⊢
          simp at e1 hw
          simp [hin, hkl] at fin
          have hne : ¬ ((k : Int) + 1 = 0) := by omega
          cases hk : okB l[k + 1]
          · simp [hk] at fin
            simp [cimpl_GiveTubeOk_L0, h0, h1', h13, h14, h15, hc.slen, hc.noLoc, hf.noLoc, hin, hin', hkl, e1, e2, e3, e4, eimpl_GiveTubeOk_impl_boxOk, A, hw, hk, fin]
          · simp [hk] at fin
            simp +contextual (maxSteps := 1000000) [cimpl_GiveTubeOk_L0, h0, h1', h13, h14, h15, hc.slen, hc.noLoc, hf.noLoc, hin, hin', hkl, hne, e1, e2, e3, e4, g1, g2, g3, g4, eimpl_GiveTubeOk_impl_boxOk, eimpl_GiveTubeOk_impl_in, impl_in, A, hw, hk0, hk]
            have nx := next_iff l[k] l[k + 1] okk hk
            refine ⟨fun hb => ?_, fun a1 a2 a3 a4 a5 a6 => nx.2 ⟨a1, a2, a3, a4, a5, a6⟩⟩
            have hn : nextB l[k] l[k + 1] = false := by
              cases hn : nextB l[k] l[k + 1]
              · rfl
              · obtain ⟨a1, a2, a3, a4, a5, a6⟩ := nx.1 hn
                rcases hb with ((((hb | hb) | hb) | hb) | hb) | hb
                · rw [a1] at hb; cases hb
                · rw [a2] at hb; cases hb
                all_goals omega
            exact ⟨hn, fin hn⟩
      · rintro ⟨T, ⟨h', lc⟩⟩ hno ⟨h0, h1', h13, h14, h15, hs⟩
        simp only at h0 h1' h13 h14 h15 hs
        subst hs
        obtain ⟨k, hk⟩ : ∃ k, l.length = k + 1 := ⟨l.length - 1, by omega⟩
        have hkl : k < l.length := by omega
        obtain ⟨eb, ep, er, e1, _, e2, e3, e4, _⟩ := hc.box hkl
        have hk0 := wrap_nat (n := k) (by omega)
        have fin : tubeOkB fs l = groundB fs l[k] := by
          have : allN l.length (stepB l) = true := allN_of fun j hj => by simpa using hno j hj
          have e : l.getD (l.length - 1) default = l[k] := by simp [hk, hkl]
          unfold tubeOkB
          rw [this, e]
          simp [h1, h2]
        have fin2 : groundB fs l[k] = (l[k].low == 0 && isFieldB fs l[k].x l[k].y) := by
          unfold groundB isFieldB
          cases hz : l[k].low == 0 <;> simp
        simp +contextual [cimpl_GiveTubeOk_L0, h0, h1', h13, h14, h15, hc.slen, hc.noLoc, hf.noLoc, hk, e1, e2, e3, e4, eimpl_GiveTubeOk_impl_isField, C, hk0, fin, fin2]
    · have e0 : inB (l.length : Int) 1 40 = false := by rw [inB_len]; simp [h2]
      have e1 : tubeOkB fs l = false := by simp [tubeOkB, h2]
      simp [cimpl_GiveTubeOk, hc.slen, hc.noLoc, hf.noLoc, eimpl_GiveTubeOk_impl_in, impl_in, e0, e1]
  · have e0 : inB (l.length : Int) 1 40 = false := by rw [inB_len]; simp [h1]
    have e1 : tubeOkB fs l = false := by simp [tubeOkB, h1]
    simp [cimpl_GiveTubeOk, hc.slen, hc.noLoc, hf.noLoc, eimpl_GiveTubeOk_impl_in, impl_in, e0, e1]
end Go.Abs

/-
  The exact law of GiveTubeOk, over what its functions compute.
-/

namespace Go.Abs
set_option linter.unusedSimpArgs false
set_option linter.unusedVariables false
attribute [local simp] AW_skip AW_exit AW_ret AW_seq AW_block AW_cond CW_ite AW_reg AW_regD RW_nil RW_cons RW_guard GW_t GW_f GW_gt GW_gf GW_tup GY_some GY_tt GY_ff gd_t gd_f pk_t pk_f pk_and pk_or pk_andc pk_orc pk_bool gd_gd SW_some ThenQ_normal ThenQ_exit ThenQ_ret BlockQ_normal BlockQ_exit BlockQ_ret kill_nil kill_cons killT_at killL_at upo_some upo_none ev_t ev_k FinQ_ret FinQ_normal upd_eq upd_ne argsT_zero argsT_succ aop.eq_1 aop_pick aop.eq_3 aop.eq_4 aop.eq_5 aop.eq_6 aop.eq_7 aop.eq_8 aop.eq_9 aop.eq_10 aop.eq_11 aop.eq_12 aop.eq_13 aop.eq_14 aop.eq_15 aop.eq_16 aop.eq_17 aop.eq_18 aop.eq_19 aop.eq_20 aop.eq_21 aop_slice_hi aop_slice_lo aop.eq_23 aop.eq_24 aop.eq_26 aop.eq_27 aop.eq_28 aop.eq_29 aop.eq_31 aop.eq_32 aop_maxs2 aop_mins2 aop_mins3 aop_len aop_iaddr Av.bool? Av.ptr? Av.int? Av.int64? Av.str? Av.agg? ressA resA resOf noLoc_int noLoc_bool noLoc_str noLoc_nils noLoc_nilp noLoc_ptrl noLoc_ptrr noLoc_sll noLoc_slr noLoc_fn noLoc_tc noLoc_tagg noLoc_av noLoc_atup ce_c tv_v cells_c cells_agg noLocs keyLoc evs callA St.set St.get unAv binCe killV_int killV_bool killV_str killV_nils killV_nilp killV_agg killV_no killV_tup killV_ptrl killV_ptrr killV_sll killV_slr killV_fn killV_noLoc fillA repl
attribute [local congr] GY_congr

theorem toBoxes' {S : Nat → Prop} (h : Heap) (c : Ce) (l : List Box) (ho : HOk h) (hc : RdF fBox S h c l) (hl : l.length ≤ 1048576) :
    ∃ c' h' fp, Flaws_toGiveBoxS [.v (.c c)] h = some (.v (.c c'), h') ∧ NewF fBox h h' c' l fp := ⟨_, _, _, laws_toGiveBoxS h c l ho hc hl, NewF.push ho l _ rfl⟩
theorem toFields' {S : Nat → Prop} (h : Heap) (c : Ce) (l : List Fld) (ho : HOk h) (hc : RdF fField S h c l) (hl : l.length ≤ 1048576) :
    ∃ c' h' fp, Flaws_toGiveFieldS [.v (.c c)] h = some (.v (.c c'), h') ∧ NewF fField h h' c' l fp := ⟨_, _, _, laws_toGiveFieldS h c l ho hc hl, NewF.push ho l _ rfl⟩

theorem laws_FnExactGiveTubeOk (h : Heap) (cfs : Ce) (fs : List Fld) (ct : Ce) (t : List Box) (ho : HOk h) (rfs : RdF fField (fun b => b < h.nx) h cfs fs ∧ FieldsWf fs) (rt : RdF fBox (fun b => b < h.nx) h ct t) :
    ∃ h', Flaws_FnExactGiveTubeOk [.v (.c cfs), .v (.c ct)] h = some (.v (.c (.bool true)), h') := by
  unfold Flaws_FnExactGiveTubeOk
  obtain ⟨rfs, wfs⟩ := rfs
  obtain ⟨qfs, sfs, lefs, smfs⟩ := laws_szGiveFieldS h cfs fs 1048576 rfs wfs (by omega)
  rcases lefs with rfl | lefs
  · refine ⟨_, runF_eq (h' := h) ?_⟩
    simp [claws_FnExactGiveTubeOk, elaws_FnExactGiveTubeOk_laws_szGiveFieldS, rfs.noLoc, rt.noLoc, sfs]
  have nfs : ¬ qfs < 0 := by omega
  replace smfs := smfs lefs.1
  have st := laws_szGiveBoxS h ct t qfs rt (by omega)
  by_cases hbt : qfs < (t.length : Int)
  · rw [if_pos hbt] at st
    refine ⟨_, runF_eq (h' := h) ?_⟩
    simp [claws_FnExactGiveTubeOk, sfs, nfs, elaws_FnExactGiveTubeOk_laws_szGiveFieldS, elaws_FnExactGiveTubeOk_laws_szGiveBoxS, rfs.noLoc, rt.noLoc, st]
  rw [if_neg hbt] at st
  have nt : ¬ (qfs - (t.length : Int)) < 0 := by omega
  have smt : t.length ≤ 1048576 := by omega
  obtain ⟨c1, h2, fpc1, t3, m4⟩ := toFields' h cfs fs ho rfs smfs
  have f5 := m4.fr
  have nx1 := f5.nx
  have gec1 : ∀ b, b ∈ fpc1 → h.nx ≤ b := m4.ge
  have ltc1 : ∀ b, b ∈ fpc1 → b < h2.nx := fun b hb => m4.own.lt f5.ok hb
  have b6 := rt.keep ho f5
  obtain ⟨c7, h8, fpc7, t9, m10⟩ := toBoxes' h2 ct t f5.ok b6 smt
  have f11 := m10.fr
  have nx2 := f11.nx
  have gec7 : ∀ b, b ∈ fpc7 → h2.nx ≤ b := m10.ge
  have ltc7 : ∀ b, b ∈ fpc7 → b < h8.nx := fun b hb => m10.own.lt f11.ok hb
  have b12 := m4.own.chg f5.ok f11.chg (fp := []) (by simp)
  have u13 := spec_GiveTubeOk h8 _ _ _ _ (b12.rd (S := fun b => b ∈ fpc1) (by omega) (fun b hb => hb)) (m10.own.rd (S := fun b => b ∈ fpc7) (by omega) (fun b hb => hb))
  have b14 := rfs.keep ho f5
  have b15 := b14.keep f5.ok f11
  obtain ⟨c16, h17, fpc16, t18, m19⟩ := toFields' h8 cfs fs f11.ok b15 smfs
  have f20 := m19.fr
  have nx3 := f20.nx
  have gec16 : ∀ b, b ∈ fpc16 → h8.nx ≤ b := m19.ge
  have ltc16 : ∀ b, b ∈ fpc16 → b < h17.nx := fun b hb => m19.own.lt f20.ok hb
  have b21 := b6.keep f5.ok f11
  have b22 := b21.keep f11.ok f20
  obtain ⟨c23, h24, fpc23, t25, m26⟩ := toBoxes' h17 ct t f20.ok b22 smt
  have f27 := m26.fr
  have nx4 := f27.nx
  have gec23 : ∀ b, b ∈ fpc23 → h17.nx ≤ b := m26.ge
  have ltc23 : ∀ b, b ∈ fpc23 → b < h24.nx := fun b hb => m26.own.lt f27.ok hb
  have b28 := m19.own.chg f20.ok f27.chg (fp := []) (by simp)
  have u29 := impl_GiveTubeOk h24 _ _ _ _ (b28.rd (S := fun b => b ∈ fpc16) (by omega) (fun b hb => hb)) (m26.own.rd (S := fun b => b ∈ fpc23) (by omega) (fun b hb => hb))
  have b30 := b15.keep f11.ok f20
  have b31 := b30.keep f20.ok f27
  obtain ⟨c32, h33, fpc32, t34, m35⟩ := toFields' h24 cfs fs f27.ok b31 smfs
  have f36 := m35.fr
  have nx5 := f36.nx
  have gec32 : ∀ b, b ∈ fpc32 → h24.nx ≤ b := m35.ge
  have ltc32 : ∀ b, b ∈ fpc32 → b < h33.nx := fun b hb => m35.own.lt f36.ok hb
  have b37 := b28.chg f27.ok f36.chg (fp := []) (by simp)
  obtain ⟨q39, e38, z40⟩ := laws_eqGiveFieldS h33 c16 c32 _ _ (b37.rd (S := fun b => b ∈ fpc16) (by omega) (fun b hb => hb)) (m35.own.rd (S := fun b => b ∈ fpc32) (by omega) (fun b hb => hb))
  obtain rfl := z40.2 rfl
  have b41 := b22.keep f20.ok f27
  have b42 := b41.keep f27.ok f36
  obtain ⟨c43, h44, fpc43, t45, m46⟩ := toBoxes' h33 ct t f36.ok b42 smt
  have f47 := m46.fr
  have nx6 := f47.nx
  have gec43 : ∀ b, b ∈ fpc43 → h33.nx ≤ b := m46.ge
  have ltc43 : ∀ b, b ∈ fpc43 → b < h44.nx := fun b hb => m46.own.lt f47.ok hb
  have b48 := m26.own.chg f27.ok f36.chg (fp := []) (by simp)
  have b49 := b48.chg f36.ok f47.chg (fp := []) (by simp)
  obtain ⟨q51, e50, z52⟩ := laws_eqGiveBoxS h44 c23 c43 _ _ (b49.rd (S := fun b => b ∈ fpc23) (by omega) (fun b hb => hb)) (m46.own.rd (S := fun b => b ∈ fpc43) (by omega) (fun b hb => hb))
  obtain rfl := z52.2 rfl
  refine ⟨_, runF_eq (h' := h44) ?_⟩
  simp [claws_FnExactGiveTubeOk, sfs, nfs, st, nt, rfs.noLoc, rt.noLoc, t3, m4.own.noLoc, t9, m10.own.noLoc, u13, t18, m19.own.noLoc, t25, m26.own.noLoc, u29, t34, m35.own.noLoc, e38, t45, m46.own.noLoc, e50, elaws_FnExactGiveTubeOk_impl_GiveTubeOk, elaws_FnExactGiveTubeOk_laws_eqGiveBoxS, elaws_FnExactGiveTubeOk_laws_eqGiveFieldS, elaws_FnExactGiveTubeOk_laws_szGiveBoxS, elaws_FnExactGiveTubeOk_laws_szGiveFieldS, elaws_FnExactGiveTubeOk_laws_toGiveBoxS, elaws_FnExactGiveTubeOk_laws_toGiveFieldS, elaws_FnExactGiveTubeOk_spec_GiveTubeOk]
end Go.Abs

/-
  Names, runways, books: what the functions compute.
-/

namespace Go.Abs
set_option linter.unusedSimpArgs false
set_option linter.unusedVariables false
attribute [local simp] AW_skip AW_exit AW_ret AW_seq AW_block AW_cond CW_ite AW_reg AW_regD RW_nil RW_cons RW_guard GW_t GW_f GW_gt GW_gf GW_tup GY_some GY_tt GY_ff gd_t gd_f pk_t pk_f pk_and pk_or pk_andc pk_orc pk_bool gd_gd SW_some ThenQ_normal ThenQ_exit ThenQ_ret BlockQ_normal BlockQ_exit BlockQ_ret kill_nil kill_cons killT_at killL_at upo_some upo_none ev_t ev_k FinQ_ret FinQ_normal upd_eq upd_ne argsT_zero argsT_succ aop.eq_1 aop_pick aop.eq_3 aop.eq_4 aop.eq_5 aop.eq_6 aop.eq_7 aop.eq_8 aop.eq_9 aop.eq_10 aop.eq_11 aop.eq_12 aop.eq_13 aop.eq_14 aop.eq_15 aop.eq_16 aop.eq_17 aop.eq_18 aop.eq_19 aop.eq_20 aop.eq_21 aop_slice_hi aop_slice_lo aop.eq_23 aop.eq_24 aop.eq_26 aop.eq_27 aop.eq_28 aop.eq_29 aop.eq_31 aop.eq_32 aop_maxs2 aop_mins2 aop_mins3 aop_len aop_iaddr Av.bool? Av.ptr? Av.int? Av.int64? Av.str? Av.agg? ressA resA resOf noLoc_int noLoc_bool noLoc_str noLoc_nils noLoc_nilp noLoc_ptrl noLoc_ptrr noLoc_sll noLoc_slr noLoc_fn noLoc_tc noLoc_tagg noLoc_av noLoc_atup ce_c tv_v cells_c cells_agg noLocs keyLoc evs callA St.set St.get unAv binCe killV_int killV_bool killV_str killV_nils killV_nilp killV_agg killV_no killV_tup killV_ptrl killV_ptrr killV_sll killV_slr killV_fn killV_noLoc fillA repl
attribute [local congr] GY_congr

theorem spec_l1NameOk (h : Heap) (s : ByteArray) (hs : SzS s) : Fspec_l1NameOk [.v (.c (.str s))] h = some (.v (.c (.bool (nameOkB s))), h) := by
  unfold Fspec_l1NameOk
  have hz : (s.size : Int) ≤ 9223372036854775807 := by unfold SzS at hs; omega
  have hb : inB (s.size : Int) 1 8 = (decide (1 ≤ s.size) && decide (s.size ≤ 8)) := by
    unfold inB
    congr 1 <;> (rw [Bool.eq_iff_iff]; simp; try omega)
  refine runF_eq ?_
  by_cases h1 : 1 ≤ s.size
  · by_cases h2 : s.size ≤ 8
    · simp [h1, h2] at hb
      simp [cspec_l1NameOk, espec_l1NameOk_spec_l1In, spec_l1In, hb]
      refine AW_for1 s.size (fun i => !chOk (byteAt s i)) (fun i x => x.1 0 = .v (.c (.str s)) ∧ x.1 3 = .v (.c (.int .i64 i)) ∧ x.2 = ⟨h, nol⟩) (by simp) ?_ ?_
      · rintro i ⟨T, s'⟩ hin _ ⟨h0, h3, rfl⟩
        simp only at h0 h3
        have hw := wrap1 (i := i) (by omega)
        have hat : byteAt s i = s[i] := by simp [byteAt, hin]
        have fin : chOk (byteAt s i) = false → nameOkB s = false := fun k => by
          have := allN_no (p := fun i => chOk (byteAt s i)) hin k
          simp [nameOkB, this]
        have hch : chOk s[i] = ((decide (97 ≤ (s[i].toNat : Int)) && decide ((s[i].toNat : Int) ≤ 122)) || (decide (48 ≤ (s[i].toNat : Int)) && decide ((s[i].toNat : Int) ≤ 57)) || (s[i].toNat : Int) == 45) := rfl
        rw [hat] at fin ⊢
        obtain ⟨n, hn⟩ : ∃ n : Int, n = (s[i].toNat : Int) := ⟨_, rfl⟩
        rw [← hn] at hch
        rw [hch] at fin ⊢
        simp +contextual [cspec_l1NameOk_L0, h0, h3, hin, hw, ← hn]
        intro a1 a2 a3
        apply fin
        simp
        refine ⟨⟨?_, ?_⟩, a3⟩ <;> omega
      · rintro ⟨T, s'⟩ hno ⟨h0, h3, rfl⟩
        simp only at h0 h3
        have : nameOkB s = true := by
          have := allN_of (n := s.size) (p := fun i => chOk (byteAt s i)) fun j hj => by simpa using hno j hj
          simp [nameOkB, this, h1, h2]
        simp [cspec_l1NameOk_L0, h0, h3, this]
    · have e1 : nameOkB s = false := by simp [nameOkB, h2]
      simp [h2] at hb
      simp [cspec_l1NameOk, espec_l1NameOk_spec_l1In, spec_l1In, hb, e1]
  · have e1 : nameOkB s = false := by simp [nameOkB, h1]
    simp [h1] at hb
    simp [cspec_l1NameOk, espec_l1NameOk_spec_l1In, spec_l1In, hb, e1]

theorem impl_name (h : Heap) (s : ByteArray) (hs : SzS s) : Fimpl_name [.v (.c (.str s))] h = some (.v (.c (.bool (nameOkB s))), h) := by
  unfold Fimpl_name
  have hz : (s.size : Int) ≤ 9223372036854775807 := by unfold SzS at hs; omega
  have hb : inB (s.size : Int) 1 8 = (decide (1 ≤ s.size) && decide (s.size ≤ 8)) := by
    unfold inB
    congr 1 <;> (rw [Bool.eq_iff_iff]; simp; try omega)
  refine runF_eq ?_
  by_cases h1 : 1 ≤ s.size
  · by_cases h2 : s.size ≤ 8
    · simp [h1, h2] at hb
      simp [cimpl_name, eimpl_name_impl_in, impl_in, hb]
      refine AW_for1 s.size (fun i => !chOk (byteAt s i)) (fun i x => x.1 0 = .v (.c (.str s)) ∧ x.1 3 = .v (.c (.int .i64 i)) ∧ x.2 = ⟨h, nol⟩) (by simp) ?_ ?_
      · rintro i ⟨T, s'⟩ hin _ ⟨h0, h3, rfl⟩
        simp only at h0 h3
        have hw := wrap1 (i := i) (by omega)
        have hat : byteAt s i = s[i] := by simp [byteAt, hin]
        have fin : chOk (byteAt s i) = false → nameOkB s = false := fun k => by
          have := allN_no (p := fun i => chOk (byteAt s i)) hin k
          simp [nameOkB, this]
        have hch : chOk s[i] = ((decide (97 ≤ (s[i].toNat : Int)) && decide ((s[i].toNat : Int) ≤ 122)) || (decide (48 ≤ (s[i].toNat : Int)) && decide ((s[i].toNat : Int) ≤ 57)) || (s[i].toNat : Int) == 45) := rfl
        rw [hat] at fin ⊢
        obtain ⟨n, hn⟩ : ∃ n : Int, n = (s[i].toNat : Int) := ⟨_, rfl⟩
        rw [← hn] at hch
        rw [hch] at fin ⊢
        simp +contextual [cimpl_name_L0, h0, h3, hin, hw, ← hn]
        intro a1 a2 a3
        apply fin
        simp
        refine ⟨⟨?_, ?_⟩, a3⟩ <;> omega
      · rintro ⟨T, s'⟩ hno ⟨h0, h3, rfl⟩
        simp only at h0 h3
        have : nameOkB s = true := by
          have := allN_of (n := s.size) (p := fun i => chOk (byteAt s i)) fun j hj => by simpa using hno j hj
          simp [nameOkB, this, h1, h2]
        simp [cimpl_name_L0, h0, h3, this]
    · have e1 : nameOkB s = false := by simp [nameOkB, h2]
      simp [h2] at hb
      simp [cimpl_name, eimpl_name_impl_in, impl_in, hb, e1]
  · have e1 : nameOkB s = false := by simp [nameOkB, h1]
    simp [h1] at hb
    simp [cimpl_name, eimpl_name_impl_in, impl_in, hb, e1]
end Go.Abs

/-
  Runways of a book: what the functions compute.
-/

namespace Go.Abs
set_option linter.unusedSimpArgs false
set_option linter.unusedVariables false
attribute [local simp] AW_skip AW_exit AW_ret AW_seq AW_block AW_cond CW_ite AW_reg AW_regD RW_nil RW_cons RW_guard GW_t GW_f GW_gt GW_gf GW_tup GY_some GY_tt GY_ff gd_t gd_f pk_t pk_f pk_and pk_or pk_andc pk_orc pk_bool gd_gd SW_some ThenQ_normal ThenQ_exit ThenQ_ret BlockQ_normal BlockQ_exit BlockQ_ret kill_nil kill_cons killT_at killL_at upo_some upo_none ev_t ev_k FinQ_ret FinQ_normal upd_eq upd_ne argsT_zero argsT_succ aop.eq_1 aop_pick aop.eq_3 aop.eq_4 aop.eq_5 aop.eq_6 aop.eq_7 aop.eq_8 aop.eq_9 aop.eq_10 aop.eq_11 aop.eq_12 aop.eq_13 aop.eq_14 aop.eq_15 aop.eq_16 aop.eq_17 aop.eq_18 aop.eq_19 aop.eq_20 aop.eq_21 aop_slice_hi aop_slice_lo aop.eq_23 aop.eq_24 aop.eq_26 aop.eq_27 aop.eq_28 aop.eq_29 aop.eq_31 aop.eq_32 aop_maxs2 aop_mins2 aop_mins3 aop_len aop_iaddr Av.bool? Av.ptr? Av.int? Av.int64? Av.str? Av.agg? ressA resA resOf noLoc_int noLoc_bool noLoc_str noLoc_nils noLoc_nilp noLoc_ptrl noLoc_ptrr noLoc_sll noLoc_slr noLoc_fn noLoc_tc noLoc_tagg noLoc_av noLoc_atup ce_c tv_v cells_c cells_agg noLocs keyLoc evs callA St.set St.get unAv binCe killV_int killV_bool killV_str killV_nils killV_nilp killV_agg killV_no killV_tup killV_ptrl killV_ptrr killV_sll killV_slr killV_fn killV_noLoc fillA repl
attribute [local congr] GY_congr
theorem isField_take {fs : List Fld} {i : Nat} {x y : Int} : isFieldB (fs.take i) x y = anyN (min i fs.length) fun k => (fs.getD k default).x == x && (fs.getD k default).y == y := by
  rw [Bool.eq_iff_iff]
  simp only [isFieldB, List.any_eq_true, anyN_iff]
  constructor
  · rintro ⟨f, hf, hp⟩
    obtain ⟨k, hk, rfl⟩ := List.getElem_of_mem hf
    rw [List.length_take] at hk
    refine ⟨k, hk, ?_⟩
    have : k < fs.length := by omega
    simpa [this] using hp
  · rintro ⟨k, hk, hp⟩
    have h1 : k < fs.length := by omega
    refine ⟨fs[k], ?_, by simpa [h1] using hp⟩
    rw [List.mem_take_iff_getElem]
    exact ⟨k, by omega, rfl⟩

theorem spec_l2FieldsOk {S : Nat → Prop} (h : Heap) (c : Ce) (l : List Fld) (hc : RdF fField S h c l) (hw : FieldsWf l) :
    Fspec_l2FieldsOk [.v (.c c)] h = some (.v (.c (.bool (fieldsOkB l))), h) := by
  unfold Fspec_l2FieldsOk
  have hl := hc.le
  refine runF_eq ?_
  by_cases h4 : l.length ≤ 4
  · have h4' : ¬ (4 : Int) < l.length := by omega
    simp [cspec_l2FieldsOk, hc.slen, hc.noLoc, h4']
    refine AW_for1 l.length (fun i => !fieldStep l i) (fun i x => x.1 0 = .v (.c c) ∧ x.1 3 = .v (.c (.int .i64 i)) ∧ x.2.h = h) (by simp) ?_ ?_
    · rintro i ⟨T, ⟨h', lc⟩⟩ hin hpre ⟨h0, h3, hs⟩
      simp only at h0 h3 hs
      subst hs
      obtain ⟨eb, ep, er, e1, _, e2, e3, e4, e5, e6, e7⟩ := hc.field hin
      have hw1 := wrap1 (i := i) (by omega)
      have fin : fieldStep l i = false → fieldsOkB l = false := fun k => by simp [fieldsOkB, allN_no hin k]
      have N := spec_l1NameOk h' l[i].name (hw _ (List.getElem_mem hin))
      have inner : ∀ (T : Nat → Av) (lc : Nat → Option Row), T 0 = .v (.c c) → T 3 = .v (.c (.int .i64 i)) → T 4 = .v (.c (.ptr (.inl 4) 0)) → T 5 = .v (.c (.int .i64 0)) → lc 4 = some ⟨[.str l[i].name, .int .i64 l[i].x, .int .i64 l[i].y], 3, true⟩ →
          (isFieldB (l.take i) l[i].x l[i].y = false → fieldStep l i = true) → (isFieldB (l.take i) l[i].x l[i].y = true → fieldStep l i = false) →
          AW espec_l2FieldsOk (.loop cspec_l2FieldsOk_L1) (BlockQ 2 (BlockQ 1 (ThenQ espec_l2FieldsOk (.reg [] [MV 13 3, OP 14 (.bin .add (.t 13) (KI 1)), MV 3 14]) fun e y =>
            (!fieldStep l i) = false ∧ e = .normal ∧ y.1 0 = .v (.c c) ∧ y.1 3 = .v (.c (.int .i64 ((i + 1 : Nat) : Int))) ∧ y.2.h = h' ∨ (!fieldStep l i) = true ∧ e ≠ .normal ∧ BlockQ 0 (ThenQ espec_l2FieldsOk (.seq (.reg [] [OP 2 (.mov KT)]) .ret) (FinQ [.t 2] fun v k => v = .v (.c (.bool (fieldsOkB l))) ∧ k = h')) e y))) (T, ⟨h', lc⟩) := by
        intro T lc h0 h3 h4 h5 hl4 g1 g2
        refine AW_for1 i (fun k => (l.getD k default).x == l[i].x && (l.getD k default).y == l[i].y) (fun k x => x.1 0 = .v (.c c) ∧ x.1 3 = .v (.c (.int .i64 i)) ∧ x.1 4 = .v (.c (.ptr (.inl 4) 0)) ∧ x.1 5 = .v (.c (.int .i64 k)) ∧ x.2.lc 4 = some ⟨[.str l[i].name, .int .i64 l[i].x, .int .i64 l[i].y], 3, true⟩ ∧ x.2.h = h') ⟨h0, h3, h4, h5, hl4, rfl⟩ ?_ ?_
        · rintro k ⟨T, ⟨h', lc⟩⟩ hki _ ⟨h0, h3, h4, h5, hl4, hs⟩
          simp only at h0 h3 h4 h5 hl4 hs
          subst hs
          have hkl : k < l.length := by omega
          obtain ⟨fb, fp, fr, f1, _, f2, f3, f4, f5, f6, f7⟩ := hc.field hkl
          have hw2 := wrap1 (i := k) (by omega)
          have g3 : l[k].x = l[i].x → l[k].y = l[i].y → fieldStep l i = false := fun a b => g2 (by
            rw [isField_take]
            exact anyN_of (i := k) (by omega) (by simp [hkl, a, b]))
          have g4 : l[k].x = l[i].x → l[k].y = l[i].y → fieldsOkB l = false := fun a b => fin (g3 a b)
          simp +contextual [cspec_l2FieldsOk_L1, h0, h3, h4, h5, hl4, hin, hki, hkl, f1, f2, f3, f5, f6, f7, hw2, g3, g4]
        · rintro ⟨T, ⟨h', lc⟩⟩ hno ⟨h0, h3, h4, h5, hl4, hs⟩
          simp only at h0 h3 h4 h5 hl4 hs
          subst hs
          have : fieldStep l i = true := g1 (by
            rw [isField_take]
            exact anyN_no fun j hj => hno j (by omega))
          simp [cspec_l2FieldsOk_L1, h0, h3, h4, h5, this, hw1]
      rcases i with _ | k
      · have hz : fieldStep l 0 = (nameOkB l[0].name && inB l[0].x 0 15 && inB l[0].y 0 15 && !isFieldB (l.take 0) l[0].x l[0].y) := by simp [fieldStep, hin]
        simp at e1 h3 hw1
        cases a1 : nameOkB l[0].name
        · have := fin (by simp [hz, a1])
          simp [cspec_l2FieldsOk_L0, h0, h3, hc.slen, hc.noLoc, hin, e1, e2, e3, e4, espec_l2FieldsOk_spec_l1NameOk, N, a1, this, hz]
        cases a2 : inB l[0].x 0 15
        · have := fin (by simp [hz, a1, a2])
          simp [cspec_l2FieldsOk_L0, h0, h3, hc.slen, hc.noLoc, hin, e1, e2, e3, e4, espec_l2FieldsOk_spec_l1NameOk, espec_l2FieldsOk_spec_l1In, spec_l1In, N, a1, a2, this, hz]
        cases a3 : inB l[0].y 0 15
        · have := fin (by simp [hz, a1, a2, a3])
          simp [cspec_l2FieldsOk_L0, h0, h3, hc.slen, hc.noLoc, hin, e1, e2, e3, e4, espec_l2FieldsOk_spec_l1NameOk, espec_l2FieldsOk_spec_l1In, spec_l1In, N, a1, a2, a3, this, hz]
        simp [cspec_l2FieldsOk_L0, h0, h3, hc.slen, hc.noLoc, hin, e1, e2, e3, e4, espec_l2FieldsOk_spec_l1NameOk, espec_l2FieldsOk_spec_l1In, spec_l1In, N, a1, a2, a3]
        refine AW_mono (inner _ _ ?_ ?_ ?_ ?_ ?_ ?_ ?_) (fun e y k => ?_)
        all_goals first | (simp [h0, h3, hc.noLoc, hz, a1, a2, a3]; done) | (simpa using k)
      · have hkl : k < l.length := by omega
        obtain ⟨gb, gp, gr, f1, _, f2, f3, f4, f5, f6, f7⟩ := hc.field hkl
        have hk0 := wrap_nat (n := k) (by omega)
        have hin' : (k : Int) + 1 < l.length := by omega
        have hz : fieldStep l (k + 1) = (nameOkB l[k + 1].name && ltS l[k].name l[k + 1].name && inB l[k + 1].x 0 15 && inB l[k + 1].y 0 15 && !isFieldB (l.take (k + 1)) l[k + 1].x l[k + 1].y) := by simp [fieldStep, hin, hkl]
        simp at e1 h3 hw1
        have hlt : Op.bytesLess l[k].name.toList l[k + 1].name.toList = ltS l[k].name l[k + 1].name := rfl
        have hpos : (0 : Int) < (k : Int) + 1 := by omega
        cases a1 : nameOkB l[k + 1].name
        · have := fin (by simp [hz, a1])
          simp [cspec_l2FieldsOk_L0, h0, h3, hc.slen, hc.noLoc, hin, hin', e1, e2, e3, e4, espec_l2FieldsOk_spec_l1NameOk, N, a1, this, hz]
        cases a4 : ltS l[k].name l[k + 1].name
        · have := fin (by simp [hz, a1, a4])
          simp [cspec_l2FieldsOk_L0, h0, h3, hc.slen, hc.noLoc, hin, hin', hkl, hpos, e1, e2, e3, e4, f1, f2, f3, f5, espec_l2FieldsOk_spec_l1NameOk, espec_l2FieldsOk_spec_l1In, spec_l1In, N, a1, hlt, a4, hk0, this, hz]
        cases a2 : inB l[k + 1].x 0 15
        · have := fin (by simp [hz, a1, a2])
          simp [cspec_l2FieldsOk_L0, h0, h3, hc.slen, hc.noLoc, hin, hin', hkl, hpos, e1, e2, e3, e4, f1, f2, f3, f5, espec_l2FieldsOk_spec_l1NameOk, espec_l2FieldsOk_spec_l1In, spec_l1In, N, a1, hlt, a4, hk0, a2, this, hz]
        cases a3 : inB l[k + 1].y 0 15
        · have := fin (by simp [hz, a1, a2, a3])
          simp [cspec_l2FieldsOk_L0, h0, h3, hc.slen, hc.noLoc, hin, hin', hkl, hpos, e1, e2, e3, e4, f1, f2, f3, f5, espec_l2FieldsOk_spec_l1NameOk, espec_l2FieldsOk_spec_l1In, spec_l1In, N, a1, hlt, a4, hk0, a2, a3, this, hz]
        simp [cspec_l2FieldsOk_L0, h0, h3, hc.slen, hc.noLoc, hin, hin', hkl, hpos, e1, e2, e3, e4, f1, f2, f3, f5, espec_l2FieldsOk_spec_l1NameOk, espec_l2FieldsOk_spec_l1In, spec_l1In, N, a1, hlt, a4, hk0, a2, a3]
        refine AW_mono (inner _ _ ?_ ?_ ?_ ?_ ?_ ?_ ?_) (fun e y k => ?_)
        all_goals first | (simp [h0, h3, hc.noLoc, hz, a1, a2, a3, a4]; done) | (simpa using k)
    · rintro ⟨T, ⟨h', lc⟩⟩ hno ⟨h0, h3, hs⟩
      simp only at h0 h3 hs
      subst hs
      have : fieldsOkB l = true := by
        have := allN_of (n := l.length) (p := fieldStep l) fun j hj => by simpa using hno j hj
        simp [fieldsOkB, this, h4]
      simp [cspec_l2FieldsOk_L0, h0, h3, hc.slen, this]
  · have h4' : (4 : Int) < l.length := by omega
    have e1 : fieldsOkB l = false := by simp [fieldsOkB, h4]
    simp [cspec_l2FieldsOk, hc.slen, hc.noLoc, h4', e1]
theorem impl_fieldsOk {S : Nat → Prop} (h : Heap) (c : Ce) (l : List Fld) (hc : RdF fField S h c l) (hw : FieldsWf l) :
    Fimpl_fieldsOk [.v (.c c)] h = some (.v (.c (.bool (fieldsOkB l))), h) := by
  unfold Fimpl_fieldsOk
  have hl := hc.le
  refine runF_eq ?_
  by_cases h4 : l.length ≤ 4
  · have h4' : ¬ (4 : Int) < l.length := by omega
    simp [cimpl_fieldsOk, hc.slen, hc.noLoc, h4']
    refine AW_for1 l.length (fun i => !fieldStep l i) (fun i x => x.1 0 = .v (.c c) ∧ x.1 8 = .v (.c c) ∧ x.1 9 = .v (.c (.int .i64 l.length)) ∧ x.1 10 = .v (.c (.int .i64 i)) ∧ x.2.h = h) (by simp) ?_ ?_
    · rintro i ⟨T, ⟨h', lc⟩⟩ hin hpre ⟨h0, h8, h9, h10, hs⟩
      simp only at h0 h8 h9 h10 hs
      subst hs
      obtain ⟨eb, ep, er, e1, _, e2, e3, e4, e5, e6, e7⟩ := hc.field hin
      have hw1 := wrap1 (i := i) (by omega)
      have fin : fieldStep l i = false → fieldsOkB l = false := fun k => by simp [fieldsOkB, allN_no hin k]
      have N := impl_name h' l[i].name (hw _ (List.getElem_mem hin))
      have hcut := hc.cut (a := 0) (b := i) (by omega) (by omega)
      simp only [List.drop_zero, show fField.sz = 3 from rfl] at hcut
      have hcn := hcut.noLoc
      have I := fun x y => impl_isField h' _ _ x y hcut
      have him : (i : Int) ≤ l.length := by omega
      rcases i with _ | k
      · have hz : fieldStep l 0 = (nameOkB l[0].name && inB l[0].x 0 15 && inB l[0].y 0 15 && !isFieldB (l.take 0) l[0].x l[0].y) := by simp [fieldStep, hin]
        simp at e1 h10 hw1
        cases a1 : nameOkB l[0].name
        · have := fin (by simp [hz, a1])
          simp [cimpl_fieldsOk_L0, h0, h8, h9, h10, hc.slen, hc.noLoc, hin, e1, e2, e3, e4, eimpl_fieldsOk_impl_name, N, a1, this, hz]
        cases a2 : inB l[0].x 0 15
        · have := fin (by simp [hz, a1, a2])
          simp [cimpl_fieldsOk_L0, h0, h8, h9, h10, hc.slen, hc.noLoc, hin, e1, e2, e3, e4, eimpl_fieldsOk_impl_name, eimpl_fieldsOk_impl_in, impl_in, N, a1, a2, this, hz]
        cases a3 : inB l[0].y 0 15
        · have := fin (by simp [hz, a1, a2, a3])
          simp [cimpl_fieldsOk_L0, h0, h8, h9, h10, hc.slen, hc.noLoc, hin, e1, e2, e3, e4, eimpl_fieldsOk_impl_name, eimpl_fieldsOk_impl_in, impl_in, N, a1, a2, a3, this, hz]
        have hnil : isFieldB ([] : List Fld) l[0].x l[0].y = false := rfl
        simp only [List.take_zero] at I hz
        simp only [a1, a2, a3, hnil] at hz
        simp [cimpl_fieldsOk_L0, h0, h8, h9, h10, hc.slen, hc.noLoc, hin, e1, e2, e3, e4, eimpl_fieldsOk_impl_name, eimpl_fieldsOk_impl_in, impl_in, eimpl_fieldsOk_impl_isField, I, N, a1, a2, a3, hnil, hcn, hw1, hz]
      · have hkl : k < l.length := by omega
        obtain ⟨gb, gp, gr, f1, _, f2, f3, f4, f5, f6, f7⟩ := hc.field hkl
        have hk0 := wrap_nat (n := k) (by omega)
        have hin' : (k : Int) + 1 < l.length := by omega
        have hz : fieldStep l (k + 1) = (nameOkB l[k + 1].name && ltS l[k].name l[k + 1].name && inB l[k + 1].x 0 15 && inB l[k + 1].y 0 15 && !isFieldB (l.take (k + 1)) l[k + 1].x l[k + 1].y) := by simp [fieldStep, hin, hkl]
        simp at e1 h10 hw1 him
        have hlt : Op.bytesLess l[k].name.toList l[k + 1].name.toList = ltS l[k].name l[k + 1].name := rfl
        have hpos : (0 : Int) < (k : Int) + 1 := by omega
        have hpos2 : (0 : Int) ≤ (k : Int) + 1 := by omega
        have hnat : ((k : Int) + 1).toNat = k + 1 := by omega
        cases a1 : nameOkB l[k + 1].name
        · have := fin (by simp [hz, a1])
          simp [cimpl_fieldsOk_L0, h0, h8, h9, h10, hc.slen, hc.noLoc, hin, hin', e1, e2, e3, e4, eimpl_fieldsOk_impl_name, N, a1, this, hz]
        cases a4 : ltS l[k].name l[k + 1].name
        · have := fin (by simp [hz, a1, a4])
          simp [cimpl_fieldsOk_L0, h0, h8, h9, h10, hc.slen, hc.noLoc, hin, hin', hkl, hpos, e1, e2, e3, e4, f1, f2, f3, f5, eimpl_fieldsOk_impl_name, eimpl_fieldsOk_impl_in, impl_in, N, a1, hlt, a4, hk0, this, hz]
        cases a2 : inB l[k + 1].x 0 15
        · have := fin (by simp [hz, a1, a2])
          simp [cimpl_fieldsOk_L0, h0, h8, h9, h10, hc.slen, hc.noLoc, hin, hin', hkl, hpos, e1, e2, e3, e4, f1, f2, f3, f5, eimpl_fieldsOk_impl_name, eimpl_fieldsOk_impl_in, impl_in, N, a1, hlt, a4, hk0, a2, this, hz]
        cases a3 : inB l[k + 1].y 0 15
        · have := fin (by simp [hz, a1, a2, a3])
          simp [cimpl_fieldsOk_L0, h0, h8, h9, h10, hc.slen, hc.noLoc, hin, hin', hkl, hpos, e1, e2, e3, e4, f1, f2, f3, f5, eimpl_fieldsOk_impl_name, eimpl_fieldsOk_impl_in, impl_in, N, a1, hlt, a4, hk0, a2, a3, this, hz]
        cases a5 : isFieldB (l.take (k + 1)) l[k + 1].x l[k + 1].y
        · simp only [a1, a2, a3, a4, a5] at hz
          simp [cimpl_fieldsOk_L0, h0, h8, h9, h10, hc.slen, hc.noLoc, hin, hin', hkl, hpos, hpos2, hnat, him, e1, e2, e3, e4, f1, f2, f3, f5, eimpl_fieldsOk_impl_name, eimpl_fieldsOk_impl_in, impl_in, eimpl_fieldsOk_impl_isField, I, N, a1, hlt, a4, hk0, a2, a3, a5, hcn, hw1, hz]
        · have := fin (by simp only [hz, a1, a2, a3, a4, a5]; rfl)
          simp only [a1, a2, a3, a4, a5] at hz
          simp [cimpl_fieldsOk_L0, h0, h8, h9, h10, hc.slen, hc.noLoc, hin, hin', hkl, hpos, hpos2, hnat, him, e1, e2, e3, e4, f1, f2, f3, f5, eimpl_fieldsOk_impl_name, eimpl_fieldsOk_impl_in, impl_in, eimpl_fieldsOk_impl_isField, I, N, a1, hlt, a4, hk0, a2, a3, a5, hcn, hw1, hz, this]
    · rintro ⟨T, ⟨h', lc⟩⟩ hno ⟨h0, h8, h9, h10, hs⟩
      simp only at h0 h8 h9 h10 hs
      subst hs
      have : fieldsOkB l = true := by
        have := allN_of (n := l.length) (p := fieldStep l) fun j hj => by simpa using hno j hj
        simp [fieldsOkB, this, h4]
      simp [cimpl_fieldsOk_L0, h0, h8, h9, h10, this]
  · have h4' : (4 : Int) < l.length := by omega
    have e1 : fieldsOkB l = false := by simp [fieldsOkB, h4]
    simp [cimpl_fieldsOk, hc.slen, hc.noLoc, h4', e1]
end Go.Abs

/-
  Books: what the functions compute.
-/

namespace Go.Abs
set_option linter.unusedSimpArgs false
set_option linter.unusedVariables false
attribute [local simp] AW_skip AW_exit AW_ret AW_seq AW_block AW_cond CW_ite AW_reg AW_regD RW_nil RW_cons RW_guard GW_t GW_f GW_gt GW_gf GW_tup GY_some GY_tt GY_ff gd_t gd_f pk_t pk_f pk_and pk_or pk_andc pk_orc pk_bool gd_gd SW_some ThenQ_normal ThenQ_exit ThenQ_ret BlockQ_normal BlockQ_exit BlockQ_ret kill_nil kill_cons killT_at killL_at upo_some upo_none ev_t ev_k FinQ_ret FinQ_normal upd_eq upd_ne argsT_zero argsT_succ aop.eq_1 aop_pick aop.eq_3 aop.eq_4 aop.eq_5 aop.eq_6 aop.eq_7 aop.eq_8 aop.eq_9 aop.eq_10 aop.eq_11 aop.eq_12 aop.eq_13 aop.eq_14 aop.eq_15 aop.eq_16 aop.eq_17 aop.eq_18 aop.eq_19 aop.eq_20 aop.eq_21 aop_slice_hi aop_slice_lo aop.eq_23 aop.eq_24 aop.eq_26 aop.eq_27 aop.eq_28 aop.eq_29 aop.eq_31 aop.eq_32 aop_maxs2 aop_mins2 aop_mins3 aop_len aop_iaddr Av.bool? Av.ptr? Av.int? Av.int64? Av.str? Av.agg? ressA resA resOf noLoc_int noLoc_bool noLoc_str noLoc_nils noLoc_nilp noLoc_ptrl noLoc_ptrr noLoc_sll noLoc_slr noLoc_fn noLoc_tc noLoc_tagg noLoc_av noLoc_atup ce_c tv_v cells_c cells_agg noLocs keyLoc evs callA St.set St.get unAv binCe killV_int killV_bool killV_str killV_nils killV_nilp killV_agg killV_no killV_tup killV_ptrl killV_ptrr killV_sll killV_slr killV_fn killV_noLoc fillA repl
attribute [local congr] GY_congr
theorem spec_l2From {S : Nat → Prop} (h : Heap) (c : Ce) (l : List Box) (k : Int) (hc : RdF fBox S h c l) :
    Fspec_l2From [.v (.c c), .v (.c (.int .i64 k))] h = some (.v (.c (.bool (fromB l k))), h) := by
  unfold Fspec_l2From
  have hl := hc.le
  refine runF_eq ?_
  simp [cspec_l2From]
  refine AW_for1 l.length (fun i => decide ((l.getD i default).tin < k)) (fun i x => x.1 0 = .v (.c c) ∧ x.1 1 = .v (.c (.int .i64 k)) ∧ x.1 5 = .v (.c (.int .i64 i)) ∧ x.2 = ⟨h, nol⟩) (by simp) ?_ ?_
  · rintro i ⟨T, s⟩ hin _ ⟨h0, h1, h5, rfl⟩
    simp only at h0 h1 h5
    obtain ⟨b, p, r, e1, _, e2, e3, e4, e5, e6, e7, e8, e9, e10⟩ := hc.box hin
    have hw := wrap1 (i := i) (by omega)
    have fin : l[i].tin < k → fromB l k = false := fun a => all_no hin (by simp; omega)
    simp +contextual [cspec_l2From_L0, h0, h1, h5, hc.slen, hin, e1, e2, e9, hw, fin]
  · rintro ⟨T, s⟩ hno ⟨h0, h1, h5, rfl⟩
    simp only at h0 h1 h5
    have : fromB l k = true := all_of fun j hj => by
      have := hno j hj
      simp [hj] at this
      simpa using this
    simp [cspec_l2From_L0, h0, h1, h5, hc.slen, this]
theorem impl_from {S : Nat → Prop} (h : Heap) (c : Ce) (l : List Box) (k : Int) (hc : RdF fBox S h c l) :
    Fimpl_from [.v (.c c), .v (.c (.int .i64 k))] h = some (.v (.c (.bool (fromB l k))), h) := by
  unfold Fimpl_from
  have hl := hc.le
  refine runF_eq ?_
  simp [cimpl_from, hc.slen]
  refine AW_for1 l.length (fun i => decide ((l.getD i default).tin < k)) (fun i x => x.1 1 = .v (.c (.int .i64 k)) ∧ x.1 7 = .v (.c c) ∧ x.1 8 = .v (.c (.int .i64 l.length)) ∧ x.1 9 = .v (.c (.int .i64 i)) ∧ x.2.h = h) (by simp) ?_ ?_
  · rintro i ⟨T, ⟨h', lc⟩⟩ hin _ ⟨h1, h7, h8, h9, hs⟩
    simp only at h1 h7 h8 h9 hs
    subst hs
    obtain ⟨b, p, r, e1, _, e2, e3, e4, e5, e6, e7, e8, e9, e10⟩ := hc.box hin
    have hw := wrap1 (i := i) (by omega)
    have fin : l[i].tin < k → fromB l k = false := fun a => all_no hin (by simp; omega)
    simp +contextual [cimpl_from_L0, h1, h7, h8, h9, hc.noLoc, hin, e1, e2, e3, e4, hw, fin]
  · rintro ⟨T, ⟨h', lc⟩⟩ hno ⟨h1, h7, h8, h9, hs⟩
    simp only at h1 h7 h8 h9 hs
    subst hs
    have : fromB l k = true := all_of fun j hj => by
      have := hno j hj
      simp [hj] at this
      simpa using this
    simp [cimpl_from_L0, h8, h9, this]

theorem spec_l2HeldOk {S S' : Nat → Prop} (h : Heap) (now : Int) (cf ch : Ce) (fs : List Fld) (c : HeldC) (a : Held) (hf : RdF fField S h cf fs) (hr : RdHeld S' h c a) (hs : SzS a.name) :
    Fspec_l2HeldOk [.v (.agg [.int .i64 now, cf, ch]), .v (.agg [.str c.name, c.t, c.x])] h = some (.v (.c (.bool (heldOkB now fs a))), h) := by
  unfold Fspec_l2HeldOk heldOkB
  obtain ⟨hn, ht, hx⟩ := hr
  have N := spec_l1NameOk h a.name hs
  have T1 := spec_GiveTubeOk h cf c.t fs a.tube hf ht
  have T2 := spec_GiveTubeOk h cf c.x fs a.next hf hx
  have F1 := spec_l2From h c.t a.tube now ht
  have F2 := spec_l2From h c.x a.next now hx
  refine runF_eq ?_
  cases a1 : nameOkB a.name
  · simp [cspec_l2HeldOk, hn, ht.noLoc, hx.noLoc, hf.noLoc, hx.slen, espec_l2HeldOk_spec_l1NameOk, N, a1]
  cases a2 : tubeOkB fs a.tube
  · simp [cspec_l2HeldOk, hn, ht.noLoc, hx.noLoc, hf.noLoc, hx.slen, espec_l2HeldOk_spec_l1NameOk, espec_l2HeldOk_spec_GiveTubeOk, N, T1, a1, a2]
  cases a3 : fromB a.tube now
  · simp [cspec_l2HeldOk, hn, ht.noLoc, hx.noLoc, hf.noLoc, hx.slen, espec_l2HeldOk_spec_l1NameOk, espec_l2HeldOk_spec_GiveTubeOk, espec_l2HeldOk_spec_l2From, N, T1, F1, a1, a2, a3]
  by_cases a4 : a.next.length = 0
  · simp [cspec_l2HeldOk, hn, ht.noLoc, hx.noLoc, hf.noLoc, hx.slen, espec_l2HeldOk_spec_l1NameOk, espec_l2HeldOk_spec_GiveTubeOk, espec_l2HeldOk_spec_l2From, N, T1, F1, a1, a2, a3, a4]
  have a5 : ((a.next.length : Int) == 0) = false := by simpa using a4
  have a6 : ¬ a.next = [] := fun k => a4 (by rw [k]; rfl)
  cases a7 : tubeOkB fs a.next <;> simp [cspec_l2HeldOk, hn, ht.noLoc, hx.noLoc, hf.noLoc, hx.slen, espec_l2HeldOk_spec_l1NameOk, espec_l2HeldOk_spec_GiveTubeOk, espec_l2HeldOk_spec_l2From, N, T1, T2, F1, F2, a1, a2, a3, a5, a6, a7]
theorem spec_l2Meets {S S' : Nat → Prop} (h : Heap) (c c' : HeldC) (a b : Held) (hr : RdHeld S h c a) (hr' : RdHeld S' h c' b) :
    Fspec_l2Meets [.v (.agg [.str c.name, c.t, c.x]), .v (.agg [.str c'.name, c'.t, c'.x])] h = some (.v (.c (.bool (meetsB a b))), h) := by
  unfold Fspec_l2Meets meetsB
  have G1 := spec_GiveNear h _ _ _ _ hr.t hr'.t
  have G2 := spec_GiveNear h _ _ _ _ hr.t hr'.x
  have G3 := spec_GiveNear h _ _ _ _ hr.x hr'.t
  have G4 := spec_GiveNear h _ _ _ _ hr.x hr'.x
  refine runF_eq ?_
  simp +contextual [cspec_l2Meets, hr.t.noLoc, hr.x.noLoc, hr'.t.noLoc, hr'.x.noLoc, espec_l2Meets_spec_GiveNear, G1, G2, G3, G4, Bool.or_assoc]
theorem impl_GiveHeld_near {S S' : Nat → Prop} (h : Heap) (c : HeldC) (a : Held) (c' : Ce) (t : List Box) (hr : RdHeld S h c a) (hc : RdF fBox S' h c' t) :
    Fimpl_GiveHeld_near [.v (.agg [.str c.name, c.t, c.x]), .v (.c c')] h = some (.v (.c (.bool (nearL a.tube t || nearL a.next t))), h) := by
  unfold Fimpl_GiveHeld_near
  have G1 := impl_GiveNear h _ _ _ _ hr.t hc
  have G2 := impl_GiveNear h _ _ _ _ hr.x hc
  refine runF_eq ?_
  simp +contextual [cimpl_GiveHeld_near, hr.t.noLoc, hr.x.noLoc, hc.noLoc, eimpl_GiveHeld_near_impl_GiveNear, G1, G2]

theorem spec_l3Free {S S' : Nat → Prop} (h : Heap) (c : BookC) (b : Book) (n : ByteArray) (ct : Ce) (t : List Box) (hr : RdBook S h c b) (ht : RdF fBox S' h ct t) :
    Fspec_l3Free [.v (.agg c.ces), .v (.c (.str n)), .v (.c ct)] h = some (.v (.c (.bool (freeB b n t))), h) := by
  unfold Fspec_l3Free
  obtain ⟨hnow, hf, hs, hh, hlen, hel⟩ := hr
  have hl := hh.le
  refine runF_eq ?_
  simp [cspec_l3Free, BookC.ces, ht.noLoc]
  refine AW_for1 hs.length (fun i => !(decide ((b.held.getD i default).name = n) || !(nearL (b.held.getD i default).tube t || nearL (b.held.getD i default).next t))) (fun i x => x.1 1 = .v (.c (.str n)) ∧ x.1 2 = .v (.c ct) ∧ x.1 3 = .v (.c (.ptr (.inl 3) 0)) ∧ x.1 7 = .v (.c (.int .i64 i)) ∧ x.2.lc 3 = some ⟨[.int .i64 c.now, c.f, c.hd], 3, true⟩ ∧ x.2.h = h) (by simp [ht.noLoc]) ?_ ?_
  · rintro i ⟨T, ⟨h', lc⟩⟩ hin _ ⟨h1, h2, h3, h7, hl3, hs'⟩
    simp only at h1 h2 h3 h7 hl3 hs'
    subst hs'
    obtain ⟨eb, ep, er, e1, _, e2, e3, e4, e5, e6, e7⟩ := hh.heldc hin
    have hin' : i < b.held.length := by omega
    obtain ⟨hn, htu, hx⟩ := hel i hin hin'
    have hw := wrap1 (i := i) (by omega)
    have G1 := spec_GiveNear h' _ _ _ _ htu ht
    have G2 := spec_GiveNear h' _ _ _ _ hx ht
    have fin : ∀ (_ : (decide (b.held[i].name = n) || !(nearL b.held[i].tube t || nearL b.held[i].next t)) = false), freeB b n t = false := fun k => all_no hin' k
    cases a1 : nearL b.held[i].tube t <;> cases a2 : nearL b.held[i].next t <;> by_cases a3 : b.held[i].name = n <;> simp [a1, a2, a3] at fin <;>
      simp [cspec_l3Free_L0, h1, h2, h3, h7, hl3, hh.slen, hh.noLoc, htu.noLoc, hx.noLoc, ht.noLoc, hin, hin', e1, e2, e5, e6, e7, hn, bytes_beq, espec_l3Free_spec_GiveNear, G1, G2, hw, a1, a2, a3, fin]
  · rintro ⟨T, ⟨h', lc⟩⟩ hno ⟨h1, h2, h3, h7, hl3, hs'⟩
    simp only at h1 h2 h3 h7 hl3 hs'
    subst hs'
    have : freeB b n t = true := all_of fun j hj => by
      have := hno j (by omega)
      simp [hj] at this
      by_cases hnn : b.held[j].name = n <;> simp_all
    simp [cspec_l3Free_L0, h3, h7, hl3, hh.slen, hh.noLoc, this]
theorem impl_GiveBook_free {S S' : Nat → Prop} (h : Heap) (c : BookC) (b : Book) (n : ByteArray) (ct : Ce) (t : List Box) (hr : RdBook S h c b) (ht : RdF fBox S' h ct t) :
    Fimpl_GiveBook_free [.v (.agg c.ces), .v (.c (.str n)), .v (.c ct)] h = some (.v (.c (.bool (freeB b n t))), h) := by
  unfold Fimpl_GiveBook_free
  obtain ⟨hnow, hf, hs, hh, hlen, hel⟩ := hr
  have hl := hh.le
  refine runF_eq ?_
  simp [cimpl_GiveBook_free, BookC.ces, ht.noLoc, hh.noLoc, hh.slen]
  refine AW_for1 hs.length (fun i => !(decide ((b.held.getD i default).name = n) || !(nearL (b.held.getD i default).tube t || nearL (b.held.getD i default).next t))) (fun i x => x.1 1 = .v (.c (.str n)) ∧ x.1 2 = .v (.c ct) ∧ x.1 10 = .v (.c c.hd) ∧ x.1 11 = .v (.c (.int .i64 hs.length)) ∧ x.1 12 = .v (.c (.int .i64 i)) ∧ x.2.h = h) (by simp [ht.noLoc]) ?_ ?_
  · rintro i ⟨T, ⟨h', lc⟩⟩ hin _ ⟨h1, h2, h10, h11, h12, hs'⟩
    simp only at h1 h2 h10 h11 h12 hs'
    subst hs'
    obtain ⟨eb, ep, er, e1, _, e2, e3, e4, e5, e6, e7⟩ := hh.heldc hin
    have hin' : i < b.held.length := by omega
    have hri := hel i hin hin'
    have hn := hri.name
    have hw := wrap1 (i := i) (by omega)
    have G1 := impl_GiveHeld_near h' _ _ _ _ hri ht
    have fin : ∀ (_ : (decide (b.held[i].name = n) || !(nearL b.held[i].tube t || nearL b.held[i].next t)) = false), freeB b n t = false := fun k => all_no hin' k
    cases a1 : (nearL b.held[i].tube t || nearL b.held[i].next t) <;> by_cases a3 : b.held[i].name = n <;> simp [a1, a3] at fin <;> rw [a1] at G1 <;> rw [hn] at e4 G1 <;>
      simp [cimpl_GiveBook_free_L0, h1, h2, h10, h11, h12, hh.slen, hh.noLoc, ht.noLoc, hin, hin', e1, e2, e3, e4, bytes_beq, eimpl_GiveBook_free_impl_GiveHeld_near, G1, hw, a1, a3, fin]
  · rintro ⟨T, ⟨h', lc⟩⟩ hno ⟨h1, h2, h10, h11, h12, hs'⟩
    simp only at h1 h2 h10 h11 h12 hs'
    subst hs'
    have : freeB b n t = true := all_of fun j hj => by
      have := hno j (by omega)
      simp [hj] at this
      by_cases hnn : b.held[j].name = n <;> simp_all
    simp [cimpl_GiveBook_free_L0, h11, h12, this]
theorem any_take {α : Type} {l : List α} {p : α → Bool} {i : Nat} (hi : i ≤ l.length) : (l.take i).any p = false ↔ ∀ k (hk : k < l.length), k < i → p l[k] = false := by
  rw [List.any_eq_false]
  constructor
  · intro h k hk hki
    have := h l[k] (by rw [List.mem_take_iff_getElem]; exact ⟨k, by omega, rfl⟩)
    simpa using this
  · intro h x hx
    rw [List.mem_take_iff_getElem] at hx
    obtain ⟨k, hk, rfl⟩ := hx
    simpa using h k (by omega) (by omega)

theorem spec_GiveBookOk {S : Nat → Prop} (h : Heap) (c : BookC) (b : Book) (hr : RdBook S h c b) (hw : BookWf b) :
    Fspec_GiveBookOk [.v (.agg c.ces)] h = some (.v (.c (.bool (bookOkB b))), h) := by
  unfold Fspec_GiveBookOk
  obtain ⟨hnow, hf, hs, hh, hlen, hel⟩ := hr
  have hl := hh.le
  have FO := spec_l2FieldsOk h c.f b.fields hf hw.f
  refine runF_eq ?_
  cases a1 : inB b.now 0 10000
  · have : bookOkB b = false := by simp [bookOkB, a1]
    simp [cspec_GiveBookOk, BookC.ces, hnow, espec_GiveBookOk_spec_l1In, spec_l1In, a1, this]
  cases a2 : fieldsOkB b.fields
  · have : bookOkB b = false := by simp [bookOkB, a2]
    simp [cspec_GiveBookOk, BookC.ces, hnow, hf.noLoc, espec_GiveBookOk_spec_l1In, espec_GiveBookOk_spec_l2FieldsOk, spec_l1In, FO, a1, a2, this]
  by_cases a3 : ¬ hs.length ≤ 16
  · have a3' : (16 : Int) < hs.length := by omega
    have : bookOkB b = false := by simp [bookOkB, show ¬ b.held.length ≤ 16 by omega]
    simp [cspec_GiveBookOk, BookC.ces, hnow, hf.noLoc, hh.slen, espec_GiveBookOk_spec_l1In, espec_GiveBookOk_spec_l2FieldsOk, spec_l1In, FO, a1, a2, a3', this]
  have a3' : ¬ (16 : Int) < hs.length := by omega
  simp [cspec_GiveBookOk, BookC.ces, hnow, hf.noLoc, hh.slen, espec_GiveBookOk_spec_l1In, espec_GiveBookOk_spec_l2FieldsOk, spec_l1In, FO, a1, a2, a3']
  refine AW_for1 hs.length (fun i => !bookStep b i) (fun i x => x.1 1 = .v (.c (.ptr (.inl 1) 0)) ∧ x.1 3 = .v (.c (.int .i64 i)) ∧ x.2.lc 1 = some ⟨[.int .i64 b.now, c.f, c.hd], 3, true⟩ ∧ x.2.h = h) (by simp [hnow]) ?_ ?_
  · rintro i ⟨T, ⟨h', lc⟩⟩ hin hpre ⟨h1, h3, hl1, hs'⟩
    simp only at h1 h3 hl1 hs'
    subst hs'
    obtain ⟨eb, ep, er, e1, _, e2, e3, e4, e5, e6, e7⟩ := hh.heldc hin
    have hin' : i < b.held.length := by omega
    have hri := hel i hin hin'
    have hw1 := wrap1 (i := i) (by omega)
    have fin : bookStep b i = false → bookOkB b = false := fun k => by simp [bookOkB, allN_no hin' k]
    have HO := spec_l2HeldOk h' b.now c.f c.hd b.fields hs[i] b.held[i] hf hri (hw.h _ (List.getElem_mem hin'))
    have inner : ∀ (T : Nat → Av) (lc : Nat → Option Row), T 1 = .v (.c (.ptr (.inl 1) 0)) → T 3 = .v (.c (.int .i64 i)) → T 4 = .v (.c (.int .i64 0)) → lc 1 = some ⟨[.int .i64 b.now, c.f, c.hd], 3, true⟩ →
        ((b.held.take i).any (fun o => meetsB o b.held[i]) = false → bookStep b i = true) → ((b.held.take i).any (fun o => meetsB o b.held[i]) = true → bookStep b i = false) →
        AW espec_GiveBookOk (.loop cspec_GiveBookOk_L1) (BlockQ 2 (BlockQ 1 (ThenQ espec_GiveBookOk (.reg [] [MV 26 3, OP 27 (.bin .add (.t 26) (KI 1)), MV 3 27]) fun e y =>
          (!bookStep b i) = false ∧ e = .normal ∧ y.1 1 = .v (.c (.ptr (.inl 1) 0)) ∧ y.1 3 = .v (.c (.int .i64 ((i + 1 : Nat) : Int))) ∧ y.2.lc 1 = some ⟨[.int .i64 b.now, c.f, c.hd], 3, true⟩ ∧ y.2.h = h' ∨ (!bookStep b i) = true ∧ e ≠ .normal ∧ BlockQ 0 (ThenQ espec_GiveBookOk (.seq (.reg [] [OP 2 (.mov KT)]) .ret) (FinQ [.t 2] fun v k => v = .v (.c (.bool (bookOkB b))) ∧ k = h')) e y))) (T, ⟨h', lc⟩) := by
      intro T lc h1 h3 h4 hl1 g1 g2
      refine AW_for1 i (fun k => meetsB (b.held.getD k default) b.held[i]) (fun k x => x.1 1 = .v (.c (.ptr (.inl 1) 0)) ∧ x.1 3 = .v (.c (.int .i64 i)) ∧ x.1 4 = .v (.c (.int .i64 k)) ∧ x.2.lc 1 = some ⟨[.int .i64 b.now, c.f, c.hd], 3, true⟩ ∧ x.2.h = h') ⟨h1, h3, h4, hl1, rfl⟩ ?_ ?_
      · rintro k ⟨T, ⟨h', lc⟩⟩ hki _ ⟨h1, h3, h4, hl1, hs'⟩
        simp only at h1 h3 h4 hl1 hs'
        subst hs'
        have hkl : k < hs.length := by omega
        have hkl' : k < b.held.length := by omega
        obtain ⟨fb, fp, fr, f1, _, f2, f3, f4, f5, f6, f7⟩ := hh.heldc hkl
        have hw2 := wrap1 (i := k) (by omega)
        have M := spec_l2Meets h' hs[k] hs[i] b.held[k] b.held[i] (hel k hkl hkl') hri
        have g3 : meetsB b.held[k] b.held[i] = true → bookStep b i = false := fun a => g2 (by
          cases hq : (b.held.take i).any (fun o => meetsB o b.held[i])
          · rw [any_take (by omega)] at hq
            rw [hq k hkl' hki] at a
            cases a
          · rfl)
        have g4 : meetsB b.held[k] b.held[i] = true → bookOkB b = false := fun a => fin (g3 a)
        simp +contextual [cspec_GiveBookOk_L1, h1, h3, h4, hl1, hh.noLoc, hh.slen, hin, hin', hki, hkl, hkl', e1, e2, e3, e4, f1, f2, f3, f4, hw2, espec_GiveBookOk_spec_l2Meets, M, g3, g4]
      · rintro ⟨T, ⟨h', lc⟩⟩ hno ⟨h1, h3, h4, hl1, hs'⟩
        simp only at h1 h3 h4 hl1 hs'
        subst hs'
        have : bookStep b i = true := g1 (by
          rw [any_take (by omega)]
          intro k hk hki
          have := hno k hki
          simpa [hk] using this)
        simp [cspec_GiveBookOk_L1, h1, h3, h4, hl1, this, hw1]
    rcases i with _ | k
    · have hz : bookStep b 0 = (heldOkB b.now b.fields b.held[0] && !(b.held.take 0).any fun o => meetsB o b.held[0]) := by simp [bookStep, hin']
      simp at e1 h3 hw1
      cases b1 : heldOkB b.now b.fields b.held[0]
      · have := fin (by simp [hz, b1])
        simp [cspec_GiveBookOk_L0, h1, h3, hl1, hh.slen, hh.noLoc, hin, hin', e1, e2, e3, e4, espec_GiveBookOk_spec_l2HeldOk, HO, b1, this, hz]
      simp [cspec_GiveBookOk_L0, h1, h3, hl1, hh.slen, hh.noLoc, hin, hin', e1, e2, e3, e4, espec_GiveBookOk_spec_l2HeldOk, HO, b1]
      refine AW_mono (inner _ _ ?_ ?_ ?_ ?_ ?_ ?_) (fun e y k => ?_)
      all_goals first | (simp [h1, h3, hl1, hz, b1]; done) | (simpa using k)
    · have hkl : k < hs.length := by omega
      have hkl' : k < b.held.length := by omega
      obtain ⟨gb, gp, gr, f1, _, f2, f3, f4, f5, f6, f7⟩ := hh.heldc hkl
      have hk0 := wrap_nat (n := k) (by omega)
      have hii : (k : Int) + 1 < hs.length := by omega
      have hpos : (0 : Int) < (k : Int) + 1 := by omega
      have hz : bookStep b (k + 1) = (heldOkB b.now b.fields b.held[k + 1] && ltS b.held[k].name b.held[k + 1].name && !(b.held.take (k + 1)).any fun o => meetsB o b.held[k + 1]) := by simp [bookStep, hin', hkl']
      simp at e1 h3 hw1
      have hn1 := hri.name
      have hn2 := (hel k hkl hkl').name
      rw [hn1] at HO e4 e5
      rw [hn2] at f5
      have hlt : Op.bytesLess b.held[k].name.toList b.held[k + 1].name.toList = ltS b.held[k].name b.held[k + 1].name := rfl
      cases b1 : heldOkB b.now b.fields b.held[k + 1]
      · have := fin (by simp [hz, b1])
        simp [cspec_GiveBookOk_L0, h1, h3, hl1, hh.slen, hh.noLoc, hin, hin', hii, e1, e2, e3, e4, espec_GiveBookOk_spec_l2HeldOk, HO, b1, this, hz]
      cases b2 : ltS b.held[k].name b.held[k + 1].name
      · have := fin (by simp [hz, b1, b2])
        simp [cspec_GiveBookOk_L0, h1, h3, hl1, hh.slen, hh.noLoc, hin, hin', hii, hpos, hkl, hkl', e1, e2, e3, e4, e5, f1, f2, f5, hk0, hlt, espec_GiveBookOk_spec_l2HeldOk, HO, b1, b2, this, hz]
      simp [cspec_GiveBookOk_L0, h1, h3, hl1, hh.slen, hh.noLoc, hin, hin', hii, hpos, hkl, hkl', e1, e2, e3, e4, e5, f1, f2, f5, hk0, hlt, espec_GiveBookOk_spec_l2HeldOk, HO, b1, b2]
      refine AW_mono (inner _ _ ?_ ?_ ?_ ?_ ?_ ?_) (fun e y k => ?_)
      all_goals first | (simp [h1, h3, hl1, hz, b1, b2]; done) | (simpa using k)
  · rintro ⟨T, ⟨h', lc⟩⟩ hno ⟨h1, h3, hl1, hs'⟩
    simp only at h1 h3 hl1 hs'
    subst hs'
    have : bookOkB b = true := by
      have := allN_of (n := b.held.length) (p := bookStep b) fun j hj => by simpa using hno j (by omega)
      simp [bookOkB, this, a1, a2, show b.held.length ≤ 16 by omega]
    simp [cspec_GiveBookOk_L0, h1, h3, hl1, hh.slen, hh.noLoc, this]
theorem meets_eq (a b : Held) : ((nearL a.tube b.tube || nearL a.next b.tube) || (nearL a.tube b.next || nearL a.next b.next)) = meetsB a b := by
  unfold meetsB
  cases nearL a.tube b.tube <;> cases nearL a.next b.tube <;> cases nearL a.tube b.next <;> cases nearL a.next b.next <;> rfl
theorem RdF.cut_slen {α : Type} {F : Fl α} {S : Nat → Prop} {h : Heap} {c : Ce} {l : List α} (hr : RdF F S h c l) {b : Nat} (hb : b ≤ l.length) : (c.cut .any F.sz 0 b).slen = some b := by
  have := (hr.cut (a := 0) (b := b) (by omega) hb).slen
  rw [this, List.drop_zero, List.length_take, Nat.min_eq_left hb]

set_option maxHeartbeats 2000000 in
theorem impl_GiveBookOk {S : Nat → Prop} (h : Heap) (c : BookC) (b : Book) (hr : RdBook S h c b) (hw : BookWf b) :
    Fimpl_GiveBookOk [.v (.agg c.ces)] h = some (.v (.c (.bool (bookOkB b))), h) := by
  unfold Fimpl_GiveBookOk
  obtain ⟨hnow, hf, hs, hh, hlen, hel⟩ := hr
  have hl := hh.le
  have FO := impl_fieldsOk h c.f b.fields hf hw.f
  refine runF_eq ?_
  cases a1 : inB b.now 0 10000
  · have : bookOkB b = false := by simp [bookOkB, a1]
    simp [cimpl_GiveBookOk, BookC.ces, hnow, eimpl_GiveBookOk_impl_in, impl_in, a1, this]
  cases a2 : fieldsOkB b.fields
  · have : bookOkB b = false := by simp [bookOkB, a2]
    simp [cimpl_GiveBookOk, BookC.ces, hnow, hf.noLoc, eimpl_GiveBookOk_impl_in, eimpl_GiveBookOk_impl_fieldsOk, impl_in, FO, a1, a2, this]
  by_cases a3 : ¬ hs.length ≤ 16
  · have a3' : (16 : Int) < hs.length := by omega
    have : bookOkB b = false := by simp [bookOkB, show ¬ b.held.length ≤ 16 by omega]
    simp [cimpl_GiveBookOk, BookC.ces, hnow, hf.noLoc, hh.slen, eimpl_GiveBookOk_impl_in, eimpl_GiveBookOk_impl_fieldsOk, impl_in, FO, a1, a2, a3', this]
  have a3' : ¬ (16 : Int) < hs.length := by omega
  simp [cimpl_GiveBookOk, BookC.ces, hnow, hf.noLoc, hh.slen, hh.noLoc, eimpl_GiveBookOk_impl_in, eimpl_GiveBookOk_impl_fieldsOk, impl_in, FO, a1, a2, a3']
  refine AW_for1 hs.length (fun i => !bookStep b i) (fun i x => x.1 1 = .v (.c (.ptr (.inl 1) 0)) ∧ x.1 24 = .v (.c c.hd) ∧ x.1 25 = .v (.c (.int .i64 hs.length)) ∧ x.1 26 = .v (.c (.int .i64 i)) ∧ x.2.lc 1 = some ⟨[.int .i64 b.now, c.f, c.hd], 3, true⟩ ∧ x.2.h = h) (by simp [hnow]) ?_ ?_
  · rintro i ⟨T, ⟨h', lc⟩⟩ hin hpre ⟨h1, h24, h25, h26, hl1, hs'⟩
    simp only at h1 h24 h25 h26 hl1 hs'
    subst hs'
    obtain ⟨eb, ep, er, e1, _, e2, e3, e4, e5, e6, e7⟩ := hh.heldc hin
    have hin' : i < b.held.length := by omega
    have hri := hel i hin hin'
    have hn1 := hri.name
    have hw1 := wrap1 (i := i) (by omega)
    have fin : bookStep b i = false → bookOkB b = false := fun k => by simp [bookOkB, allN_no hin' k]
    have N := impl_name h' b.held[i].name (hw.h _ (List.getElem_mem hin'))
    have T1 := impl_GiveTubeOk h' _ _ _ _ hf hri.t
    have T2 := impl_GiveTubeOk h' _ _ _ _ hf hri.x
    have F1 := impl_from h' _ _ b.now hri.t
    have F2 := impl_from h' _ _ b.now hri.x
    have hcut := hh.cut (a := 0) (b := i) (by omega) (by omega)
    have hcs := hh.cut_slen (b := i) (by omega)
    simp only [List.drop_zero, show fHeld.sz = 3 from rfl] at hcut hcs
    have hcn := hcut.noLoc
    have hile : (i : Int) ≤ hs.length := by omega
    rw [hn1] at e4 e5
    have inner : ∀ (T : Nat → Av) (lc : Nat → Option Row), T 1 = .v (.c (.ptr (.inl 1) 0)) → T 4 = .v (.c (.ptr (.inl 4) 0)) → T 24 = .v (.c c.hd) → T 25 = .v (.c (.int .i64 hs.length)) → T 26 = .v (.c (.int .i64 i)) → T 90 = .v (.c (c.hd.cut .any 3 0 i)) → T 91 = .v (.c (.int .i64 i)) → T 92 = .v (.c (.int .i64 0)) → lc 1 = some ⟨[.int .i64 b.now, c.f, c.hd], 3, true⟩ → lc 4 = some ⟨[.str b.held[i].name, hs[i].t, hs[i].x], 3, true⟩ →
        ((b.held.take i).any (fun o => meetsB o b.held[i]) = false → bookStep b i = true) → ((b.held.take i).any (fun o => meetsB o b.held[i]) = true → bookStep b i = false) →
        AW eimpl_GiveBookOk (.loop cimpl_GiveBookOk_L1) (BlockQ 2 (BlockQ 1 (ThenQ eimpl_GiveBookOk (.reg [] [OP 107 (.bin .add (.t 26) (KI 1)), MV 26 107]) fun e y =>
          (!bookStep b i) = false ∧ e = .normal ∧ y.1 1 = .v (.c (.ptr (.inl 1) 0)) ∧ y.1 24 = .v (.c c.hd) ∧ y.1 25 = .v (.c (.int .i64 hs.length)) ∧ y.1 26 = .v (.c (.int .i64 ((i + 1 : Nat) : Int))) ∧ y.2.lc 1 = some ⟨[.int .i64 b.now, c.f, c.hd], 3, true⟩ ∧ y.2.h = h' ∨ (!bookStep b i) = true ∧ e ≠ .normal ∧ BlockQ 0 (ThenQ eimpl_GiveBookOk (.seq (.reg [] [OP 2 (.mov KT)]) .ret) (FinQ [.t 2] fun v k => v = .v (.c (.bool (bookOkB b))) ∧ k = h')) e y))) (T, ⟨h', lc⟩) := by
      intro T lc h1 h4 h24 h25 h26 h90 h91 h92 hl1 hl4 g1 g2
      refine AW_for1 i (fun k => meetsB (b.held.getD k default) b.held[i]) (fun k x => x.1 1 = .v (.c (.ptr (.inl 1) 0)) ∧ x.1 4 = .v (.c (.ptr (.inl 4) 0)) ∧ x.1 24 = .v (.c c.hd) ∧ x.1 25 = .v (.c (.int .i64 hs.length)) ∧ x.1 26 = .v (.c (.int .i64 i)) ∧ x.1 90 = .v (.c (c.hd.cut .any 3 0 i)) ∧ x.1 91 = .v (.c (.int .i64 i)) ∧ x.1 92 = .v (.c (.int .i64 k)) ∧ x.2.lc 1 = some ⟨[.int .i64 b.now, c.f, c.hd], 3, true⟩ ∧ x.2.lc 4 = some ⟨[.str b.held[i].name, hs[i].t, hs[i].x], 3, true⟩ ∧ x.2.h = h') ⟨h1, h4, h24, h25, h26, h90, h91, h92, hl1, hl4, rfl⟩ ?_ ?_
      · rintro k ⟨T, ⟨h', lc⟩⟩ hki _ ⟨h1, h4, h24, h25, h26, h90, h91, h92, hl1, hl4, hs'⟩
        simp only at h1 h4 h24 h25 h26 h90 h91 h92 hl1 hl4 hs'
        subst hs'
        have hkl : k < hs.length := by omega
        have hkl' : k < b.held.length := by omega
        have hkt : k < (hs.take i).length := by rw [List.length_take]; omega
        obtain ⟨fb, fp, fr, f1, _, f2, f3, f4, f5, f6, f7⟩ := hcut.heldc hkt
        simp only [List.getElem_take] at f4 f5 f6 f7
        have hw2 := wrap1 (i := k) (by omega)
        have hrk := hel k hkl hkl'
        have M1 := impl_GiveHeld_near h' _ _ _ _ hrk hri.t
        have M2 := impl_GiveHeld_near h' _ _ _ _ hrk hri.x
        have M := meets_eq b.held[k] b.held[i]
        have g3 : meetsB b.held[k] b.held[i] = true → bookStep b i = false := fun a => g2 (by
          cases hq : (b.held.take i).any (fun o => meetsB o b.held[i])
          · rw [any_take (by omega)] at hq
            rw [hq k hkl' hki] at a
            cases a
          · rfl)
        cases m1 : (nearL b.held[k].tube b.held[i].tube || nearL b.held[k].next b.held[i].tube)
        · cases m2 : (nearL b.held[k].tube b.held[i].next || nearL b.held[k].next b.held[i].next)
          · rw [m1, m2] at M
            rw [m1] at M1
            rw [m2] at M2
            simp at M
            simp [cimpl_GiveBookOk_L1, h1, h4, h24, h25, h26, h90, h91, h92, hl1, hl4, hh.noLoc, hcn, hri.t.noLoc, hri.x.noLoc, hki, hkl, hkl', f1, f2, f3, f4, hw2, eimpl_GiveBookOk_impl_GiveHeld_near, M1, M2, M]
          · rw [m1, m2] at M
            rw [m1] at M1
            rw [m2] at M2
            simp at M
            have g4 := g3 M
            have g5 := fin g4
            simp [cimpl_GiveBookOk_L1, h1, h4, h24, h25, h26, h90, h91, h92, hl1, hl4, hh.noLoc, hcn, hri.t.noLoc, hri.x.noLoc, hki, hkl, hkl', f1, f2, f3, f4, hw2, eimpl_GiveBookOk_impl_GiveHeld_near, M1, M2, M, g4, g5]
        · rw [m1] at M M1
          simp at M
          have g4 := g3 M
          have g5 := fin g4
          simp [cimpl_GiveBookOk_L1, h1, h4, h24, h25, h26, h90, h91, h92, hl1, hl4, hh.noLoc, hcn, hri.t.noLoc, hri.x.noLoc, hki, hkl, hkl', f1, f2, f3, f4, hw2, eimpl_GiveBookOk_impl_GiveHeld_near, M1, M, g4, g5]
      · rintro ⟨T, ⟨h', lc⟩⟩ hno ⟨h1, h4, h24, h25, h26, h90, h91, h92, hl1, hl4, hs'⟩
        simp only at h1 h4 h24 h25 h26 h90 h91 h92 hl1 hl4 hs'
        subst hs'
        have : bookStep b i = true := g1 (by
          rw [any_take (by omega)]
          intro k hk hki
          have := hno k hki
          simpa [hk] using this)
        simp [cimpl_GiveBookOk_L1, h1, h4, h24, h25, h26, h91, h92, hl1, this, hw1]
    have hne : b.held[i].next.length = 0 ∨ ¬ b.held[i].next.length = 0 := Decidable.em _
    have pre : ∀ nm : Bool, (i = 0 → nm = true) → (∀ k, i = k + 1 → nm = ltS (b.held.getD k default).name b.held[i].name) → bookStep b i = (heldOkB b.now b.fields b.held[i] && nm && !(b.held.take i).any fun o => meetsB o b.held[i]) := by
      intro nm q1 q2
      rcases i with _ | k
      · simp [bookStep, hin', q1 rfl]
      · simp [bookStep, hin', q2 k rfl]
    rcases i with _ | k
    · have hz := pre true (fun _ => rfl) (fun k hk => by omega)
      simp at e1 h26 hw1 hile
      cases b1 : nameOkB b.held[0].name
      · have hq : bookStep b 0 = false := by simp [hz, heldOkB, b1]
        simp [cimpl_GiveBookOk_L0, h1, h24, h25, h26, hl1, hh.slen, hh.noLoc, hin, hin', e1, e2, e3, e4, eimpl_GiveBookOk_impl_name, N, b1, hq, fin hq]
      cases b2 : tubeOkB b.fields b.held[0].tube
      · have hq : bookStep b 0 = false := by simp [hz, heldOkB, b2]
        simp [cimpl_GiveBookOk_L0, h1, h24, h25, h26, hl1, hh.slen, hh.noLoc, hf.noLoc, hri.t.noLoc, hri.x.noLoc, hin, hin', e1, e2, e3, e4, eimpl_GiveBookOk_impl_name, eimpl_GiveBookOk_impl_GiveTubeOk, N, T1, b1, b2, hq, fin hq]
      cases b3 : fromB b.held[0].tube b.now
      · have hq : bookStep b 0 = false := by simp [hz, heldOkB, b3]
        simp [cimpl_GiveBookOk_L0, h1, h24, h25, h26, hl1, hh.slen, hh.noLoc, hf.noLoc, hri.t.noLoc, hri.x.noLoc, hin, hin', e1, e2, e3, e4, eimpl_GiveBookOk_impl_name, eimpl_GiveBookOk_impl_GiveTubeOk, eimpl_GiveBookOk_impl_from, N, T1, F1, b1, b2, b3, hq, fin hq]
      rcases hne with b4 | b4
      · have b4n : ¬ 0 < (b.held[0].next.length) := by omega
        simp [cimpl_GiveBookOk_L0, h1, h24, h25, h26, hl1, hh.slen, hh.noLoc, hf.noLoc, hri.t.noLoc, hri.x.noLoc, hri.x.slen, hin, hin', hile, e1, e2, e3, e4, eimpl_GiveBookOk_impl_name, eimpl_GiveBookOk_impl_GiveTubeOk, eimpl_GiveBookOk_impl_from, N, T1, F1, b1, b2, b3, b4n, hcs]
        refine AW_mono (inner _ _ ?_ ?_ ?_ ?_ ?_ ?_ ?_ ?_ ?_ ?_ ?_ ?_) (fun e y k => ?_)
        all_goals first | (simp [h1, h24, h25, h26, hl1, hz, hh.noLoc, hcn, heldOkB, b1, b2, b3, b4]; done) | (simpa using k)
      have b4' : 0 < b.held[0].next.length := by omega
      cases b5 : tubeOkB b.fields b.held[0].next
      · have hq : bookStep b 0 = false := by simp [hz, heldOkB, b4, b5]
        simp [cimpl_GiveBookOk_L0, h1, h24, h25, h26, hl1, hh.slen, hh.noLoc, hf.noLoc, hri.t.noLoc, hri.x.noLoc, hri.x.slen, hin, hin', hile, e1, e2, e3, e4, eimpl_GiveBookOk_impl_name, eimpl_GiveBookOk_impl_GiveTubeOk, eimpl_GiveBookOk_impl_from, N, T1, F1, T2, b1, b2, b3, b4', b5, hq, fin hq]
      cases b6 : fromB b.held[0].next b.now
      · have hq : bookStep b 0 = false := by simp [hz, heldOkB, b4, b6]
        simp [cimpl_GiveBookOk_L0, h1, h24, h25, h26, hl1, hh.slen, hh.noLoc, hf.noLoc, hri.t.noLoc, hri.x.noLoc, hri.x.slen, hin, hin', hile, e1, e2, e3, e4, eimpl_GiveBookOk_impl_name, eimpl_GiveBookOk_impl_GiveTubeOk, eimpl_GiveBookOk_impl_from, N, T1, F1, T2, F2, b1, b2, b3, b4', b5, b6, hq, fin hq]
      simp [cimpl_GiveBookOk_L0, h1, h24, h25, h26, hl1, hh.slen, hh.noLoc, hf.noLoc, hri.t.noLoc, hri.x.noLoc, hri.x.slen, hin, hin', hile, e1, e2, e3, e4, eimpl_GiveBookOk_impl_name, eimpl_GiveBookOk_impl_GiveTubeOk, eimpl_GiveBookOk_impl_from, N, T1, F1, T2, F2, b1, b2, b3, b4', b5, b6, hcs]
      refine AW_mono (inner _ _ ?_ ?_ ?_ ?_ ?_ ?_ ?_ ?_ ?_ ?_ ?_ ?_) (fun e y k => ?_)
      all_goals first | (simp [h1, h24, h25, h26, hl1, hz, hh.noLoc, hcn, heldOkB, b1, b2, b3, b4, b5, b6]; done) | (simpa using k)
    · have hkl : k < hs.length := by omega
      have hkl' : k < b.held.length := by omega
      obtain ⟨gb, gp, gr, f1, _, f2, f3, f4, f5, f6, f7⟩ := hh.heldc hkl
      have hk0 := wrap_nat (n := k) (by omega)
      have hii : (k : Int) + 1 < hs.length := by omega
      have hpos : (0 : Int) < (k : Int) + 1 := by omega
      have hpos2 : (0 : Int) ≤ (k : Int) + 1 := by omega
      have hnat : ((k : Int) + 1).toNat = k + 1 := by omega
      have hlt : Op.bytesLess b.held[k].name.toList b.held[k + 1].name.toList = ltS b.held[k].name b.held[k + 1].name := rfl
      have hz := pre (ltS b.held[k].name b.held[k + 1].name) (fun hk => by omega) (fun k' hk => by
        obtain rfl : k = k' := (by omega)
        simp [hkl'])
      rw [(hel k hkl hkl').name] at f5
      simp at e1 h26 hw1 hile
      cases b1 : nameOkB b.held[k + 1].name
      · have hq : bookStep b (k + 1) = false := by simp [hz, heldOkB, b1]
        simp [cimpl_GiveBookOk_L0, h1, h24, h25, h26, hl1, hh.slen, hh.noLoc, hin, hin', hii, e1, e2, e3, e4, eimpl_GiveBookOk_impl_name, N, b1, hq, fin hq]
      cases b0 : ltS b.held[k].name b.held[k + 1].name
      · have hq : bookStep b (k + 1) = false := by simp [hz, b0]
        simp [cimpl_GiveBookOk_L0, h1, h24, h25, h26, hl1, hh.slen, hh.noLoc, hin, hin', hii, hkl, hkl', hpos, hk0, hlt, e1, e2, e3, e4, f1, f2, f5, eimpl_GiveBookOk_impl_name, N, b1, b0, hq, fin hq]
      cases b2 : tubeOkB b.fields b.held[k + 1].tube
      · have hq : bookStep b (k + 1) = false := by simp [hz, heldOkB, b2]
        simp [cimpl_GiveBookOk_L0, h1, h24, h25, h26, hl1, hh.slen, hh.noLoc, hf.noLoc, hri.t.noLoc, hri.x.noLoc, hin, hin', hii, hkl, hkl', hpos, hk0, hlt, e1, e2, e3, e4, f1, f2, f5, eimpl_GiveBookOk_impl_name, eimpl_GiveBookOk_impl_GiveTubeOk, N, T1, b1, b0, b2, hq, fin hq]
      cases b3 : fromB b.held[k + 1].tube b.now
      · have hq : bookStep b (k + 1) = false := by simp [hz, heldOkB, b3]
        simp [cimpl_GiveBookOk_L0, h1, h24, h25, h26, hl1, hh.slen, hh.noLoc, hf.noLoc, hri.t.noLoc, hri.x.noLoc, hin, hin', hii, hkl, hkl', hpos, hk0, hlt, e1, e2, e3, e4, f1, f2, f5, eimpl_GiveBookOk_impl_name, eimpl_GiveBookOk_impl_GiveTubeOk, eimpl_GiveBookOk_impl_from, N, T1, F1, b1, b0, b2, b3, hq, fin hq]
      rcases hne with b4 | b4
      · have b4n : ¬ 0 < (b.held[k + 1].next.length) := by omega
        simp [cimpl_GiveBookOk_L0, h1, h24, h25, h26, hl1, hh.slen, hh.noLoc, hf.noLoc, hri.t.noLoc, hri.x.noLoc, hri.x.slen, hin, hin', hii, hkl, hkl', hpos, hpos2, hnat, hk0, hlt, hile, e1, e2, e3, e4, f1, f2, f5, eimpl_GiveBookOk_impl_name, eimpl_GiveBookOk_impl_GiveTubeOk, eimpl_GiveBookOk_impl_from, N, T1, F1, b1, b0, b2, b3, b4n, hcs]
        refine AW_mono (inner _ _ ?_ ?_ ?_ ?_ ?_ ?_ ?_ ?_ ?_ ?_ ?_ ?_) (fun e y k => ?_)
        all_goals first | (simp [h1, h24, h25, h26, hl1, hz, hh.noLoc, hcn, heldOkB, b1, b0, b2, b3, b4]; done) | (simpa using k)
      have b4' : 0 < b.held[k + 1].next.length := by omega
      cases b5 : tubeOkB b.fields b.held[k + 1].next
      · have hq : bookStep b (k + 1) = false := by simp [hz, heldOkB, b4, b5]
        simp [cimpl_GiveBookOk_L0, h1, h24, h25, h26, hl1, hh.slen, hh.noLoc, hf.noLoc, hri.t.noLoc, hri.x.noLoc, hri.x.slen, hin, hin', hii, hkl, hkl', hpos, hk0, hlt, hile, e1, e2, e3, e4, f1, f2, f5, eimpl_GiveBookOk_impl_name, eimpl_GiveBookOk_impl_GiveTubeOk, eimpl_GiveBookOk_impl_from, N, T1, F1, T2, b1, b0, b2, b3, b4', b5, hq, fin hq]
      cases b6 : fromB b.held[k + 1].next b.now
      · have hq : bookStep b (k + 1) = false := by simp [hz, heldOkB, b4, b6]
        simp [cimpl_GiveBookOk_L0, h1, h24, h25, h26, hl1, hh.slen, hh.noLoc, hf.noLoc, hri.t.noLoc, hri.x.noLoc, hri.x.slen, hin, hin', hii, hkl, hkl', hpos, hk0, hlt, hile, e1, e2, e3, e4, f1, f2, f5, eimpl_GiveBookOk_impl_name, eimpl_GiveBookOk_impl_GiveTubeOk, eimpl_GiveBookOk_impl_from, N, T1, F1, T2, F2, b1, b0, b2, b3, b4', b5, b6, hq, fin hq]
      simp [cimpl_GiveBookOk_L0, h1, h24, h25, h26, hl1, hh.slen, hh.noLoc, hf.noLoc, hri.t.noLoc, hri.x.noLoc, hri.x.slen, hin, hin', hii, hkl, hkl', hpos, hpos2, hnat, hk0, hlt, hile, e1, e2, e3, e4, f1, f2, f5, eimpl_GiveBookOk_impl_name, eimpl_GiveBookOk_impl_GiveTubeOk, eimpl_GiveBookOk_impl_from, N, T1, F1, T2, F2, b1, b0, b2, b3, b4', b5, b6, hcs]
      refine AW_mono (inner _ _ ?_ ?_ ?_ ?_ ?_ ?_ ?_ ?_ ?_ ?_ ?_ ?_) (fun e y k => ?_)
      all_goals first | (simp [h1, h24, h25, h26, hl1, hz, hh.noLoc, hcn, heldOkB, b1, b0, b2, b3, b4, b5, b6]; done) | (simpa using k)
  · rintro ⟨T, ⟨h', lc⟩⟩ hno ⟨h1, h24, h25, h26, hl1, hs'⟩
    simp only at h1 h24 h25 h26 hl1 hs'
    subst hs'
    have : bookOkB b = true := by
      have := allN_of (n := b.held.length) (p := bookStep b) fun j hj => by simpa using hno j (by omega)
      simp [bookOkB, this, a1, a2, show b.held.length ≤ 16 by omega]
    simp [cimpl_GiveBookOk_L0, h25, h26, this]

theorem spec_GiveFree {S S' : Nat → Prop} (h : Heap) (c : BookC) (b : Book) (n : ByteArray) (ct : Ce) (t : List Box) (hr : RdBook S h c b) (hw : BookWf b) (ht : RdF fBox S' h ct t) :
    Fspec_GiveFree [.v (.agg c.ces), .v (.c (.str n)), .v (.c ct)] h = some (.v (.c (.bool (bookOkB b && tubeOkB b.fields t && freeB b n t))), h) := by
  unfold Fspec_GiveFree
  have B := spec_GiveBookOk h c b hr hw
  have T1 := spec_GiveTubeOk h _ _ _ _ hr.f ht
  have F1 := spec_l3Free h c b n ct t hr ht
  have hf := hr.f.noLoc
  simp only [BookC.ces] at B F1
  refine runF_eq ?_
  simp +contextual [cspec_GiveFree, BookC.ces, ht.noLoc, hf, espec_GiveFree_spec_GiveBookOk, espec_GiveFree_spec_GiveTubeOk, espec_GiveFree_spec_l3Free, B, T1, F1, Bool.and_assoc]
theorem impl_GiveFree {S S' : Nat → Prop} (h : Heap) (c : BookC) (b : Book) (n : ByteArray) (ct : Ce) (t : List Box) (hr : RdBook S h c b) (hw : BookWf b) (ht : RdF fBox S' h ct t) :
    Fimpl_GiveFree [.v (.agg c.ces), .v (.c (.str n)), .v (.c ct)] h = some (.v (.c (.bool (bookOkB b && tubeOkB b.fields t && freeB b n t))), h) := by
  unfold Fimpl_GiveFree
  have B := impl_GiveBookOk h c b hr hw
  have T1 := impl_GiveTubeOk h _ _ _ _ hr.f ht
  have F1 := impl_GiveBook_free h c b n ct t hr ht
  have hf := hr.f.noLoc
  simp only [BookC.ces] at B F1
  refine runF_eq ?_
  simp +contextual [cimpl_GiveFree, BookC.ces, ht.noLoc, hf, eimpl_GiveFree_impl_GiveBookOk, eimpl_GiveFree_impl_GiveTubeOk, eimpl_GiveFree_impl_GiveBook_free, B, T1, F1, Bool.and_assoc]
end Go.Abs

/-
  Deep values of one's own: a slice of handles, each with memory of its own.
-/

namespace Go.Abs

/-- How a handle owns what it stands for. -/
structure OkR {α β : Type} (R : Heap → β → α → List Nat → Prop) : Prop where
  frame : ∀ {h h' b a f}, (∀ x, x ∈ f → h'.hp x = h.hp x) → R h b a f → R h' b a f
  lt : ∀ {h b a f}, HOk h → R h b a f → ∀ x, x ∈ f → x < h.nx

def OwnS {α β : Type} (F : Fl β) (R : Heap → β → α → List Nat → Prop) (h : Heap) (c : Ce) (l : List α) (fp : List Nat) : Prop :=
  ∃ (bs : List β) (fps : List (List Nat)) (q : List Nat), OwnF F h c bs q ∧ bs.length = l.length ∧ fps.length = l.length ∧
    (∀ (i : Nat) (b : β) (a : α) (f : List Nat), bs[i]? = some b → l[i]? = some a → fps[i]? = some f → R h b a f) ∧ fp = q ++ fps.flatten ∧ fp.Nodup

section
variable {α β : Type} {F : Fl β} {R : Heap → β → α → List Nat → Prop} {h h' : Heap} {c : Ce} {l : List α} {fp fq : List Nat}
theorem OwnS.nodup (o : OwnS F R h c l fp) : fp.Nodup := by obtain ⟨bs, fps, q, h1, h2, h3, h4, h5, h6⟩ := o; exact h6
theorem OwnS.noLoc (o : OwnS F R h c l fp) : c.noLoc = true := by obtain ⟨bs, fps, q, h1, _⟩ := o; exact h1.noLoc
theorem OwnS.slen (o : OwnS F R h c l fp) : c.slen = some l.length := by obtain ⟨bs, fps, q, h1, h2, _⟩ := o; rw [h1.slen, h2]
theorem OwnS.frame (k : OkR R) (hf : ∀ b, b ∈ fp → h'.hp b = h.hp b) (o : OwnS F R h c l fp) : OwnS F R h' c l fp := by
  obtain ⟨bs, fps, q, h1, h2, h3, h4, rfl, h6⟩ := o
  refine ⟨bs, fps, q, h1.frame fun b hb => hf b (by simp [hb]), h2, h3, fun i b a f hb ha hfp => k.frame (fun x hx => hf x ?_) (h4 i b a f hb ha hfp), rfl, h6⟩
  rw [List.mem_append]
  exact .inr (List.mem_flatten.2 ⟨f, List.mem_of_getElem? hfp, hx⟩)
theorem OwnS.lt (k : OkR R) (o : OwnS F R h c l fp) (ho : HOk h) {b : Nat} (hb : b ∈ fp) : b < h.nx := by
  obtain ⟨bs, fps, q, h1, h2, h3, h4, rfl, h6⟩ := o
  rw [List.mem_append] at hb
  rcases hb with hb | hb
  · exact h1.lt ho hb
  · obtain ⟨f, hf, hx⟩ := List.mem_flatten.1 hb
    obtain ⟨i, hi, rfl⟩ := List.getElem_of_mem hf
    exact k.lt ho (h4 i bs[i] l[i] fps[i] (List.getElem?_eq_getElem (by omega)) (List.getElem?_eq_getElem (by omega)) (List.getElem?_eq_getElem hi)) b hx
theorem OwnS.chg (k : OkR R) (o : OwnS F R h c l fp) (ho : HOk h) (d : Chg fq h h') (hS : ∀ b, b ∈ fp → b ∉ fq) : OwnS F R h' c l fp :=
  o.frame k fun b hb => d.hp b (o.lt k ho hb) (hS b hb)
theorem OwnS.nil : OwnS F R h .nils [] [] := ⟨[], [], [], OwnF.nil, rfl, rfl, by simp, rfl, by simp⟩
/-- One more, its memory above all that was there. -/
theorem OwnS.append1 (k : OkR R) {h0 : Heap} (o : OwnS F R h0 c l fp) (ho0 : HOk h0) (f1 : Fr h0 h) (hlo : h0.nx ≤ h.nx) {b : β} {a : α} {f : List Nat} (hb : R h b a f) (hnd : f.Nodup) (hge : ∀ x, x ∈ f → h0.nx ≤ x) (hn : l.length + 1 ≤ lim) :
    ∃ c' h' fp', OwnS F R h' c' (l ++ [a]) fp' ∧ h.nx ≤ h'.nx ∧ HOk h' ∧ (∀ x, x < h.nx → x ∉ fp → h'.hp x = h.hp x) ∧ (∀ x, x ∈ fp' → x ∈ fp ∨ x ∈ f ∨ h.nx ≤ x) ∧
      ∀ lc t m, lc t = some ⟨F.ces b, F.sz, true⟩ → appendA ⟨h, lc⟩ F.sz c (.sl (.inl t) 0 1 m) = some (c', ⟨h', lc⟩) := by
  have o1 : OwnS F R h c l fp := o.frame k fun b hb => f1.hp b (o.lt k ho0 hb)
  have hlt0 : ∀ x, x ∈ fp → x < h0.nx := fun x hx => o.lt k ho0 hx
  obtain ⟨bs, fps, q, h1, h2, h3, h4, rfl, h6⟩ := o1
  obtain ⟨c', h', q', g1, g2, g3, g4, g5, g6⟩ := h1.append1 f1.ok b (by omega)
  have hfl := k.lt f1.ok hb
  have hndq := List.nodup_append.1 h6
  refine ⟨c', h', q' ++ (fps ++ [f]).flatten, ⟨bs ++ [b], fps ++ [f], q', g1, by simp [h2], by simp [h3], ?_, rfl, ?_⟩, g2, g3, ?_, ?_, g6⟩
  · intro i b' a' f' hb' ha' hf'
    by_cases hi : i < l.length
    · rw [List.getElem?_append_left (by omega)] at hb' hf'
      rw [List.getElem?_append_left hi] at ha'
      refine k.frame (fun x hx => ?_) (h4 i b' a' f' hb' ha' hf')
      have hxm : x ∈ fps.flatten := List.mem_flatten.2 ⟨f', List.mem_of_getElem? hf', hx⟩
      refine g4 x (Nat.lt_of_lt_of_le (hlt0 x (by simp [hxm])) hlo) fun hq => ?_
      exact (hndq.2.2 x hq x hxm) rfl
    · have hil : i = l.length := by
        have := (List.getElem?_eq_some_iff.1 ha').1
        simp at this
        omega
      subst hil
      rw [List.getElem?_append_right (by omega), h2] at hb'
      rw [List.getElem?_append_right (by omega), h3] at hf'
      rw [List.getElem?_append_right (by omega)] at ha'
      simp at hb' ha' hf'
      subst hb' ha' hf'
      refine k.frame (fun x hx => g4 x (hfl x hx) fun hq => ?_) hb
      have := hlt0 x (by simp [hq])
      have := hge x hx
      omega
  · rw [List.nodup_append]
    refine ⟨g1.nodup, ?_, ?_⟩
    · rw [List.flatten_append, List.nodup_append]
      refine ⟨hndq.2.1, by simpa using hnd, ?_⟩
      intro x hx y hy
      simp at hy
      have h7 := hlt0 x (by rw [List.mem_append]; exact .inr hx)
      have h8 := hge y hy
      omega
    · intro x hx y hy
      have h7 := (g5 x hx).2
      rw [List.flatten_append, List.mem_append] at hy
      rcases hy with hy | hy
      · have := hlt0 y (by rw [List.mem_append]; exact .inr hy)
        omega
      · simp at hy
        have := hfl y hy
        omega
  · intro x hx hn'
    exact g4 x hx fun hq => hn' (by simp [hq])
  · intro x hx
    rw [List.mem_append] at hx
    rcases hx with hx | hx
    · exact .inr (.inr (g5 x hx).2)
    · rw [List.flatten_append, List.mem_append] at hx
      rcases hx with hx | hx
      · exact .inl (by rw [List.mem_append]; exact .inr hx)
      · simp at hx; exact .inr (.inl hx)
end

def OwnHeld (h : Heap) (c : HeldC) (a : Held) (f : List Nat) : Prop := c.name = a.name ∧ ∃ f1 f2, OwnF fBox h c.t a.tube f1 ∧ OwnF fBox h c.x a.next f2 ∧ f = f1 ++ f2
theorem okHeld : OkR OwnHeld := by
  refine ⟨?_, ?_⟩
  · rintro h h' b a f hf ⟨h1, f1, f2, h2, h3, rfl⟩
    exact ⟨h1, f1, f2, h2.frame fun x hx => hf x (by simp [hx]), h3.frame fun x hx => hf x (by simp [hx]), rfl⟩
  · rintro h b a f ho ⟨h1, f1, f2, h2, h3, rfl⟩ x hx
    rw [List.mem_append] at hx
    rcases hx with hx | hx
    · exact h2.lt ho hx
    · exact h3.lt ho hx
abbrev OwnHeldS := OwnS fHeld OwnHeld
abbrev OwnWay : Heap → Ce → List Cell → List Nat → Prop := fun h c a f => OwnF fCell h c a f
theorem okWay : OkR OwnWay := ⟨fun hf o => OwnF.frame hf o, fun ho o _ hx => OwnF.lt o ho hx⟩
abbrev OwnWayS := OwnS fCe OwnWay

structure OwnBook (h : Heap) (c : BookC) (b : Book) (fp : List Nat) : Prop where
  now : c.now = b.now
  ex : ∃ f1 f2, OwnF fField h c.f b.fields f1 ∧ OwnHeldS h c.hd b.held f2 ∧ fp = f1 ++ f2 ∧ fp.Nodup
structure OwnWish (h : Heap) (c : WishC) (w : Wish) (fp : List Nat) : Prop where
  name : c.name = w.name
  quick : c.quick = w.quick
  slow : c.slow = w.slow
  from_ : c.from_ = w.from_
  by_ : c.by_ = w.by_
  late : c.late = w.late
  ex : ∃ f1 f2, OwnWayS h c.w w.ways f1 ∧ OwnF fInt h c.l w.levels f2 ∧ fp = f1 ++ f2 ∧ fp.Nodup

structure SmallBook (b : Book) : Prop where
  f : b.fields.length ≤ 1048576
  h : b.held.length ≤ 1048576
  t : ∀ a, a ∈ b.held → a.tube.length ≤ 1048576 ∧ a.next.length ≤ 1048576
structure SmallWish (w : Wish) : Prop where
  ws : w.ways.length ≤ 1048576
  c : ∀ a, a ∈ w.ways → a.length ≤ 1048576
  l : w.levels.length ≤ 1048576

section
variable {h h' : Heap} {fp fq : List Nat} {S : Nat → Prop}
theorem OwnBook.frame {c : BookC} {b : Book} (hf : ∀ b, b ∈ fp → h'.hp b = h.hp b) (o : OwnBook h c b fp) : OwnBook h' c b fp := by
  obtain ⟨h1, f1, f2, h2, h3, rfl, h4⟩ := o
  exact ⟨h1, f1, f2, h2.frame fun x hx => hf x (by simp [hx]), h3.frame okHeld fun x hx => hf x (by simp [hx]), rfl, h4⟩
theorem OwnBook.lt {c : BookC} {b : Book} (o : OwnBook h c b fp) (ho : HOk h) {x : Nat} (hx : x ∈ fp) : x < h.nx := by
  obtain ⟨h1, f1, f2, h2, h3, rfl, h4⟩ := o
  rw [List.mem_append] at hx
  rcases hx with hx | hx
  · exact h2.lt ho hx
  · exact h3.lt okHeld ho hx
theorem OwnBook.chg {c : BookC} {b : Book} (o : OwnBook h c b fp) (ho : HOk h) (d : Chg fq h h') (hS : ∀ b, b ∈ fp → b ∉ fq) : OwnBook h' c b fp := o.frame fun b hb => d.hp b (o.lt ho hb) (hS b hb)
theorem OwnHeldS.rd {c : Ce} {l : List Held} (o : OwnHeldS h c l fp) (hn : l.length ≤ 1048576) (ht : ∀ a, a ∈ l → a.tube.length ≤ 1048576 ∧ a.next.length ≤ 1048576) (hS : ∀ b, b ∈ fp → S b) :
    ∃ hs : List HeldC, RdF fHeld S h c hs ∧ hs.length = l.length ∧ ∀ i (hi : i < hs.length) (hi' : i < l.length), RdHeld S h hs[i] l[i] := by
  obtain ⟨bs, fps, q, h1, h2, h3, h4, rfl, h6⟩ := o
  refine ⟨bs, h1.rd (by omega) fun b hb => hS b (by simp [hb]), h2, fun i hi hi' => ?_⟩
  obtain ⟨k1, f1, f2, k2, k3, k4⟩ := h4 i bs[i] l[i] fps[i] (List.getElem?_eq_getElem hi) (List.getElem?_eq_getElem hi') (List.getElem?_eq_getElem (by omega))
  have hm : ∀ x, x ∈ f1 ++ f2 → S x := fun x hx => hS x (by
    rw [List.mem_append]
    refine .inr (List.mem_flatten.2 ⟨fps[i]'(by omega), List.getElem_mem _, by rw [k4]; exact hx⟩)
    )
  obtain ⟨t1, t2⟩ := ht _ (List.getElem_mem hi')
  exact ⟨k1, k2.rd (by omega) fun b hb => hm b (by simp [hb]), k3.rd (by omega) fun b hb => hm b (by simp [hb])⟩
theorem OwnBook.rd {c : BookC} {b : Book} (o : OwnBook h c b fp) (sm : SmallBook b) (hS : ∀ b, b ∈ fp → S b) : RdBook S h c b := by
  obtain ⟨h1, f1, f2, h2, h3, rfl, h4⟩ := o
  exact ⟨h1, h2.rd (by have := sm.f; omega) fun b hb => hS b (by simp [hb]), OwnHeldS.rd h3 sm.h sm.t fun b hb => hS b (by simp [hb])⟩
theorem OwnWish.frame {c : WishC} {b : Wish} (hf : ∀ b, b ∈ fp → h'.hp b = h.hp b) (o : OwnWish h c b fp) : OwnWish h' c b fp := by
  obtain ⟨h1, a1, a2, a3, a4, a5, f1, f2, h2, h3, rfl, h4⟩ := o
  exact ⟨h1, a1, a2, a3, a4, a5, f1, f2, h2.frame okWay fun x hx => hf x (by simp [hx]), h3.frame fun x hx => hf x (by simp [hx]), rfl, h4⟩
theorem OwnWish.lt {c : WishC} {b : Wish} (o : OwnWish h c b fp) (ho : HOk h) {x : Nat} (hx : x ∈ fp) : x < h.nx := by
  obtain ⟨h1, a1, a2, a3, a4, a5, f1, f2, h2, h3, rfl, h4⟩ := o
  rw [List.mem_append] at hx
  rcases hx with hx | hx
  · exact h2.lt okWay ho hx
  · exact h3.lt ho hx
theorem OwnWish.chg {c : WishC} {b : Wish} (o : OwnWish h c b fp) (ho : HOk h) (d : Chg fq h h') (hS : ∀ b, b ∈ fp → b ∉ fq) : OwnWish h' c b fp := o.frame fun b hb => d.hp b (o.lt ho hb) (hS b hb)
theorem OwnWish.rd {c : WishC} {b : Wish} (o : OwnWish h c b fp) (sm : SmallWish b) (hS : ∀ b, b ∈ fp → S b) : RdWish S h c b := by
  obtain ⟨h1, a1, a2, a3, a4, a5, f1, f2, ⟨bs, fps, q, k1, k2, k3, k4, rfl, k6⟩, h3, rfl, h4⟩ := o
  refine ⟨h1, a1, a2, a3, a4, a5, ⟨bs, k1.rd (by have := sm.ws; omega) fun b hb => hS b (by simp [hb]), k2, fun i hi hi' => ?_⟩, h3.rd (by have := sm.l; omega) fun b hb => hS b (by simp [hb])⟩
  refine OwnF.rd (k4 i bs[i] b.ways[i] (fps[i]'(by omega)) (List.getElem?_eq_getElem hi) (List.getElem?_eq_getElem hi') (List.getElem?_eq_getElem (by omega))) (by have := sm.c _ (List.getElem_mem hi'); omega) fun x hx => hS x ?_
  rw [List.mem_append, List.mem_append]
  exact .inl (.inr (List.mem_flatten.2 ⟨_, List.getElem_mem _, hx⟩))
end

/-- A value made since h. -/
structure New (O : Heap → List Nat → Prop) (h h' : Heap) (fp : List Nat) : Prop where
  own : O h' fp
  fr : Fr h h'
  ge : ∀ b, b ∈ fp → h.nx ≤ b

end Go.Abs

/-
  Books: what the law's helpers compute (sizes, copies, comparisons).
-/

namespace Go.Abs
set_option linter.unusedSimpArgs false
set_option linter.unusedVariables false
attribute [local simp] AW_skip AW_exit AW_ret AW_seq AW_block AW_cond CW_ite AW_reg AW_regD RW_nil RW_cons RW_guard GW_t GW_f GW_gt GW_gf GW_tup GY_some GY_tt GY_ff gd_t gd_f pk_t pk_f pk_and pk_or pk_andc pk_orc pk_bool gd_gd SW_some ThenQ_normal ThenQ_exit ThenQ_ret BlockQ_normal BlockQ_exit BlockQ_ret kill_nil kill_cons killT_at killL_at upo_some upo_none ev_t ev_k FinQ_ret FinQ_normal upd_eq upd_ne argsT_zero argsT_succ aop.eq_1 aop_pick aop.eq_3 aop.eq_4 aop.eq_5 aop.eq_6 aop.eq_7 aop.eq_8 aop.eq_9 aop.eq_10 aop.eq_11 aop.eq_12 aop.eq_13 aop.eq_14 aop.eq_15 aop.eq_16 aop.eq_17 aop.eq_18 aop.eq_19 aop.eq_20 aop.eq_21 aop_slice_hi aop_slice_lo aop.eq_23 aop.eq_24 aop.eq_26 aop.eq_27 aop.eq_28 aop.eq_29 aop.eq_31 aop.eq_32 aop_maxs2 aop_mins2 aop_mins3 aop_len aop_iaddr Av.bool? Av.ptr? Av.int? Av.int64? Av.str? Av.agg? ressA resA resOf noLoc_int noLoc_bool noLoc_str noLoc_nils noLoc_nilp noLoc_ptrl noLoc_ptrr noLoc_sll noLoc_slr noLoc_fn noLoc_tc noLoc_tagg noLoc_av noLoc_atup ce_c tv_v cells_c cells_agg noLocs keyLoc evs callA St.set St.get unAv binCe killV_int killV_bool killV_str killV_nils killV_nilp killV_agg killV_no killV_tup killV_ptrl killV_ptrr killV_sll killV_slr killV_fn killV_noLoc fillA repl
attribute [local congr] GY_congr
theorem laws_szGiveHeld {S : Nat → Prop} (h : Heap) (c : HeldC) (a : Held) (k : Int) (hr : RdHeld S h c a) (hs : SzS a.name) (hk : 0 ≤ k ∧ k ≤ 1048576) :
    ∃ r, Flaws_szGiveHeld [.v (.agg [.str c.name, c.t, c.x]), .v (.c (.int .i64 k))] h = some (.v (.c (.int .i64 r)), h) ∧ Left k r ∧ (0 ≤ r → a.tube.length ≤ 1048576 ∧ a.next.length ≤ 1048576) := by
  unfold Flaws_szGiveHeld
  have e := sub_left (n := a.name.size) hk hs
  have hn := hr.name
  by_cases hb : k < a.name.size
  · have e1 : k - (a.name.size : Int) < 0 := by omega
    refine ⟨-1, runF_eq ?_, .inl rfl, by omega⟩
    simp [claws_szGiveHeld, hn, e, e1]
  have e1 : ¬ k - (a.name.size : Int) < 0 := by omega
  have s1 := laws_szGiveBoxS h c.t a.tube (k - a.name.size) hr.t (by omega)
  by_cases hb1 : k - a.name.size < a.tube.length
  · rw [if_pos hb1] at s1
    refine ⟨-1, runF_eq ?_, .inl rfl, by omega⟩
    simp [claws_szGiveHeld, hn, e, e1, hr.t.noLoc, elaws_szGiveHeld_laws_szGiveBoxS, s1]
  rw [if_neg hb1] at s1
  have e2 : ¬ k - (a.name.size : Int) - a.tube.length < 0 := by omega
  have s2 := laws_szGiveBoxS h c.x a.next (k - a.name.size - a.tube.length) hr.x (by omega)
  by_cases hb2 : k - a.name.size - a.tube.length < a.next.length
  · rw [if_pos hb2] at s2
    refine ⟨-1, runF_eq ?_, .inl rfl, by omega⟩
    simp [claws_szGiveHeld, hn, e, e1, e2, hr.t.noLoc, hr.x.noLoc, elaws_szGiveHeld_laws_szGiveBoxS, s1, s2]
  rw [if_neg hb2] at s2
  have e3 : ¬ k - (a.name.size : Int) - a.tube.length - a.next.length < 0 := by omega
  refine ⟨k - a.name.size - a.tube.length - a.next.length, runF_eq ?_, .inr (by omega), fun _ => by omega⟩
  simp [claws_szGiveHeld, hn, e, e1, e2, e3, hr.t.noLoc, hr.x.noLoc, elaws_szGiveHeld_laws_szGiveBoxS, s1, s2]

theorem laws_szGiveHeldS {S : Nat → Prop} (h : Heap) (c : Ce) (l : List Held) (hs : List HeldC) (k : Int) (hc : RdF fHeld S h c hs) (hlen : hs.length = l.length) (hel : ∀ i (hi : i < hs.length) (hi' : i < l.length), RdHeld S h hs[i] l[i]) (hw : HeldWf l) (hk : 0 ≤ k ∧ k ≤ 1048576) :
    ∃ r, Flaws_szGiveHeldS [.v (.c c), .v (.c (.int .i64 k))] h = some (.v (.c (.int .i64 r)), h) ∧ Left k r ∧ (0 ≤ r → l.length ≤ 1048576 ∧ ∀ a, a ∈ l → a.tube.length ≤ 1048576 ∧ a.next.length ≤ 1048576) := by
  unfold Flaws_szGiveHeldS
  have hl := hc.le
  have e := sub_left (n := hs.length) hk hl
  obtain ⟨v, h', h1, r, rfl, rfl, h2⟩ := runF_of (env := elaws_szGiveHeldS) (code := claws_szGiveHeldS) (rs := [.t 4]) (args := [.v (.c c), .v (.c (.int .i64 k))]) (h := h) (K := fun v h' => ∃ r, v = .v (.c (.int .i64 r)) ∧ h' = h ∧ Left k r ∧ (0 ≤ r → l.length ≤ 1048576 ∧ ∀ a, a ∈ l → a.tube.length ≤ 1048576 ∧ a.next.length ≤ 1048576)) (by
    by_cases hb : k < hs.length
    · have e1 : k - (hs.length : Int) < 0 := by omega
      simp [claws_szGiveHeldS, hc.slen, e, e1]
      exact .inl rfl
    · have e1 : ¬ k - (hs.length : Int) < 0 := by omega
      simp [claws_szGiveHeldS, hc.slen, hc.noLoc, e, e1]
      refine AW_loop (fun i x => i ≤ hs.length ∧ x.1 0 = .v (.c c) ∧ x.1 5 = .v (.c (.int .i64 i)) ∧ x.2 = ⟨h, nol⟩ ∧ (∀ j (hj : j < l.length), j < i → l[j].tube.length ≤ 1048576 ∧ l[j].next.length ≤ 1048576) ∧ ∃ r, x.1 1 = .v (.c (.int .i64 r)) ∧ 0 ≤ r ∧ r ≤ k) hs.length (by simp; omega) ?_
      rintro i ⟨T, s⟩ hi ⟨_, h0, h5, rfl, hsm, r, h1, hr⟩
      simp only at h0 h1 h5
      by_cases hin : i < hs.length
      · obtain ⟨eb, ep, er, e1, _, e2, e3, e4, e5, e6, e7⟩ := hc.heldc hin
        have hin' : i < l.length := by omega
        have hw1 := wrap1 (i := i) (by omega)
        obtain ⟨r', A1, A2, A3⟩ := laws_szGiveHeld h hs[i] l[i] r (hel i hin hin') (hw _ (List.getElem_mem hin')) (by omega)
        rcases A2 with rfl | A2
        · simp [claws_szGiveHeldS_L0, h0, h1, h5, hc.slen, hin, e1, e2, e3, e4, elaws_szGiveHeldS_laws_szGiveHeld, A1, hw1]
          exact .inl rfl
        · have A4 : ¬ r' < 0 := by omega
          simp [claws_szGiveHeldS_L0, h0, h1, h5, hc.slen, hin, e1, e2, e3, e4, elaws_szGiveHeldS_laws_szGiveHeld, A1, A4, hw1]
          refine ⟨hin, fun j hj hji => ?_, by omega, by omega⟩
          by_cases hje : j = i
          · subst hje; exact A3 A2.1
          · exact hsm j hj (by omega)
      · have hie : i = hs.length := by omega
        subst hie
        simp [claws_szGiveHeldS_L0, h0, h1, h5, hc.slen]
        refine ⟨.inr hr, fun _ => ⟨by omega, fun a ha => ?_⟩⟩
        obtain ⟨j, hj, rfl⟩ := List.getElem_of_mem ha
        exact hsm j hj (by omega))
  exact ⟨r, h1, h2⟩

theorem laws_szGiveBook {S : Nat → Prop} (h : Heap) (c : BookC) (b : Book) (k : Int) (hr : RdBook S h c b) (hw : BookWf b) (hk : 0 ≤ k ∧ k ≤ 1048576) :
    ∃ r, Flaws_szGiveBook [.v (.agg c.ces), .v (.c (.int .i64 k))] h = some (.v (.c (.int .i64 r)), h) ∧ Left k r ∧ (0 ≤ r → SmallBook b) := by
  unfold Flaws_szGiveBook
  obtain ⟨hnow, hf, hs, hh, hlen, hel⟩ := hr
  obtain ⟨r1, s1, l1, m1⟩ := laws_szGiveFieldS h c.f b.fields k hf hw.f hk
  rcases l1 with rfl | l1
  · refine ⟨-1, runF_eq ?_, .inl rfl, by omega⟩
    simp [claws_szGiveBook, BookC.ces, hf.noLoc, elaws_szGiveBook_laws_szGiveFieldS, s1]
  have n1 : ¬ r1 < 0 := by omega
  obtain ⟨r2, s2, l2, m2⟩ := laws_szGiveHeldS h c.hd b.held hs r1 hh hlen hel hw.h (by omega)
  rcases l2 with rfl | l2
  · refine ⟨-1, runF_eq ?_, .inl rfl, by omega⟩
    simp [claws_szGiveBook, BookC.ces, hf.noLoc, hh.noLoc, elaws_szGiveBook_laws_szGiveFieldS, elaws_szGiveBook_laws_szGiveHeldS, s1, n1, s2]
  have n2 : ¬ r2 < 0 := by omega
  refine ⟨r2, runF_eq ?_, .inr (by omega), fun q => ⟨m1 (by omega), (m2 q).1, (m2 q).2⟩⟩
  simp [claws_szGiveBook, BookC.ces, hf.noLoc, hh.noLoc, elaws_szGiveBook_laws_szGiveFieldS, elaws_szGiveBook_laws_szGiveHeldS, s1, n1, s2, n2]

theorem laws_toGiveHeld {S : Nat → Prop} (h : Heap) (c : HeldC) (a : Held) (ho : HOk h) (hr : RdHeld S h c a) (ht : a.tube.length ≤ 1048576 ∧ a.next.length ≤ 1048576) :
    ∃ c' h' f, Flaws_toGiveHeld [.v (.agg [.str c.name, c.t, c.x])] h = some (.v (.agg [.str a.name, HeldC.t c', HeldC.x c']), h') ∧ OwnHeld h' c' a f ∧ c'.name = a.name ∧ f.Nodup ∧ Fr h h' ∧ ∀ x, x ∈ f → h.nx ≤ x := by
  unfold Flaws_toGiveHeld
  obtain ⟨c1, h1, f1, t1, m1⟩ := toBoxes' h c.t a.tube ho hr.t ht.1
  obtain ⟨c2, h2, f2, t2, m2⟩ := toBoxes' h1 c.x a.next m1.fr.ok (hr.x.keep ho m1.fr) ht.2
  have hn := hr.name
  have o1 := m1.own.chg m1.fr.ok m2.fr.chg (fp := []) (by simp)
  refine ⟨⟨a.name, c1, c2⟩, h2, f1 ++ f2, runF_eq ?_, ⟨rfl, f1, f2, o1, m2.own, rfl⟩, rfl, ?_, m1.fr.trans m2.fr, fun x hx => ?_⟩
  · simp [claws_toGiveHeld, hn, hr.t.noLoc, hr.x.noLoc, m1.own.noLoc, m2.own.noLoc, elaws_toGiveHeld_laws_toGiveBoxS, t1, t2]
  · rw [List.nodup_append]
    refine ⟨m1.own.nodup, m2.own.nodup, fun x hx y hy => ?_⟩
    have q1 := m1.own.lt m1.fr.ok hx
    have q2 := m2.ge y hy
    omega
  · rw [List.mem_append] at hx
    rcases hx with hx | hx
    · exact m1.ge x hx
    · have q1 := m2.ge x hx
      have q2 := m1.fr.nx
      omega

def zHeld : HeldC := ⟨⟨#[]⟩, .nils, .nils⟩
theorem laws_toGiveHeldS {S : Nat → Prop} (h : Heap) (c : Ce) (l : List Held) (hs : List HeldC) (ho : HOk h) (hc : RdF fHeld S h c hs) (hlen : hs.length = l.length) (hel : ∀ i (hi : i < hs.length) (hi' : i < l.length), RdHeld S h hs[i] l[i]) (hl : l.length ≤ 1048576) (ht : ∀ a, a ∈ l → a.tube.length ≤ 1048576 ∧ a.next.length ≤ 1048576) :
    ∃ c' h' fp, Flaws_toGiveHeldS [.v (.c c)] h = some (.v (.c c'), h') ∧ OwnHeldS h' c' l fp ∧ Fr h h' ∧ ∀ x, x ∈ fp → h.nx ≤ x := by
  unfold Flaws_toGiveHeldS
  have hz : (List.replicate hs.length [.str ⟨#[]⟩, .nils, .nils]).flatten = fHeld.all (List.replicate hs.length zHeld) := fHeld.all_repl _ zHeld
  have f0 := Fr.push ho ⟨fHeld.all (List.replicate hs.length zHeld), 3, true⟩
  obtain ⟨v, h', h1, c', fp, rfl, h2⟩ := runF_of (env := elaws_toGiveHeldS) (code := claws_toGiveHeldS) (rs := [.t 2]) (args := [.v (.c c)]) (h := h) (K := fun v h' => ∃ c' fp, v = .v (.c c') ∧ OwnHeldS h' c' l fp ∧ Fr h h' ∧ ∀ x, x ∈ fp → h.nx ≤ x) (by
    simp [claws_toGiveHeldS, hc.slen, hc.noLoc, lim, show (hs.length : Int) ≤ 4294967296 by omega, hz]
    refine AW_each hs.length (fun i x => x.1 0 = .v (.c c) ∧ x.1 3 = .v (.c (.sl (.inr h.nx) 0 hs.length .own)) ∧ x.1 4 = .v (.c (.int .i64 i)) ∧ Fr h x.2.h ∧ h.nx < x.2.h.nx ∧ ∃ (bs : List HeldC) (fps : List (List Nat)), bs.length = i ∧ fps.length = i ∧ x.2.h.hp h.nx = some ⟨fHeld.all (bs ++ List.replicate (hs.length - i) zHeld), 3, true⟩ ∧ (∀ (j : Nat) (b : HeldC) (a : Held) (f : List Nat), bs[j]? = some b → l[j]? = some a → fps[j]? = some f → OwnHeld x.2.h b a f) ∧ fps.flatten.Nodup ∧ ∀ y, y ∈ fps.flatten → h.nx < y) ?_ ?_ ?_
    · simp [St.push, f0, push_nx]
      exact push_at _ _
    · rintro i ⟨T, ⟨h', lc⟩⟩ hin ⟨h0, h3, h4, fr, hnx, bs, fps, q1, q2, q3, q4, q5, q6⟩
      simp only at h0 h3 h4 fr hnx q3 q4
      have hin' : i < l.length := by omega
      have hc' := hc.keep ho fr
      obtain ⟨eb, ep, er, e1, _, e2, e3, e4, e5, e6, e7⟩ := hc'.heldc hin
      have hr := (hel i hin hin').keep ho fr
      obtain ⟨cc, h'', f, t1, o1, nm, nd, fr2, ge⟩ := laws_toGiveHeld h' hs[i] l[i] fr.ok hr (ht _ (List.getElem_mem hin'))
      have hw := wrap1 (i := i) (by omega)
      have he2 : (Ce.sl (Sum.inr h.nx) 0 hs.length .own).eltAt 3 i = some (.inr h.nx, i * 3) := by simp [Ce.eltAt, hin]
      have q3' : h''.hp h.nx = some ⟨fHeld.all (bs ++ List.replicate (hs.length - i) zHeld), 3, true⟩ := by rw [fr2.hp _ hnx]; exact q3
      have hlen2 : (fHeld.all (bs ++ List.replicate (hs.length - i) zHeld)).length = hs.length * 3 := by rw [fHeld.all_length]; simp [fHeld]; omega
      have hfit : i * 3 + 3 ≤ hs.length * 3 := by omega
      have hput := fHeld.all_put (bs ++ List.replicate (hs.length - i) zHeld) (i := i) (by simp; omega) cc
      have hset : (bs ++ List.replicate (hs.length - i) zHeld).set i cc = (bs ++ [cc]) ++ List.replicate (hs.length - (i + 1)) zHeld := by
        rw [List.set_append_right _ _ (by omega), q1, Nat.sub_self, show hs.length - i = (hs.length - (i + 1)) + 1 by omega, List.replicate_succ, List.append_assoc]
        rfl
      rw [hset] at hput
      have hces : fHeld.ces cc = [.str l[i].name, cc.t, cc.x] := by simp [fHeld, nm]
      rw [hces] at hput
      simp only [show fHeld.sz = 3 from rfl] at hput
      simp at hput
      have hnx2 := fr2.nx
      simp [claws_toGiveHeldS_L0, h0, h3, h4, hc.slen, hin, e1, e2, e3, e4, elaws_toGiveHeldS_laws_toGiveHeld, t1, he2, q3', hlen2, hfit, hw, hput]
      have fr3 := fr.trans fr2
      have c1 := Chg.one fr2.ok (show h.nx < h''.nx by omega) (some ⟨fHeld.all (bs ++ cc :: List.replicate (hs.length - (i + 1)) zHeld), 3, true⟩)
      refine ⟨⟨Nat.le_trans fr3.nx c1.nx, fun x hx => ?_, c1.ok⟩, by omega, bs ++ [cc], by simp [q1], fps ++ [f], by simp [q2], by simp [upd], ?_, ?_, ?_⟩
      · rw [c1.hp x (Nat.lt_of_lt_of_le hx fr3.nx) (by simp; omega)]
        exact fr3.hp x hx
      · intro j b a f' hb ha hf
        by_cases hj : j < i
        · rw [List.getElem?_append_left (by omega)] at hb hf
          have old := q4 j b a f' hb ha hf
          refine okHeld.frame (fun x hx => ?_) old
          have hxm : x ∈ fps.flatten := List.mem_flatten.2 ⟨f', List.mem_of_getElem? hf, hx⟩
          have hx1 := okHeld.lt fr.ok old x hx
          have hx2 := q6 x hxm
          show upd h''.hp h.nx _ x = h'.hp x
          simp only [upd]
          rw [if_neg (by omega)]
          exact fr2.hp x hx1
        · have hjl := (List.getElem?_eq_some_iff.1 hb).1
          simp [q1] at hjl
          have hji : j = i := by omega
          subst hji
          rw [List.getElem?_append_right (by omega), q1, Nat.sub_self] at hb
          rw [List.getElem?_append_right (by omega), q2, Nat.sub_self] at hf
          rw [List.getElem?_eq_getElem hin'] at ha
          simp at hb ha hf
          subst hb ha hf
          refine okHeld.frame (fun x hx => ?_) o1
          have := ge x hx
          show upd h''.hp h.nx _ x = h''.hp x
          simp only [upd]
          rw [if_neg (by omega)]
      · rw [List.flatten_append, List.nodup_append]
        refine ⟨q5, by simpa using nd, fun x hx y hy => ?_⟩
        simp at hy
        have := ge y hy
        obtain ⟨f', hf', hxf⟩ := List.mem_flatten.1 hx
        obtain ⟨j, hj, rfl⟩ := List.getElem_of_mem hf'
        have := okHeld.lt fr.ok (q4 j (bs[j]'(by omega)) (l[j]'(by omega)) fps[j] (List.getElem?_eq_getElem _) (List.getElem?_eq_getElem _) (List.getElem?_eq_getElem hj)) x hxf
        omega
      · intro y g hg hy
        rw [List.mem_append] at hg
        rcases hg with hg | hg
        · exact q6 y (List.mem_flatten.2 ⟨g, hg, hy⟩)
        · simp at hg
          subst hg
          have := ge y hy
          omega
    · rintro ⟨T, ⟨h', lc⟩⟩ ⟨h0, h3, h4, fr, hnx, bs, fps, q1, q2, q3, q4, q5, q6⟩
      simp only at h0 h3 h4 fr hnx q3 q4
      simp at q3
      simp [claws_toGiveHeldS_L0, h0, h3, h4, hc.slen]
      refine ⟨h.nx :: fps.flatten, ⟨bs, fps, [h.nx], .inr ⟨h.nx, by rw [q1], q3, rfl⟩, by omega, by omega, q4, rfl, ?_⟩, fr, fun x hx => ?_⟩
      · rw [List.nodup_cons]
        exact ⟨fun hm => by have := q6 _ hm; omega, q5⟩
      · simp only [List.mem_cons] at hx
        rcases hx with rfl | hx
        · exact Nat.le_refl _
        · exact Nat.le_of_lt (q6 x hx))
  exact ⟨c', h', fp, h1, h2⟩
theorem toBook' {S : Nat → Prop} (h : Heap) (c : BookC) (b : Book) (ho : HOk h) (hr : RdBook S h c b) (sm : SmallBook b) :
    ∃ (c' : BookC) (h' : Heap) (fp : List Nat), Flaws_toGiveBook [.v (.agg c.ces)] h = some (.v (.agg c'.ces), h') ∧ New (fun h fp => OwnBook h c' b fp) h h' fp := by
  unfold Flaws_toGiveBook
  obtain ⟨hnow, hf, hs, hh, hlen, hel⟩ := hr
  obtain ⟨c1, h1, f1, t1, m1⟩ := toFields' h c.f b.fields ho hf sm.f
  obtain ⟨c2, h2, f2, t2, o2, fr2, ge2⟩ := laws_toGiveHeldS h1 c.hd b.held hs m1.fr.ok (hh.keep ho m1.fr) hlen (fun i hi hi' => (hel i hi hi').keep ho m1.fr) sm.h sm.t
  have o1 := m1.own.chg m1.fr.ok fr2.chg (fp := []) (by simp)
  refine ⟨⟨b.now, c1, c2⟩, h2, f1 ++ f2, runF_eq ?_, ⟨⟨rfl, f1, f2, o1, o2, rfl, ?_⟩, m1.fr.trans fr2, fun x hx => ?_⟩⟩
  · simp [claws_toGiveBook, BookC.ces, hnow, hf.noLoc, hh.noLoc, m1.own.noLoc, o2.noLoc, elaws_toGiveBook_laws_toGiveFieldS, elaws_toGiveBook_laws_toGiveHeldS, t1, t2]
  · rw [List.nodup_append]
    refine ⟨m1.own.nodup, o2.nodup, fun x hx y hy => ?_⟩
    have q1 := m1.own.lt m1.fr.ok hx
    have q2 := ge2 y hy
    omega
  · rw [List.mem_append] at hx
    rcases hx with hx | hx
    · exact m1.ge x hx
    · have q1 := ge2 x hx
      have q2 := m1.fr.nx
      omega
theorem laws_eqGiveHeld {S S' : Nat → Prop} (h : Heap) (c c' : HeldC) (a a' : Held) (hr : RdHeld S h c a) (hr' : RdHeld S' h c' a') :
    ∃ r, Flaws_eqGiveHeld [.v (.agg [.str c.name, c.t, c.x]), .v (.agg [.str c'.name, c'.t, c'.x])] h = some (.v (.c (.bool r)), h) ∧ (r = true ↔ a = a') := by
  unfold Flaws_eqGiveHeld
  have hn := hr.name
  have hn' := hr'.name
  obtain ⟨r1, e1, i1⟩ := laws_eqGiveBoxS h c.t c'.t _ _ hr.t hr'.t
  obtain ⟨r2, e2, i2⟩ := laws_eqGiveBoxS h c.x c'.x _ _ hr.x hr'.x
  have hiff : (decide (a.name = a'.name) && (r1 && r2)) = true ↔ a = a' := by
    cases a; cases a'
    simp [i1, i2]
  refine ⟨_, runF_eq ?_, hiff⟩
  by_cases hb : a.name = a'.name <;> cases r1 <;> cases r2 <;> simp [claws_eqGiveHeld, hn, hn', hr.t.noLoc, hr'.t.noLoc, hr.x.noLoc, hr'.x.noLoc, elaws_eqGiveHeld_laws_eqGiveBoxS, e1, e2, bytes_beq, hb]

theorem laws_eqGiveHeldS {S S' : Nat → Prop} (h : Heap) (c c' : Ce) (l l' : List Held) (hs hs' : List HeldC) (hc : RdF fHeld S h c hs) (hlen : hs.length = l.length) (hel : ∀ i (hi : i < hs.length) (hi' : i < l.length), RdHeld S h hs[i] l[i])
    (hc' : RdF fHeld S' h c' hs') (hlen' : hs'.length = l'.length) (hel' : ∀ i (hi : i < hs'.length) (hi' : i < l'.length), RdHeld S' h hs'[i] l'[i]) :
    ∃ r, Flaws_eqGiveHeldS [.v (.c c), .v (.c c')] h = some (.v (.c (.bool r)), h) ∧ (r = true ↔ l = l') := by
  unfold Flaws_eqGiveHeldS
  have hl := hc.le
  obtain ⟨v, h', h1, r, rfl, rfl, h2⟩ := runF_of (env := elaws_eqGiveHeldS) (code := claws_eqGiveHeldS) (rs := [.t 4]) (args := [.v (.c c), .v (.c c')]) (h := h) (K := fun v h' => ∃ r, v = .v (.c (.bool r)) ∧ h' = h ∧ (r = true ↔ l = l')) (by
    by_cases hll : hs.length = hs'.length
    · simp [claws_eqGiveHeldS, hc.slen, hc'.slen, hc.noLoc, hll]
      refine AW_loop (fun i x => i ≤ hs.length ∧ x.1 0 = .v (.c c) ∧ x.1 1 = .v (.c c') ∧ x.1 5 = .v (.c (.int .i64 i)) ∧ x.2 = ⟨h, nol⟩ ∧ ∀ j, j < i → l[j]? = l'[j]?) hs.length (by simp) ?_
      rintro i ⟨T, s⟩ hi ⟨_, h0, h1, h5, rfl, heq⟩
      simp only at h0 h1 h5
      by_cases hin : i < hs.length
      · have hin' : i < hs'.length := by omega
        have hil : i < l.length := by omega
        have hil' : i < l'.length := by omega
        obtain ⟨eb, ep, er, e1, _, e2, e3, e4, e5, e6, e7⟩ := hc.heldc hin
        obtain ⟨fb, fp, fr, f1, _, f2, f3, f4, f5, f6, f7⟩ := hc'.heldc hin'
        have hw := wrap1 (i := i) (by omega)
        obtain ⟨r, A1, A2⟩ := laws_eqGiveHeld h hs[i] hs'[i] l[i] l'[i] (hel i hin hil) (hel' i hin' hil')
        cases r
        · have hne : l ≠ l' := by
            rintro rfl
            have := A2.2 rfl
            cases this
          simp [claws_eqGiveHeldS_L0, h0, h1, h5, hc.slen, hin, hin', e1, e2, e3, e4, f1, f2, f3, f4, elaws_eqGiveHeldS_laws_eqGiveHeld, A1, hw, hne]
        · have hbe := A2.1 rfl
          simp [claws_eqGiveHeldS_L0, h0, h1, h5, hc.slen, hin, hin', e1, e2, e3, e4, f1, f2, f3, f4, elaws_eqGiveHeldS_laws_eqGiveHeld, A1, hw]
          refine ⟨hin, fun j hj => ?_⟩
          by_cases hji : j = i
          · subst hji
            rw [List.getElem?_eq_getElem hil, List.getElem?_eq_getElem hil', hbe]
          · exact heq j (by omega)
      · have hie : i = hs.length := by omega
        subst hie
        have : l = l' := by
          apply List.ext_getElem?
          intro j
          by_cases hj : j < l.length
          · exact heq j (by omega)
          · rw [List.getElem?_eq_none (by omega), List.getElem?_eq_none (by omega)]
        simp [claws_eqGiveHeldS_L0, h0, h1, h5, hc.slen, this]
    · have hne : l ≠ l' := fun e => hll (by rw [hlen, hlen', e])
      have : ¬ (hs.length : Int) = hs'.length := by omega
      simp [claws_eqGiveHeldS, hc.slen, hc'.slen, hll, this, hne])
  exact ⟨r, h1, h2⟩
theorem laws_eqGiveBook {S S' : Nat → Prop} (h : Heap) (c c' : BookC) (b b' : Book) (hr : RdBook S h c b) (hr' : RdBook S' h c' b') :
    ∃ r, Flaws_eqGiveBook [.v (.agg c.ces), .v (.agg c'.ces)] h = some (.v (.c (.bool r)), h) ∧ (r = true ↔ b = b') := by
  unfold Flaws_eqGiveBook
  obtain ⟨hnow, hf, hs, hh, hlen, hel⟩ := hr
  obtain ⟨hnow', hf', hs', hh', hlen', hel'⟩ := hr'
  obtain ⟨r1, e1, i1⟩ := laws_eqGiveFieldS h c.f c'.f _ _ hf hf'
  obtain ⟨r2, e2, i2⟩ := laws_eqGiveHeldS h c.hd c'.hd _ _ _ _ hh hlen hel hh' hlen' hel'
  have hiff : (decide (b.now = b'.now) && (r1 && r2)) = true ↔ b = b' := by
    cases b; cases b'
    simp [i1, i2]
  refine ⟨_, runF_eq ?_, hiff⟩
  by_cases hb : b.now = b'.now <;> cases r1 <;> cases r2 <;> simp [claws_eqGiveBook, BookC.ces, hnow, hnow', hf.noLoc, hf'.noLoc, hh.noLoc, hh'.noLoc, elaws_eqGiveBook_laws_eqGiveFieldS, elaws_eqGiveBook_laws_eqGiveHeldS, e1, e2, hb]
end Go.Abs
