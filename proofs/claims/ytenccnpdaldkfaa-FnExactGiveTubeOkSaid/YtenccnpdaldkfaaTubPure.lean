/-
  Runways and tubes: what the functions compute.
-/
import Derived.Test.YtenccnpdaldkfaaBoxLaw
import Derived.Test.YtenccnpdaldkfaaTubCode
namespace Go.Abs
set_option linter.unusedSimpArgs false
set_option linter.unusedVariables false
attribute [local simp] AW_skip AW_exit AW_ret AW_seq AW_block AW_cond CW_ite AW_reg AW_regD RW_nil RW_cons RW_guard GW_t GW_f GW_gt GW_gf GW_tup GY_some GY_tt GY_ff gd_t gd_f pk_t pk_f pk_and pk_or pk_andc pk_orc pk_bool gd_gd SW_some ThenQ_normal ThenQ_exit ThenQ_ret BlockQ_normal BlockQ_exit BlockQ_ret kill_nil kill_cons killT_at killL_at upo_some upo_none ev_t ev_k FinQ_ret FinQ_normal upd_eq upd_ne argsT_zero argsT_succ aop.eq_1 aop_pick aop.eq_3 aop.eq_4 aop.eq_5 aop.eq_6 aop.eq_7 aop.eq_8 aop.eq_9 aop.eq_10 aop.eq_11 aop.eq_12 aop.eq_13 aop.eq_14 aop.eq_15 aop.eq_16 aop.eq_17 aop.eq_18 aop.eq_19 aop.eq_20 aop.eq_21 aop.eq_22 aop.eq_23 aop.eq_24 aop.eq_26 aop.eq_27 aop.eq_28 aop.eq_29 aop.eq_31 aop.eq_32 aop_maxs2 aop_mins2 aop_mins3 aop_len aop_iaddr Av.bool? Av.ptr? Av.int? Av.int64? Av.str? Av.agg? ressA resA resOf noLoc_int noLoc_bool noLoc_str noLoc_nils noLoc_nilp noLoc_ptrl noLoc_ptrr noLoc_sll noLoc_slr noLoc_fn noLoc_tc noLoc_tagg noLoc_av noLoc_atup ce_c tv_v cells_c cells_agg noLocs keyLoc evs callA St.set St.get unAv binCe killV_int killV_bool killV_str killV_nils killV_nilp killV_agg killV_no killV_tup killV_ptrl killV_ptrr killV_sll killV_slr killV_fn killV_noLoc fillA repl
attribute [local congr] GY_congr

theorem laws_szGiveField (h : Heap) (f : Fld) (k : Int) (hw : SzS f.name) (hk : 0 ≤ k ∧ k ≤ 1048576) :
    ∃ r, Flaws_szGiveField [.v (.agg (fField.ces f)), .v (.c (.int .i64 k))] h = some (.v (.c (.int .i64 r)), h) ∧ Left k r := by
  unfold Flaws_szGiveField
  have e := sub_left (n := f.name.size) hk hw
  by_cases hb : k < f.name.size
  · have e1 : k - (f.name.size : Int) < 0 := by omega
    refine ⟨-1, runF_eq ?_, .inl rfl⟩
    simp [claws_szGiveField, fField, e, e1]
  · have e1 : ¬ k - (f.name.size : Int) < 0 := by omega
    refine ⟨k - f.name.size, runF_eq ?_, .inr (by omega)⟩
    simp [claws_szGiveField, fField, e, e1]

theorem laws_szGiveFieldS {S : Nat → Prop} (h : Heap) (c : Ce) (l : List Fld) (k : Int) (hc : RdF fField S h c l) (hw : ∀ f, f ∈ l → SzS f.name) (hk : 0 ≤ k ∧ k ≤ 1048576) :
    ∃ r, Flaws_szGiveFieldS [.v (.c c), .v (.c (.int .i64 k))] h = some (.v (.c (.int .i64 r)), h) ∧ Left k r ∧ (0 ≤ r → l.length ≤ 1048576) := by
  unfold Flaws_szGiveFieldS
  have hl := hc.le
  have e := sub_left (n := l.length) hk hl
  have A := laws_szGiveField
  simp only [fField] at A
  obtain ⟨v, h', h1, r, rfl, rfl, h2⟩ := runF_of (env := elaws_szGiveFieldS) (code := claws_szGiveFieldS) (rs := [.t 4]) (args := [.v (.c c), .v (.c (.int .i64 k))]) (h := h) (K := fun v h' => ∃ r, v = .v (.c (.int .i64 r)) ∧ h' = h ∧ Left k r ∧ (0 ≤ r → l.length ≤ 1048576)) (by
    by_cases hb : k < l.length
    · have e1 : k - (l.length : Int) < 0 := by omega
      simp [claws_szGiveFieldS, hc.slen, e, e1]
      exact .inl rfl
    · have e1 : ¬ k - (l.length : Int) < 0 := by omega
      simp [claws_szGiveFieldS, hc.slen, hc.noLoc, e, e1]
      refine AW_loop (fun i x => i ≤ l.length ∧ x.1 0 = .v (.c c) ∧ x.1 5 = .v (.c (.int .i64 i)) ∧ x.2 = ⟨h, nol⟩ ∧ ∃ r, x.1 1 = .v (.c (.int .i64 r)) ∧ 0 ≤ r ∧ r ≤ k) l.length (by simp; omega) ?_
      rintro i ⟨T, s⟩ hi ⟨_, h0, h5, rfl, r, h1, hr⟩
      simp only at h0 h1 h5
      by_cases hin : i < l.length
      · obtain ⟨eb, ep, er, e1, _, e2, e3, e4, e5, e6, e7⟩ := hc.field hin
        have hw1 := wrap1 (i := i) (by omega)
        obtain ⟨r', A1, A2⟩ := A h l[i] r (hw _ (List.getElem_mem hin)) (by omega)
        rcases A2 with rfl | A2
        · simp [claws_szGiveFieldS_L0, h0, h1, h5, hc.slen, hin, e1, e2, e3, e4, elaws_szGiveFieldS_laws_szGiveField, A1, hw1]
          exact .inl rfl
        · have A3 : ¬ r' < 0 := by omega
          simp [claws_szGiveFieldS_L0, h0, h1, h5, hc.slen, hin, e1, e2, e3, e4, elaws_szGiveFieldS_laws_szGiveField, A1, A3, hw1]
          omega
      · have hie : i = l.length := by omega
        subst hie
        simp [claws_szGiveFieldS_L0, h0, h1, h5, hc.slen]
        exact ⟨.inr hr, fun _ => by omega⟩)
  exact ⟨r, h1, h2⟩

def zField : Fld := ⟨⟨#[]⟩, 0, 0⟩
theorem laws_toGiveField (h : Heap) (b : Fld) : Flaws_toGiveField [.v (.agg (fField.ces b))] h = some (.v (.agg (fField.ces b)), h) := by
  unfold Flaws_toGiveField
  refine runF_eq ?_
  simp [claws_toGiveField, fField]
theorem laws_toGiveFieldS {S : Nat → Prop} (h : Heap) (c : Ce) (l : List Fld) (ho : HOk h) (hc : RdF fField S h c l) (hl : l.length ≤ 1048576) :
    Flaws_toGiveFieldS [.v (.c c)] h = some (.v (.c (.sl (.inr h.nx) 0 l.length .own)), h.push ⟨fField.all l, 3, true⟩) := by
  unfold Flaws_toGiveFieldS
  have A := laws_toGiveField
  simp only [fField] at A
  have hz : (List.replicate l.length [.str ⟨#[]⟩, .int .i64 0, .int .i64 0]).flatten = fField.all (List.replicate l.length zField) := fField.all_repl _ zField
  refine runF_eq ?_
  simp [claws_toGiveFieldS, hc.slen, hc.noLoc, lim, show (l.length : Int) ≤ 4294967296 by omega, hz]
  refine AW_each l.length (fun i x => x.1 0 = .v (.c c) ∧ x.1 3 = .v (.c (.sl (.inr h.nx) 0 l.length .own)) ∧ x.1 4 = .v (.c (.int .i64 i)) ∧ x.2 = ⟨h.push ⟨fField.all (l.take i ++ List.replicate (l.length - i) zField), 3, true⟩, nol⟩) (by simp [St.push]) ?_ ?_
  · rintro i ⟨T, s⟩ hin ⟨h0, h3, h4, rfl⟩
    simp only at h0 h3 h4
    obtain ⟨eb, ep, er, e1, _, e2, e3, e4, e5, e6, e7⟩ := hc.field hin
    have hne : eb ≠ h.nx := by have := ho.lt e2; omega
    have hlen : (fField.all (l.take i ++ List.replicate (l.length - i) zField)).length = l.length * 3 := by rw [fField.all_length]; simp [fField]; omega
    have hcut := fField.all_put (l.take i ++ List.replicate (l.length - i) zField) (i := i) (by simp; omega) l[i]
    rw [take_repl_put l zField hin] at hcut
    simp only [fField] at hcut hlen
    have hw := wrap1 (i := i) (by omega)
    have he2 : (Ce.sl (Sum.inr h.nx) 0 l.length .own).eltAt 3 i = some (.inr h.nx, i * 3) := by simp [Ce.eltAt, hin]
    have hfit : i * 3 + 3 ≤ l.length * 3 := by omega
    simp [claws_toGiveFieldS_L0, h0, h3, h4, hc.slen, hin, e1, e2, Heap.push, upd, hne, e3, e4, elaws_toGiveFieldS_laws_toGiveField, A, he2, hlen, hfit, hw, fField]
    rw [← hcut]
    exact upd_upd _ _ _ _
  · rintro ⟨T, s⟩ ⟨h0, h3, h4, rfl⟩
    simp only at h0 h3 h4
    simp [claws_toGiveFieldS_L0, h0, h3, h4, hc.slen]

def eqField (a b : Fld) : Bool := a.name.toList == b.name.toList && a.x == b.x && a.y == b.y
theorem eqField_iff (a b : Fld) : eqField a b = true ↔ a = b := by
  cases a; cases b
  simp [eqField, and_assoc, bytes_eq]
theorem laws_eqGiveField (h : Heap) (a b : Fld) : Flaws_eqGiveField [.v (.agg (fField.ces a)), .v (.agg (fField.ces b))] h = some (.v (.c (.bool (eqField a b))), h) := by
  unfold Flaws_eqGiveField eqField
  refine runF_eq ?_
  simp +contextual [claws_eqGiveField, fField]

theorem laws_eqGiveFieldS {S S' : Nat → Prop} (h : Heap) (c c' : Ce) (l l' : List Fld) (hc : RdF fField S h c l) (hc' : RdF fField S' h c' l') :
    ∃ r, Flaws_eqGiveFieldS [.v (.c c), .v (.c c')] h = some (.v (.c (.bool r)), h) ∧ (r = true ↔ l = l') := by
  unfold Flaws_eqGiveFieldS
  have hl := hc.le
  have A := laws_eqGiveField
  simp only [fField] at A
  obtain ⟨v, h', h1, r, rfl, rfl, h2⟩ := runF_of (env := elaws_eqGiveFieldS) (code := claws_eqGiveFieldS) (rs := [.t 4]) (args := [.v (.c c), .v (.c c')]) (h := h) (K := fun v h' => ∃ r, v = .v (.c (.bool r)) ∧ h' = h ∧ (r = true ↔ l = l')) (by
    by_cases hlen : l.length = l'.length
    · simp [claws_eqGiveFieldS, hc.slen, hc'.slen, hc.noLoc, hlen]
      refine AW_for1 l.length (fun i => !eqField (l.getD i default) (l'.getD i default)) (fun i x => x.1 0 = .v (.c c) ∧ x.1 1 = .v (.c c') ∧ x.1 5 = .v (.c (.int .i64 i)) ∧ x.2 = ⟨h, nol⟩) (by simp) ?_ ?_
      · rintro i ⟨T, s⟩ hin _ ⟨h0, h1, h5, rfl⟩
        simp only at h0 h1 h5
        have hin' : i < l'.length := by omega
        obtain ⟨eb, ep, er, e1, _, e2, e3, e4, e5, e6, e7⟩ := hc.field hin
        obtain ⟨fb, fp, fr, f1, _, f2, f3, f4, f5, f6, f7⟩ := hc'.field hin'
        have hw := wrap1 (i := i) (by omega)
        simp +contextual [claws_eqGiveFieldS_L0, h0, h1, h5, hc.slen, hin, hin', e1, e2, e3, e4, f1, f2, f3, f4, elaws_eqGiveFieldS_laws_eqGiveField, A, hw]
        rintro hb rfl
        rw [(eqField_iff _ _).2 rfl] at hb
        cases hb
      · rintro ⟨T, s⟩ hno ⟨h0, h1, h5, rfl⟩
        simp only at h0 h1 h5
        have hll : l = l' := by
          apply List.ext_getElem hlen
          intro j hj hj'
          exact (eqField_iff _ _).1 (by simpa [hj, hj'] using hno j hj)
        simp [claws_eqGiveFieldS_L0, h0, h1, h5, hc.slen, hll]
    · have hne : l ≠ l' := fun e => hlen (by rw [e])
      have : ¬ (l.length : Int) = l'.length := by omega
      simp [claws_eqGiveFieldS, hc.slen, hc'.slen, hlen, this, hne])
  exact ⟨r, h1, h2⟩


theorem spec_l1Next (h : Heap) (a b : Box) : Fspec_l1Next [.v (.agg (fBox.ces a)), .v (.agg (fBox.ces b))] h = some (.v (.c (.bool (nextB a b))), h) := by
  unfold Fspec_l1Next nextB wrap64
  refine runF_eq ?_
  simp +contextual [cspec_l1Next, fBox, espec_l1Next_spec_l1In, spec_l1In, Bool.and_assoc]
theorem spec_l1Ground {S : Nat → Prop} (h : Heap) (c : Ce) (l : List Fld) (b : Box) (hc : RdF fField S h c l) :
    Fspec_l1Ground [.v (.c c), .v (.agg (fBox.ces b))] h = some (.v (.c (.bool (groundB l b))), h) := by
  unfold Fspec_l1Ground
  have hl := hc.le
  refine runF_eq ?_
  simp [cspec_l1Ground, hc.noLoc, fBox]
  refine AW_for1 l.length (fun i => (l.getD i default).x == b.x && (l.getD i default).y == b.y && b.low == 0) (fun i x => x.1 0 = .v (.c c) ∧ x.1 3 = .v (.c (.ptr (.inl 3) 0)) ∧ x.2.lc 3 = some ⟨fBox.ces b, 6, true⟩ ∧ x.1 5 = .v (.c (.int .i64 i)) ∧ x.2.h = h) (by simp [fBox, hc.noLoc]) ?_ ?_
  · rintro i ⟨T, ⟨h', lc⟩⟩ hin _ ⟨h0, h3, hl3, h5, hs⟩
    simp only [fBox] at h0 h3 hl3 h5 hs
    subst hs
    obtain ⟨eb, ep, er, e1, _, e2, e3, e4, e5, e6, e7⟩ := hc.field hin
    have hw := wrap1 (i := i) (by omega)
    have fin : l[i].x = b.x → l[i].y = b.y → b.low = 0 → groundB l b = true := fun k1 k2 k3 => any_of hin (by simp [k1, k2, k3])
    simp +contextual [cspec_l1Ground_L0, h0, h3, hl3, h5, hc.slen, hin, e1, e2, e3, e5, e6, e7, hw, fin, fBox]
  · rintro ⟨T, ⟨h', lc⟩⟩ hno ⟨h0, h3, hl3, h5, hs⟩
    simp only at h0 h3 hl3 h5 hs
    subst hs
    have : groundB l b = false := any_no (fun j hj => by simpa [hj] using hno j hj)
    simp [cspec_l1Ground_L0, h0, h5, hc.slen, this]
theorem impl_isField {S : Nat → Prop} (h : Heap) (c : Ce) (l : List Fld) (x y : Int) (hc : RdF fField S h c l) :
    Fimpl_isField [.v (.c c), .v (.c (.int .i64 x)), .v (.c (.int .i64 y))] h = some (.v (.c (.bool (isFieldB l x y))), h) := by
  unfold Fimpl_isField
  have hl := hc.le
  refine runF_eq ?_
  simp [cimpl_isField, hc.slen]
  refine AW_for1 l.length (fun i => (l.getD i default).x == x && (l.getD i default).y == y) (fun i s => s.1 1 = .v (.c (.int .i64 x)) ∧ s.1 2 = .v (.c (.int .i64 y)) ∧ s.1 9 = .v (.c c) ∧ s.1 10 = .v (.c (.int .i64 l.length)) ∧ s.1 11 = .v (.c (.int .i64 i)) ∧ s.2.h = h) (by simp) ?_ ?_
  · rintro i ⟨T, ⟨h', lc⟩⟩ hin _ ⟨h1, h2, h9, h10, h11, hs⟩
    simp only at h1 h2 h9 h10 h11 hs
    subst hs
    obtain ⟨eb, ep, er, e1, _, e2, e3, e4, e5, e6, e7⟩ := hc.field hin
    have hw := wrap1 (i := i) (by omega)
    have fin : l[i].x = x → l[i].y = y → isFieldB l x y = true := fun k1 k2 => any_of hin (by simp [k1, k2])
    simp +contextual [cimpl_isField_L0, h1, h2, h9, h10, h11, hc.noLoc, hin, e1, e2, e3, e4, hw, fin]
  · rintro ⟨T, ⟨h', lc⟩⟩ hno ⟨h1, h2, h9, h10, h11, hs⟩
    simp only at h1 h2 h9 h10 h11 hs
    subst hs
    have : isFieldB l x y = false := any_no (fun j hj => by simpa [hj] using hno j hj)
    simp [cimpl_isField_L0, h10, h11, this]
theorem wrap_nat {n : Nat} (h : n ≤ 9223372036854775807) : IntKind.i64.wrap (n : Int) = n := wrap_i64 (by omega) (by omega)
theorem inB_len {n : Nat} : inB (n : Int) 1 40 = (decide (1 ≤ n) && decide (n ≤ 40)) := by
  unfold inB
  congr 1 <;> (rw [Bool.eq_iff_iff]; simp; try omega)
theorem spec_GiveTubeOk {S S' : Nat → Prop} (h : Heap) (cf c : Ce) (fs : List Fld) (l : List Box) (hf : RdF fField S h cf fs) (hc : RdF fBox S' h c l) :
    Fspec_GiveTubeOk [.v (.c cf), .v (.c c)] h = some (.v (.c (.bool (tubeOkB fs l))), h) := by
  unfold Fspec_GiveTubeOk
  have hl := hc.le
  have A := spec_l1BoxOk
  have B := spec_l1Next
  have C := fun b => spec_l1Ground h cf fs b hf
  simp only [fBox] at A B C
  refine runF_eq ?_
  by_cases h1 : 1 ≤ l.length
  · by_cases h2 : l.length ≤ 40
    · have e0 : inB (l.length : Int) 1 40 = true := by rw [inB_len]; simp [h1, h2]
      simp [cspec_GiveTubeOk, hc.slen, hc.noLoc, hf.noLoc, espec_GiveTubeOk_spec_l1In, spec_l1In, e0]
      refine AW_for1 l.length (fun i => !stepB l i) (fun i x => x.1 0 = .v (.c cf) ∧ x.1 1 = .v (.c c) ∧ x.1 5 = .v (.c (.int .i64 i)) ∧ x.2 = ⟨h, nol⟩) (by simp) ?_ ?_
      · rintro i ⟨T, s⟩ hin _ ⟨h0, h1', h5, rfl⟩
        simp only at h0 h1' h5
        obtain ⟨eb, ep, er, e1, _, e2, e3, e4, _⟩ := hc.box hin
        have hw := wrap1 (i := i) (by omega)
        have fin : stepB l i = false → tubeOkB fs l = false := fun k => by simp [tubeOkB, allN_no hin k]
        rcases i with _ | k
        · simp only [stepB] at fin ⊢
          simp at e1 hw
          simp [hin] at fin
          cases hk : okB l[0] <;> simp [hk] at fin <;> simp [cspec_GiveTubeOk_L0, h0, h1', h5, hc.slen, hin, e1, e2, e3, e4, espec_GiveTubeOk_spec_l1BoxOk, espec_GiveTubeOk_spec_l1Next, A, hw, hk, fin]
        · obtain ⟨gb, gp, gr, g1, _, g2, g3, g4, _⟩ := hc.box (show k < l.length by omega)
          have hk0 := wrap_nat (n := k) (by omega)
          have hkl : k < l.length := by omega
          have hin' : (k : Int) + 1 < l.length := by omega
          simp only [stepB] at fin ⊢
          simp at e1 hw
          simp [hin, hkl] at fin
          cases hk : okB l[k + 1] <;> cases hn : nextB l[k] l[k + 1] <;> simp [hk, hn] at fin <;> simp [cspec_GiveTubeOk_L0, h0, h1', h5, hc.slen, hin, hin', hkl, e1, e2, e3, e4, g1, g2, g3, g4, espec_GiveTubeOk_spec_l1BoxOk, espec_GiveTubeOk_spec_l1Next, A, B, hw, hk0, hk, hn, fin]
      · rintro ⟨T, s⟩ hno ⟨h0, h1', h5, rfl⟩
        simp only at h0 h1' h5
        obtain ⟨k, hk⟩ : ∃ k, l.length = k + 1 := ⟨l.length - 1, by omega⟩
        have hkl : k < l.length := by omega
        obtain ⟨eb, ep, er, e1, _, e2, e3, e4, _⟩ := hc.box hkl
        have hk0 := wrap_nat (n := k) (by omega)
        have fin : tubeOkB fs l = groundB fs l[k] := by
          have : allN l.length (stepB l) = true := allN_of fun j hj => by simpa using hno j hj
          have e : l.getD (l.length - 1) default = l[k] := by simp [hk, hkl]
          unfold tubeOkB
          rw [this, e]
          simp [h1, h2]
        simp [cspec_GiveTubeOk_L0, h0, h1', h5, hc.slen, hc.noLoc, hf.noLoc, hk, e1, e2, e3, e4, espec_GiveTubeOk_spec_l1Ground, C, hk0, fin]
    · have e0 : inB (l.length : Int) 1 40 = false := by rw [inB_len]; simp [h2]
      have e1 : tubeOkB fs l = false := by simp [tubeOkB, h2]
      simp [cspec_GiveTubeOk, hc.slen, hc.noLoc, hf.noLoc, espec_GiveTubeOk_spec_l1In, spec_l1In, e0, e1]
  · have e0 : inB (l.length : Int) 1 40 = false := by rw [inB_len]; simp [h1]
    have e1 : tubeOkB fs l = false := by simp [tubeOkB, h1]
    simp [cspec_GiveTubeOk, hc.slen, hc.noLoc, hf.noLoc, espec_GiveTubeOk_spec_l1In, spec_l1In, e0, e1]
theorem next_iff (a b : Box) (ha : okB a = true) (hb : okB b = true) : nextB a b = true ↔ inB (IntKind.i64.wrap (b.x - a.x)) (-1) 1 = true ∧ inB (IntKind.i64.wrap (b.y - a.y)) (-1) 1 = true ∧ max2 a.low b.low ≤ min2 a.high b.high ∧ a.tin ≤ b.tin ∧ a.tout ≤ b.tout ∧ b.tin ≤ IntKind.i64.wrap (a.tout + 1) := by
  simp only [okB, inB, Bool.and_eq_true, decide_eq_true_eq] at ha hb
  have e1 : wrap64 (a.x - b.x) = a.x - b.x := wrap64_id (by omega) (by omega)
  have e2 : wrap64 (a.y - b.y) = a.y - b.y := wrap64_id (by omega) (by omega)
  have e3 : IntKind.i64.wrap (b.x - a.x) = b.x - a.x := wrap_i64 (by omega) (by omega)
  have e4 : IntKind.i64.wrap (b.y - a.y) = b.y - a.y := wrap_i64 (by omega) (by omega)
  unfold nextB
  rw [e1, e2, e3, e4, max2_eq, min2_eq]
  simp only [inB, Bool.and_eq_true, decide_eq_true_eq, wrap64]
  constructor
  · rintro ⟨⟨⟨⟨⟨⟨a1, a2⟩, a3⟩, a4⟩, a5⟩, a6⟩, a7⟩
    refine ⟨⟨?_, ?_⟩, ⟨?_, ?_⟩, ?_, a5, a6, of_decide_eq_true a7⟩ <;> omega
  · rintro ⟨⟨a1, a2⟩, ⟨a3, a4⟩, a5, a6, a7, a8⟩
    refine ⟨⟨⟨⟨⟨⟨⟨?_, ?_⟩, ⟨?_, ?_⟩⟩, ?_⟩, ?_⟩, a6⟩, a7⟩, decide_eq_true a8⟩ <;> omega
theorem impl_GiveTubeOk {S S' : Nat → Prop} (h : Heap) (cf c : Ce) (fs : List Fld) (l : List Box) (hf : RdF fField S h cf fs) (hc : RdF fBox S' h c l) :
    Fimpl_GiveTubeOk [.v (.c cf), .v (.c c)] h = some (.v (.c (.bool (tubeOkB fs l))), h) := by
  unfold Fimpl_GiveTubeOk
  have hl := hc.le
  have A := impl_boxOk
  have C := fun x y => impl_isField h cf fs x y hf
  simp only [fBox] at A
  refine runF_eq ?_
  by_cases h1 : 1 ≤ l.length
  · by_cases h2 : l.length ≤ 40
    · have e0 : inB (l.length : Int) 1 40 = true := by rw [inB_len]; simp [h1, h2]
      simp [cimpl_GiveTubeOk, hc.slen, hc.noLoc, hf.noLoc, eimpl_GiveTubeOk_impl_in, impl_in, e0]
      refine AW_for1 l.length (fun i => !stepB l i) (fun i x => x.1 0 = .v (.c cf) ∧ x.1 1 = .v (.c c) ∧ x.1 13 = .v (.c c) ∧ x.1 14 = .v (.c (.int .i64 l.length)) ∧ x.1 15 = .v (.c (.int .i64 i)) ∧ x.2.h = h) (by simp) ?_ ?_
      · rintro i ⟨T, ⟨h', lc⟩⟩ hin hpre ⟨h0, h1', h13, h14, h15, hs⟩
        simp only at h0 h1' h13 h14 h15 hs
        subst hs
        obtain ⟨eb, ep, er, e1, _, e2, e3, e4, _⟩ := hc.box hin
        have hw := wrap1 (i := i) (by omega)
        have fin : stepB l i = false → tubeOkB fs l = false := fun k => by simp [tubeOkB, allN_no hin k]
        rcases i with _ | k
        · simp only [stepB] at fin ⊢
          simp at e1 hw
          simp [hin] at fin
          cases hk : okB l[0] <;> simp [hk] at fin <;> simp [cimpl_GiveTubeOk_L0, h0, h1', h13, h14, h15, hc.slen, hc.noLoc, hf.noLoc, hin, e1, e2, e3, e4, eimpl_GiveTubeOk_impl_boxOk, A, hw, hk, fin]
        · obtain ⟨gb, gp, gr, g1, _, g2, g3, g4, _⟩ := hc.box (show k < l.length by omega)
          have hk0 := wrap_nat (n := k) (by omega)
          have hkl : k < l.length := by omega
          have hin' : (k : Int) + 1 < l.length := by omega
          have hpk := hpre k (by omega)
          have okk : okB l[k] = true := by
            simp only [stepB, hkl, List.getD_eq_getElem?_getD, List.getElem?_eq_getElem, Option.getD_some] at hpk
            cases ho : okB l[k]
            · simp [ho] at hpk
            · rfl
          simp only [stepB] at fin ⊢
          simp at e1 hw
          simp [hin, hkl] at fin
          have hne : ¬ ((k : Int) + 1 = 0) := by omega
          cases hk : okB l[k + 1]
          · simp [hk] at fin
            simp [cimpl_GiveTubeOk_L0, h0, h1', h13, h14, h15, hc.slen, hc.noLoc, hf.noLoc, hin, hin', hkl, e1, e2, e3, e4, eimpl_GiveTubeOk_impl_boxOk, A, hw, hk, fin]
          · simp [hk] at fin
            simp +contextual (maxSteps := 1000000) [cimpl_GiveTubeOk_L0, h0, h1', h13, h14, h15, hc.slen, hc.noLoc, hf.noLoc, hin, hin', hkl, hne, e1, e2, e3, e4, g1, g2, g3, g4, eimpl_GiveTubeOk_impl_boxOk, eimpl_GiveTubeOk_impl_in, impl_in, A, hw, hk0, hk]
            have nx := next_iff l[k] l[k + 1] okk hk
            refine ⟨fun hb => ?_, fun a1 a2 a3 a4 a5 a6 => nx.2 ⟨a1, a2, a3, a4, a5, a6⟩⟩
            have hn : nextB l[k] l[k + 1] = false := by
              cases hn : nextB l[k] l[k + 1]
              · rfl
              · obtain ⟨a1, a2, a3, a4, a5, a6⟩ := nx.1 hn
                rcases hb with ((((hb | hb) | hb) | hb) | hb) | hb
                · rw [a1] at hb; cases hb
                · rw [a2] at hb; cases hb
                all_goals omega
            exact ⟨hn, fin hn⟩
      · rintro ⟨T, ⟨h', lc⟩⟩ hno ⟨h0, h1', h13, h14, h15, hs⟩
        simp only at h0 h1' h13 h14 h15 hs
        subst hs
        obtain ⟨k, hk⟩ : ∃ k, l.length = k + 1 := ⟨l.length - 1, by omega⟩
        have hkl : k < l.length := by omega
        obtain ⟨eb, ep, er, e1, _, e2, e3, e4, _⟩ := hc.box hkl
        have hk0 := wrap_nat (n := k) (by omega)
        have fin : tubeOkB fs l = groundB fs l[k] := by
          have : allN l.length (stepB l) = true := allN_of fun j hj => by simpa using hno j hj
          have e : l.getD (l.length - 1) default = l[k] := by simp [hk, hkl]
          unfold tubeOkB
          rw [this, e]
          simp [h1, h2]
        have fin2 : groundB fs l[k] = (l[k].low == 0 && isFieldB fs l[k].x l[k].y) := by
          unfold groundB isFieldB
          cases hz : l[k].low == 0 <;> simp
        simp +contextual [cimpl_GiveTubeOk_L0, h0, h1', h13, h14, h15, hc.slen, hc.noLoc, hf.noLoc, hk, e1, e2, e3, e4, eimpl_GiveTubeOk_impl_isField, C, hk0, fin, fin2]
    · have e0 : inB (l.length : Int) 1 40 = false := by rw [inB_len]; simp [h2]
      have e1 : tubeOkB fs l = false := by simp [tubeOkB, h2]
      simp [cimpl_GiveTubeOk, hc.slen, hc.noLoc, hf.noLoc, eimpl_GiveTubeOk_impl_in, impl_in, e0, e1]
  · have e0 : inB (l.length : Int) 1 40 = false := by rw [inB_len]; simp [h1]
    have e1 : tubeOkB fs l = false := by simp [tubeOkB, h1]
    simp [cimpl_GiveTubeOk, hc.slen, hc.noLoc, hf.noLoc, eimpl_GiveTubeOk_impl_in, impl_in, e0, e1]
end Go.Abs
