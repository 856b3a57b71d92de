/-
  The exact law of GiveTubeOk, over what its functions compute.
-/
import Derived.Test.YtenccnpdaldkfaaTubPure
namespace Go.Abs
set_option linter.unusedSimpArgs false
set_option linter.unusedVariables false
attribute [local simp] AW_skip AW_exit AW_ret AW_seq AW_block AW_cond CW_ite AW_reg AW_regD RW_nil RW_cons RW_guard GW_t GW_f GW_gt GW_gf GW_tup GY_some GY_tt GY_ff gd_t gd_f pk_t pk_f pk_and pk_or pk_andc pk_orc pk_bool gd_gd SW_some ThenQ_normal ThenQ_exit ThenQ_ret BlockQ_normal BlockQ_exit BlockQ_ret kill_nil kill_cons killT_at killL_at upo_some upo_none ev_t ev_k FinQ_ret FinQ_normal upd_eq upd_ne argsT_zero argsT_succ aop.eq_1 aop_pick aop.eq_3 aop.eq_4 aop.eq_5 aop.eq_6 aop.eq_7 aop.eq_8 aop.eq_9 aop.eq_10 aop.eq_11 aop.eq_12 aop.eq_13 aop.eq_14 aop.eq_15 aop.eq_16 aop.eq_17 aop.eq_18 aop.eq_19 aop.eq_20 aop.eq_21 aop.eq_22 aop.eq_23 aop.eq_24 aop.eq_26 aop.eq_27 aop.eq_28 aop.eq_29 aop.eq_31 aop.eq_32 aop_maxs2 aop_mins2 aop_mins3 aop_len aop_iaddr Av.bool? Av.ptr? Av.int? Av.int64? Av.str? Av.agg? ressA resA resOf noLoc_int noLoc_bool noLoc_str noLoc_nils noLoc_nilp noLoc_ptrl noLoc_ptrr noLoc_sll noLoc_slr noLoc_fn noLoc_tc noLoc_tagg noLoc_av noLoc_atup ce_c tv_v cells_c cells_agg noLocs keyLoc evs callA St.set St.get unAv binCe killV_int killV_bool killV_str killV_nils killV_nilp killV_agg killV_no killV_tup killV_ptrl killV_ptrr killV_sll killV_slr killV_fn killV_noLoc fillA repl
attribute [local congr] GY_congr

theorem toBoxes' {S : Nat → Prop} (h : Heap) (c : Ce) (l : List Box) (ho : HOk h) (hc : RdF fBox S h c l) (hl : l.length ≤ 1048576) :
    ∃ c' h' fp, Flaws_toGiveBoxS [.v (.c c)] h = some (.v (.c c'), h') ∧ NewF fBox h h' c' l fp := ⟨_, _, _, laws_toGiveBoxS h c l ho hc hl, NewF.push ho l _ rfl⟩
theorem toFields' {S : Nat → Prop} (h : Heap) (c : Ce) (l : List Fld) (ho : HOk h) (hc : RdF fField S h c l) (hl : l.length ≤ 1048576) :
    ∃ c' h' fp, Flaws_toGiveFieldS [.v (.c c)] h = some (.v (.c c'), h') ∧ NewF fField h h' c' l fp := ⟨_, _, _, laws_toGiveFieldS h c l ho hc hl, NewF.push ho l _ rfl⟩

theorem laws_FnExactGiveTubeOk (h : Heap) (cfs : Ce) (fs : List Fld) (ct : Ce) (t : List Box) (ho : HOk h) (rfs : RdF fField (fun b => b < h.nx) h cfs fs ∧ FieldsWf fs) (rt : RdF fBox (fun b => b < h.nx) h ct t) :
    ∃ h', Flaws_FnExactGiveTubeOk [.v (.c cfs), .v (.c ct)] h = some (.v (.c (.bool true)), h') := by
  unfold Flaws_FnExactGiveTubeOk
  obtain ⟨rfs, wfs⟩ := rfs
  obtain ⟨qfs, sfs, lefs, smfs⟩ := laws_szGiveFieldS h cfs fs 1048576 rfs wfs (by omega)
  rcases lefs with rfl | lefs
  · refine ⟨_, runF_eq (h' := h) ?_⟩
    simp [claws_FnExactGiveTubeOk, elaws_FnExactGiveTubeOk_laws_szGiveFieldS, rfs.noLoc, rt.noLoc, sfs]
  have nfs : ¬ qfs < 0 := by omega
  replace smfs := smfs lefs.1
  have st := laws_szGiveBoxS h ct t qfs rt (by omega)
  by_cases hbt : qfs < (t.length : Int)
  · rw [if_pos hbt] at st
    refine ⟨_, runF_eq (h' := h) ?_⟩
    simp [claws_FnExactGiveTubeOk, sfs, nfs, elaws_FnExactGiveTubeOk_laws_szGiveFieldS, elaws_FnExactGiveTubeOk_laws_szGiveBoxS, rfs.noLoc, rt.noLoc, st]
  rw [if_neg hbt] at st
  have nt : ¬ (qfs - (t.length : Int)) < 0 := by omega
  have smt : t.length ≤ 1048576 := by omega
  obtain ⟨c1, h2, fpc1, t3, m4⟩ := toFields' h cfs fs ho rfs smfs
  have f5 := m4.fr
  have nx1 := f5.nx
  have gec1 : ∀ b, b ∈ fpc1 → h.nx ≤ b := m4.ge
  have ltc1 : ∀ b, b ∈ fpc1 → b < h2.nx := fun b hb => m4.own.lt f5.ok hb
  have b6 := rt.keep ho f5
  obtain ⟨c7, h8, fpc7, t9, m10⟩ := toBoxes' h2 ct t f5.ok b6 smt
  have f11 := m10.fr
  have nx2 := f11.nx
  have gec7 : ∀ b, b ∈ fpc7 → h2.nx ≤ b := m10.ge
  have ltc7 : ∀ b, b ∈ fpc7 → b < h8.nx := fun b hb => m10.own.lt f11.ok hb
  have b12 := m4.own.chg f5.ok f11.chg (fp := []) (by simp)
  have u13 := spec_GiveTubeOk h8 _ _ _ _ (b12.rd (S := fun b => b ∈ fpc1) (by omega) (fun b hb => hb)) (m10.own.rd (S := fun b => b ∈ fpc7) (by omega) (fun b hb => hb))
  have b14 := rfs.keep ho f5
  have b15 := b14.keep f5.ok f11
  obtain ⟨c16, h17, fpc16, t18, m19⟩ := toFields' h8 cfs fs f11.ok b15 smfs
  have f20 := m19.fr
  have nx3 := f20.nx
  have gec16 : ∀ b, b ∈ fpc16 → h8.nx ≤ b := m19.ge
  have ltc16 : ∀ b, b ∈ fpc16 → b < h17.nx := fun b hb => m19.own.lt f20.ok hb
  have b21 := b6.keep f5.ok f11
  have b22 := b21.keep f11.ok f20
  obtain ⟨c23, h24, fpc23, t25, m26⟩ := toBoxes' h17 ct t f20.ok b22 smt
  have f27 := m26.fr
  have nx4 := f27.nx
  have gec23 : ∀ b, b ∈ fpc23 → h17.nx ≤ b := m26.ge
  have ltc23 : ∀ b, b ∈ fpc23 → b < h24.nx := fun b hb => m26.own.lt f27.ok hb
  have b28 := m19.own.chg f20.ok f27.chg (fp := []) (by simp)
  have u29 := impl_GiveTubeOk h24 _ _ _ _ (b28.rd (S := fun b => b ∈ fpc16) (by omega) (fun b hb => hb)) (m26.own.rd (S := fun b => b ∈ fpc23) (by omega) (fun b hb => hb))
  have b30 := b15.keep f11.ok f20
  have b31 := b30.keep f20.ok f27
  obtain ⟨c32, h33, fpc32, t34, m35⟩ := toFields' h24 cfs fs f27.ok b31 smfs
  have f36 := m35.fr
  have nx5 := f36.nx
  have gec32 : ∀ b, b ∈ fpc32 → h24.nx ≤ b := m35.ge
  have ltc32 : ∀ b, b ∈ fpc32 → b < h33.nx := fun b hb => m35.own.lt f36.ok hb
  have b37 := b28.chg f27.ok f36.chg (fp := []) (by simp)
  obtain ⟨q39, e38, z40⟩ := laws_eqGiveFieldS h33 c16 c32 _ _ (b37.rd (S := fun b => b ∈ fpc16) (by omega) (fun b hb => hb)) (m35.own.rd (S := fun b => b ∈ fpc32) (by omega) (fun b hb => hb))
  obtain rfl := z40.2 rfl
  have b41 := b22.keep f20.ok f27
  have b42 := b41.keep f27.ok f36
  obtain ⟨c43, h44, fpc43, t45, m46⟩ := toBoxes' h33 ct t f36.ok b42 smt
  have f47 := m46.fr
  have nx6 := f47.nx
  have gec43 : ∀ b, b ∈ fpc43 → h33.nx ≤ b := m46.ge
  have ltc43 : ∀ b, b ∈ fpc43 → b < h44.nx := fun b hb => m46.own.lt f47.ok hb
  have b48 := m26.own.chg f27.ok f36.chg (fp := []) (by simp)
  have b49 := b48.chg f36.ok f47.chg (fp := []) (by simp)
  obtain ⟨q51, e50, z52⟩ := laws_eqGiveBoxS h44 c23 c43 _ _ (b49.rd (S := fun b => b ∈ fpc23) (by omega) (fun b hb => hb)) (m46.own.rd (S := fun b => b ∈ fpc43) (by omega) (fun b hb => hb))
  obtain rfl := z52.2 rfl
  refine ⟨_, runF_eq (h' := h44) ?_⟩
  simp [claws_FnExactGiveTubeOk, sfs, nfs, st, nt, rfs.noLoc, rt.noLoc, t3, m4.own.noLoc, t9, m10.own.noLoc, u13, t18, m19.own.noLoc, t25, m26.own.noLoc, u29, t34, m35.own.noLoc, e38, t45, m46.own.noLoc, e50, elaws_FnExactGiveTubeOk_impl_GiveTubeOk, elaws_FnExactGiveTubeOk_laws_eqGiveBoxS, elaws_FnExactGiveTubeOk_laws_eqGiveFieldS, elaws_FnExactGiveTubeOk_laws_szGiveBoxS, elaws_FnExactGiveTubeOk_laws_szGiveFieldS, elaws_FnExactGiveTubeOk_laws_toGiveBoxS, elaws_FnExactGiveTubeOk_laws_toGiveFieldS, elaws_FnExactGiveTubeOk_spec_GiveTubeOk]
end Go.Abs
