/-
  The exact laws of GiveNear and GiveCut, over what their functions compute.
-/
import Derived.Test.YtenccnpdaldkfaaBoxPure
namespace Go.Abs
set_option linter.unusedSimpArgs false
set_option linter.unusedVariables false
attribute [local simp] AW_skip AW_exit AW_ret AW_seq AW_block AW_cond CW_ite AW_reg AW_regD RW_nil RW_cons RW_guard GW_t GW_f GW_gt GW_gf GW_tup GY_some GY_tt GY_ff gd_t gd_f pk_t pk_f pk_and pk_or pk_andc pk_orc pk_bool gd_gd SW_some ThenQ_normal ThenQ_exit ThenQ_ret BlockQ_normal BlockQ_exit BlockQ_ret kill_nil kill_cons killT_at killL_at upo_some upo_none ev_t ev_k FinQ_ret FinQ_normal upd_eq upd_ne argsT_zero argsT_succ aop.eq_1 aop_pick aop.eq_3 aop.eq_4 aop.eq_5 aop.eq_6 aop.eq_7 aop.eq_8 aop.eq_9 aop.eq_10 aop.eq_11 aop.eq_12 aop.eq_13 aop.eq_14 aop.eq_15 aop.eq_16 aop.eq_17 aop.eq_18 aop.eq_19 aop.eq_20 aop.eq_21 aop.eq_22 aop.eq_23 aop.eq_24 aop.eq_26 aop.eq_27 aop.eq_28 aop.eq_29 aop.eq_31 aop.eq_32 aop_maxs2 aop_mins2 aop_mins3 aop_len aop_iaddr Av.bool? Av.ptr? Av.int? Av.int64? Av.str? Av.agg? ressA resA resOf noLoc_int noLoc_bool noLoc_str noLoc_nils noLoc_nilp noLoc_ptrl noLoc_ptrr noLoc_sll noLoc_slr noLoc_fn noLoc_tc noLoc_tagg noLoc_av noLoc_atup ce_c tv_v cells_c cells_agg noLocs keyLoc evs callA St.set St.get unAv binCe killV_int killV_bool killV_str killV_nils killV_nilp killV_agg killV_no killV_tup killV_ptrl killV_ptrr killV_sll killV_slr killV_fn killV_noLoc fillA repl
attribute [local congr] GY_congr
theorem toBoxes {S : Nat → Prop} (h : Heap) (c : Ce) (l : List Box) (ho : HOk h) (hc : RdF fBox S h c l) (hl : l.length ≤ 1048576) :
    ∃ c' h', Flaws_toGiveBoxS [.v (.c c)] h = some (.v (.c c'), h') ∧ NewF fBox h h' c' l [h.nx] ∧ h'.nx = h.nx + 1 :=
  ⟨_, _, laws_toGiveBoxS h c l ho hc hl, NewF.push ho l _ rfl, rfl⟩
theorem NewF.rd {α : Type} {F : Fl α} {h h' : Heap} {c : Ce} {l : List α} {fp : List Nat} (n : NewF F h h' c l fp) (hl : l.length ≤ 9223372036854775807) : RdF F (fun b => h.nx ≤ b ∧ b < h'.nx) h' c l :=
  n.own.rd hl fun b hb => ⟨n.ge b hb, n.own.lt n.fr.ok hb⟩
theorem NewF.lt {α : Type} {F : Fl α} {h h' : Heap} {c : Ce} {l : List α} {fp : List Nat} (n : NewF F h h' c l fp) {b : Nat} (hb : b ∈ fp) : b < h'.nx := n.own.lt n.fr.ok hb

theorem laws_FnExactGiveCut (h : Heap) (c : Ce) (l : List Box) (k : Int) (ho : HOk h) (hc : RdF fBox (fun b => b < h.nx) h c l) (hk : -9223372036854775808 ≤ k ∧ k ≤ 9223372036854775807) :
    ∃ h', Flaws_FnExactGiveCut [.v (.c c), .v (.c (.int .i64 k))] h = some (.v (.c (.bool true)), h') := by
  unfold Flaws_FnExactGiveCut
  have s1 := laws_szGiveBoxS h c l 1048576 hc (by omega)
  by_cases hb : (1048576 : Int) < l.length
  · rw [if_pos hb] at s1
    refine ⟨_, runF_eq (h' := h) ?_⟩
    simp [claws_FnExactGiveCut, elaws_FnExactGiveCut_laws_szGiveBoxS, s1, hc.noLoc]
  rw [if_neg hb] at s1
  have n1 : ¬ (1048576 : Int) - l.length < 0 := by omega
  have hl : l.length ≤ 1048576 := by omega
  have hcl := cutB_le k l
  obtain ⟨c1, h1, t1, m1, z1⟩ := toBoxes h c l ho hc hl
  obtain ⟨w, h2, fw, t2, m2⟩ := spec_GiveCut h1 c1 l k m1.fr.ok (m1.rd (by omega)) hl
  have f2 := m1.fr.trans m2.fr
  have w2 := m2.rd (by omega)
  obtain ⟨x, h3, t3, m3, z3⟩ := toBoxes h2 c l f2.ok (hc.keep ho f2) hl
  have f3 := f2.trans m3.fr
  obtain ⟨g, h4, fg, t4, m4⟩ := impl_GiveCut h3 x l k m3.fr.ok (m3.rd (by omega)) hl
  have f4 := f3.trans m4.fr
  have w4 := (w2.keep m2.fr.ok m3.fr).keep m3.fr.ok m4.fr
  obtain ⟨q1, e1, b1⟩ := laws_eqGiveBoxS h4 g w _ _ (m4.rd (by omega)) w4
  obtain rfl := b1.2 rfl
  obtain ⟨c5, h5, t5, m5, z5⟩ := toBoxes h4 c l f4.ok (hc.keep ho f4) hl
  have f5 := f4.trans m5.fr
  have x5 := (m3.own.chg m3.fr.ok m4.fr.chg (fp := []) (by simp)).chg m4.fr.ok m5.fr.chg (fp := []) (by simp)
  have g5 := m4.own.chg m4.fr.ok m5.fr.chg (fp := []) (by simp)
  obtain ⟨q2, e2, b2⟩ := laws_eqGiveBoxS h5 x c5 _ _ (x5.rd (S := fun _ => True) (by omega) (by simp)) (m5.rd (by omega))
  obtain rfl := b2.2 rfl
  obtain ⟨h6, t6, x6, d6⟩ := laws_markGiveBoxS h5 x l _ 1 m5.fr.ok x5 hl (by omega)
  have lt3 : ∀ b, b ∈ fg → b ∉ [h2.nx] := by
    intro b hb hn
    have h1 := m4.ge b hb
    have h2 := m3.lt hn
    omega
  have g6 := g5.chg m5.fr.ok d6 lt3
  have w6 := (w4.keep m4.fr.ok m5.fr).chg m5.fr.ok d6 (by
    rintro b ⟨_, hb⟩ hn
    have := m3.ge b hn
    omega)
  obtain ⟨q3, e3, b3⟩ := laws_eqGiveBoxS h6 g w _ _ (g6.rd (S := fun b => b ∈ fg) (by omega) (fun b hb => hb)) w6
  obtain rfl := b3.2 rfl
  obtain ⟨h7, t7, g7, d7⟩ := laws_markGiveBoxS h6 g _ fg 1 d6.ok g6 (by omega) (by omega)
  have u7 := laws_heldGiveBoxS h7 g (cutB k l).length 1 (g7.rd (S := fun b => b ∈ fg) (by rw [marksBox_length]; omega) (fun b hb => hb)) (by omega) (by omega)
  have w7 := w6.chg d6.ok d7 (by
    rintro b ⟨_, hb⟩ hn
    have h1 := m4.ge b hn
    have := m3.fr.nx
    omega)
  have c7 := ((hc.keep ho f5).chg f5.ok d6 (by
    intro b hb hn
    have h1 := m3.ge b hn
    have h2 : b < h.nx := hb
    have := f2.nx
    omega)).chg d6.ok d7 (by
    intro b hb hn
    have h1 := m4.ge b hn
    have h2 : b < h.nx := hb
    have := f3.nx
    omega)
  obtain ⟨c8, h8, t8, m8, z8⟩ := toBoxes h7 c l d7.ok c7 hl
  obtain ⟨r9, h9, f9, t9, m9⟩ := impl_GiveCut h8 c8 l k m8.fr.ok (m8.rd (by omega)) hl
  obtain ⟨q4, e4, b4⟩ := laws_eqGiveBoxS h9 r9 w _ _ (m9.rd (by omega)) ((w7.keep d7.ok m8.fr).keep m8.fr.ok m9.fr)
  obtain rfl := b4.2 rfl
  have g9 := (g7.chg d7.ok m8.fr.chg (fp := []) (by simp)).chg m8.fr.ok m9.fr.chg (fp := []) (by simp)
  have u9 := laws_heldGiveBoxS h9 g (cutB k l).length 1 (g9.rd (S := fun b => b ∈ fg) (by rw [marksBox_length]; omega) (fun b hb => hb)) (by omega) (by omega)
  have n2 : ¬ (1 : Int) + 6 * l.length < 0 := by omega
  have n3 : ¬ (1 : Int) + 6 * (cutB k l).length < 0 := by omega
  refine ⟨_, runF_eq (h' := h9) ?_⟩
  simp [claws_FnExactGiveCut, elaws_FnExactGiveCut_laws_szGiveBoxS, elaws_FnExactGiveCut_spec_GiveCut, elaws_FnExactGiveCut_laws_toGiveBoxS, elaws_FnExactGiveCut_impl_GiveCut, elaws_FnExactGiveCut_laws_eqGiveBoxS, elaws_FnExactGiveCut_laws_markGiveBoxS, elaws_FnExactGiveCut_laws_heldGiveBoxS, s1, hc.noLoc, m1.own.noLoc, m2.own.noLoc, m3.own.noLoc, m4.own.noLoc, m5.own.noLoc, m8.own.noLoc, m9.own.noLoc, n1, n2, n3, t1, t2, t3, t4, e1, t5, e2, t6, e3, t7, u7, t8, t9, e4, u9]
end Go.Abs
