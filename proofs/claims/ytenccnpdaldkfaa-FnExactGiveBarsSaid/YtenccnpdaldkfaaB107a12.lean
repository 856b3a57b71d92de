/-
  The exact law of GiveBars, over what its functions compute.
-/
import Derived.Test.YtenccnpdaldkfaaB9bbc3
set_option linter.unusedSimpArgs false
set_option linter.unusedVariables false
namespace Go.Abs
set_option linter.unusedSimpArgs false
set_option linter.unusedVariables false
attribute [local simp] AW_skip AW_exit AW_ret AW_seq AW_block AW_cond CW_ite AW_reg AW_regD AW_regDc RD_nil RD_cons keyEq hasP hasH hasL chkL chkH recK recH inRange lightKey BookC.len BookC.take WishC.len WishC.take RW_nil RW_cons RW_guard GW_t GW_f GW_gt GW_gf GW_tup GY_some GY_tt GY_ff gd_t gd_f pk_t pk_f pk_and pk_or pk_andc pk_orc pk_bool gd_gd SW_some ThenQ_normal ThenQ_exit ThenQ_ret BlockQ_normal BlockQ_exit BlockQ_ret kill_nil kill_cons killT_at killL_at upo_some upo_none ev_t ev_k FinQ_ret FinQ_normal upd_eq upd_ne argsT_zero argsT_succ aop.eq_1 aop_pick aop.eq_3 aop.eq_4 aop.eq_5 aop.eq_6 aop.eq_7 aop.eq_8 aop.eq_9 aop.eq_10 aop.eq_11 aop.eq_12 aop.eq_13 aop.eq_14 aop.eq_15 aop.eq_16 aop.eq_17 aop.eq_18 aop.eq_19 aop.eq_20 aop.eq_21 aop_slice_hi aop_slice_lo aop.eq_23 aop.eq_24 aop.eq_26 aop.eq_27 aop.eq_28 aop.eq_29 aop.eq_31 aop.eq_32 aop_maxs2 aop_mins2 aop_mins3 aop_len aop_iaddr Av.bool? Av.ptr? Av.int? Av.int64? Av.str? Av.agg? ressA resA resOf noLoc_int noLoc_bool noLoc_str noLoc_nils noLoc_nilp noLoc_ptrl noLoc_ptrr noLoc_sll noLoc_slr noLoc_fn noLoc_tc noLoc_tagg noLoc_av noLoc_atup ce_c tv_v cells_c cells_agg noLocs keyLoc evs callA St.set St.get unAv binCe killV_int killV_bool killV_str killV_nils killV_nilp killV_agg killV_no killV_tup killV_ptrl killV_ptrr killV_sll killV_slr killV_fn killV_noLoc fillA repl ptrs List.map
attribute [local congr] GY_congr


theorem laws_FnExactGiveBars (h : Heap) (cb : BookC) (b : Book) (n : ByteArray) (ct : Ce) (t : List Box) (most : Int) (ho : HOk h) (rb : RdBook (fun b => b < h.nx) h cb b ∧ BookWf b) (kn : n.size ≤ 9223372036854775807) (rt : RdF fBox (fun b => b < h.nx) h ct t) (kmost : -9223372036854775808 ≤ most ∧ most ≤ 9223372036854775807) :
    ∃ h', Flaws_FnExactGiveBars [.v (.agg cb.ces), .v (.c (.str n)), .v (.c ct), .v (.c (.int .i64 most))] h = some (.v (.c (.bool true)), h') := by
  unfold Flaws_FnExactGiveBars
  obtain ⟨rb, wb⟩ := rb
  by_cases hbn : (1048576 : Int) < n.size
  · refine ⟨_, runF_eq (h' := h) ?_⟩
    simp [claws_FnExactGiveBars, hbn]
  obtain ⟨qb, sb, leb, smb⟩ := laws_szGiveBook h cb b 1048576 rb wb (by omega)
  rcases leb with rfl | leb
  · refine ⟨_, runF_eq (h' := h) ?_⟩
    simp [claws_FnExactGiveBars, hbn, elaws_FnExactGiveBars_laws_szGiveBook, rt.noLoc, sb]
  have nb : ¬ qb < 0 := by omega
  replace smb := smb leb.1
  have st := laws_szGiveBoxS h ct t qb rt (by omega)
  by_cases hbt : qb < (t.length : Int)
  · rw [if_pos hbt] at st
    refine ⟨_, runF_eq (h' := h) ?_⟩
    simp [claws_FnExactGiveBars, hbn, sb, nb, elaws_FnExactGiveBars_laws_szGiveBook, elaws_FnExactGiveBars_laws_szGiveBoxS, rt.noLoc, st]
  rw [if_neg hbt] at st
  have nt : ¬ (qb - (t.length : Int)) < 0 := by omega
  have smt : t.length ≤ 1048576 := by omega
  obtain ⟨c1, h2, fpc1, t3, m4⟩ := toBook' h cb b ho rb smb
  have f5 := m4.fr
  have nx1 := f5.nx
  have gec1 : ∀ x0, x0 ∈ fpc1 → h.nx ≤ x0 := m4.ge
  have ltc1 : ∀ x0, x0 ∈ fpc1 → x0 < h2.nx := fun x0 hb => OwnBook.lt (m4.own : OwnBook h2 c1 b fpc1) f5.ok hb
  have o6 : OwnBook h2 c1 b fpc1 := m4.own
  have b7 := rt.keep ho f5
  obtain ⟨c8, h9, fpc8, t10, m11⟩ := toBoxes' h2 ct t f5.ok b7 smt
  have f12 := m11.fr
  have nx2 := f12.nx
  have gec8 : ∀ x0, x0 ∈ fpc8 → h2.nx ≤ x0 := m11.ge
  have ltc8 : ∀ x0, x0 ∈ fpc8 → x0 < h9.nx := fun x0 hb => OwnF.lt (m11.own : OwnF fBox h9 c8 t fpc8) f12.ok hb
  have o13 : OwnF fBox h9 c8 t fpc8 := m11.own
  have b14 := o6.chg f5.ok (Fr.chg (fp := []) f12) (by simp)
  have bnd := (barsB_len b n t most)
  obtain ⟨w, h16, fpw, t17, m18⟩ := spec_GiveBars h9 _ _ n _ _ most f12.ok (b14.rd (S := fun x0 => x0 ∈ fpc1) smb (fun x0 hb => hb)) wb (o13.rd (S := fun x0 => x0 ∈ fpc8) (by omega) (fun x0 hb => hb)) smt
  have f19 := m18.fr
  have nx3 := f19.nx
  have o20 : OwnF fSpan h16 w (barsB b n t most) fpw := m18.own
  have gew : ∀ x0, x0 ∈ fpw → h9.nx ≤ x0 := m18.ge
  have ltw : ∀ x0, x0 ∈ fpw → x0 < h16.nx := fun x0 hb => OwnF.lt o20 f19.ok hb
  have b21 := rb.keep ho f5
  have b22 := b21.keep f5.ok f12
  have b23 := b22.keep f12.ok f19
  obtain ⟨c24, h25, fpc24, t26, m27⟩ := toBook' h16 cb b f19.ok b23 smb
  have f28 := m27.fr
  have nx4 := f28.nx
  have gec24 : ∀ x0, x0 ∈ fpc24 → h16.nx ≤ x0 := m27.ge
  have ltc24 : ∀ x0, x0 ∈ fpc24 → x0 < h25.nx := fun x0 hb => OwnBook.lt (m27.own : OwnBook h25 c24 b fpc24) f28.ok hb
  have o29 : OwnBook h25 c24 b fpc24 := m27.own
  have b30 := b7.keep f5.ok f12
  have b31 := b30.keep f12.ok f19
  have b32 := b31.keep f19.ok f28
  obtain ⟨c33, h34, fpc33, t35, m36⟩ := toBoxes' h25 ct t f28.ok b32 smt
  have f37 := m36.fr
  have nx5 := f37.nx
  have gec33 : ∀ x0, x0 ∈ fpc33 → h25.nx ≤ x0 := m36.ge
  have ltc33 : ∀ x0, x0 ∈ fpc33 → x0 < h34.nx := fun x0 hb => OwnF.lt (m36.own : OwnF fBox h34 c33 t fpc33) f37.ok hb
  have o38 : OwnF fBox h34 c33 t fpc33 := m36.own
  have b39 := o29.chg f28.ok (Fr.chg (fp := []) f37) (by simp)
  obtain ⟨g, h41, fpg, t42, m43⟩ := impl_GiveBars h34 _ _ n _ _ most f37.ok (b39.rd (S := fun x0 => x0 ∈ fpc24) smb (fun x0 hb => hb)) wb (o38.rd (S := fun x0 => x0 ∈ fpc33) (by omega) (fun x0 hb => hb)) smt
  have f44 := m43.fr
  have nx6 := f44.nx
  have o45 : OwnF fSpan h41 g (barsB b n t most) fpg := m43.own
  have geg : ∀ x0, x0 ∈ fpg → h34.nx ≤ x0 := m43.ge
  have ltg : ∀ x0, x0 ∈ fpg → x0 < h41.nx := fun x0 hb => OwnF.lt o45 f44.ok hb
  have b46 := o20.chg f19.ok (Fr.chg (fp := []) f28) (by simp)
  have b47 := b46.chg f28.ok (Fr.chg (fp := []) f37) (by simp)
  have b48 := b47.chg f37.ok (Fr.chg (fp := []) f44) (by simp)
  obtain ⟨q50, e49, z51⟩ := laws_eqGiveSpanS h41 g w _ _ (o45.rd (S := fun x0 => x0 ∈ fpg) (by have q := bnd; omega) (fun x0 hb => hb)) (b48.rd (S := fun x0 => x0 ∈ fpw) (by have q := bnd; omega) (fun x0 hb => hb))
  obtain rfl := z51.2 rfl
  have b52 := b23.keep f19.ok f28
  have b53 := b52.keep f28.ok f37
  have b54 := b53.keep f37.ok f44
  obtain ⟨c55, h56, fpc55, t57, m58⟩ := toBook' h41 cb b f44.ok b54 smb
  have f59 := m58.fr
  have nx7 := f59.nx
  have gec55 : ∀ x0, x0 ∈ fpc55 → h41.nx ≤ x0 := m58.ge
  have ltc55 : ∀ x0, x0 ∈ fpc55 → x0 < h56.nx := fun x0 hb => OwnBook.lt (m58.own : OwnBook h56 c55 b fpc55) f59.ok hb
  have o60 : OwnBook h56 c55 b fpc55 := m58.own
  have b61 := b39.chg f37.ok (Fr.chg (fp := []) f44) (by simp)
  have b62 := b61.chg f44.ok (Fr.chg (fp := []) f59) (by simp)
  obtain ⟨q64, e63, z65⟩ := laws_eqGiveBook h56 c24 c55 _ _ (b62.rd (S := fun x0 => x0 ∈ fpc24) smb (fun x0 hb => hb)) (o60.rd (S := fun x0 => x0 ∈ fpc55) smb (fun x0 hb => hb))
  obtain rfl := z65.2 rfl
  have b66 := b32.keep f28.ok f37
  have b67 := b66.keep f37.ok f44
  have b68 := b67.keep f44.ok f59
  obtain ⟨c69, h70, fpc69, t71, m72⟩ := toBoxes' h56 ct t f59.ok b68 smt
  have f73 := m72.fr
  have nx8 := f73.nx
  have gec69 : ∀ x0, x0 ∈ fpc69 → h56.nx ≤ x0 := m72.ge
  have ltc69 : ∀ x0, x0 ∈ fpc69 → x0 < h70.nx := fun x0 hb => OwnF.lt (m72.own : OwnF fBox h70 c69 t fpc69) f73.ok hb
  have o74 : OwnF fBox h70 c69 t fpc69 := m72.own
  have b75 := o38.chg f37.ok (Fr.chg (fp := []) f44) (by simp)
  have b76 := b75.chg f44.ok (Fr.chg (fp := []) f59) (by simp)
  have b77 := b76.chg f59.ok (Fr.chg (fp := []) f73) (by simp)
  obtain ⟨q79, e78, z80⟩ := laws_eqGiveBoxS h70 c33 c69 _ _ (b77.rd (S := fun x0 => x0 ∈ fpc33) (by omega) (fun x0 hb => hb)) (o74.rd (S := fun x0 => x0 ∈ fpc69) (by omega) (fun x0 hb => hb))
  obtain rfl := z80.2 rfl
  have b81 := b62.chg f59.ok (Fr.chg (fp := []) f73) (by simp)
  have cbb := cntBook_le smb
  obtain ⟨h85, t82, o83, d84⟩ := laws_markGiveBook h70 c24 b fpc24 (1) f73.ok b81 smb (by omega)
  have nx9 := d84.nx
  have b86 := b77.chg f73.ok d84 (by
    intro x0 hb hn
    have i1 := gec24 x0 hn
    have i2 := ltc24 x0 hn
    have i3 := gec33 x0 hb
    have i4 := ltc33 x0 hb
    omega)
  obtain ⟨h90, t87, o88, d89⟩ := laws_markGiveBoxS h85 c33 t fpc33 (1 + cntBook b) d84.ok b86 smt (by omega)
  have nx10 := d89.nx
  have nk : ¬ (1 + cntBook b + 6 * (t.length : Int)) < 0 := by omega
  have b91 := o45.chg f44.ok (Fr.chg (fp := []) f59) (by simp)
  have b92 := b91.chg f59.ok (Fr.chg (fp := []) f73) (by simp)
  have b93 := b92.chg f73.ok d84 (by
    intro x0 hb hn
    have i1 := gec24 x0 hn
    have i2 := ltc24 x0 hn
    have i3 := geg x0 hb
    have i4 := ltg x0 hb
    omega)
  have b94 := b93.chg d84.ok d89 (by
    intro x0 hb hn
    have i1 := gec33 x0 hn
    have i2 := ltc33 x0 hn
    have i3 := geg x0 hb
    have i4 := ltg x0 hb
    omega)
  have b95 := b48.chg f44.ok (Fr.chg (fp := []) f59) (by simp)
  have b96 := b95.chg f59.ok (Fr.chg (fp := []) f73) (by simp)
  have b97 := b96.chg f73.ok d84 (by
    intro x0 hb hn
    have i1 := gec24 x0 hn
    have i2 := ltc24 x0 hn
    have i3 := gew x0 hb
    have i4 := ltw x0 hb
    omega)
  have b98 := b97.chg d84.ok d89 (by
    intro x0 hb hn
    have i1 := gec33 x0 hn
    have i2 := ltc33 x0 hn
    have i3 := gew x0 hb
    have i4 := ltw x0 hb
    omega)
  obtain ⟨q100, e99, z101⟩ := laws_eqGiveSpanS h90 g w _ _ (b94.rd (S := fun x0 => x0 ∈ fpg) (by have q := bnd; omega) (fun x0 hb => hb)) (b98.rd (S := fun x0 => x0 ∈ fpw) (by have q := bnd; omega) (fun x0 hb => hb))
  obtain rfl := z101.2 rfl
  have cmp1 := ()
  obtain ⟨h105, t102, o103, d104⟩ := laws_markGiveSpanS h90 g (barsB b n t most) fpg 1 d89.ok b94 (by have q := bnd; omega) (by omega)
  have nx11 := d104.nx
  have nm : ¬ (1 + 2 * ((barsB b n t most).length : Int)) < 0 := by omega
  have u106 := laws_heldGiveSpanS h105 g ((barsB b n t most)).length 1 (o103.rd (S := fun x0 => x0 ∈ fpg) (by rw [marksSpan_length]; have q := bnd; omega) (fun x0 hb => hb)) (by have q := bnd; omega) (by omega)
  have b107 := b54.keep f44.ok f59
  have b108 := b107.keep f59.ok f73
  have b109 := b108.chg f73.ok d84 (by
    intro x0 hb hn
    have i1 := gec24 x0 hn
    have i2 := ltc24 x0 hn
    replace hb : x0 < h.nx := hb
    omega)
  have b110 := b109.chg d84.ok d89 (by
    intro x0 hb hn
    have i1 := gec33 x0 hn
    have i2 := ltc33 x0 hn
    replace hb : x0 < h.nx := hb
    omega)
  have b111 := b110.chg d89.ok d104 (by
    intro x0 hb hn
    have i1 := geg x0 hn
    have i2 := ltg x0 hn
    replace hb : x0 < h.nx := hb
    omega)
  obtain ⟨c112, h113, fpc112, t114, m115⟩ := toBook' h105 cb b d104.ok b111 smb
  have f116 := m115.fr
  have nx12 := f116.nx
  have gec112 : ∀ x0, x0 ∈ fpc112 → h105.nx ≤ x0 := m115.ge
  have ltc112 : ∀ x0, x0 ∈ fpc112 → x0 < h113.nx := fun x0 hb => OwnBook.lt (m115.own : OwnBook h113 c112 b fpc112) f116.ok hb
  have o117 : OwnBook h113 c112 b fpc112 := m115.own
  have b118 := b68.keep f59.ok f73
  have b119 := b118.chg f73.ok d84 (by
    intro x0 hb hn
    have i1 := gec24 x0 hn
    have i2 := ltc24 x0 hn
    replace hb : x0 < h.nx := hb
    omega)
  have b120 := b119.chg d84.ok d89 (by
    intro x0 hb hn
    have i1 := gec33 x0 hn
    have i2 := ltc33 x0 hn
    replace hb : x0 < h.nx := hb
    omega)
  have b121 := b120.chg d89.ok d104 (by
    intro x0 hb hn
    have i1 := geg x0 hn
    have i2 := ltg x0 hn
    replace hb : x0 < h.nx := hb
    omega)
  have b122 := b121.keep d104.ok f116
  obtain ⟨c123, h124, fpc123, t125, m126⟩ := toBoxes' h113 ct t f116.ok b122 smt
  have f127 := m126.fr
  have nx13 := f127.nx
  have gec123 : ∀ x0, x0 ∈ fpc123 → h113.nx ≤ x0 := m126.ge
  have ltc123 : ∀ x0, x0 ∈ fpc123 → x0 < h124.nx := fun x0 hb => OwnF.lt (m126.own : OwnF fBox h124 c123 t fpc123) f127.ok hb
  have o128 : OwnF fBox h124 c123 t fpc123 := m126.own
  have b129 := o117.chg f116.ok (Fr.chg (fp := []) f127) (by simp)
  obtain ⟨v, h130, fpv, t131, m132⟩ := impl_GiveBars h124 _ _ n _ _ most f127.ok (b129.rd (S := fun x0 => x0 ∈ fpc112) smb (fun x0 hb => hb)) wb (o128.rd (S := fun x0 => x0 ∈ fpc123) (by omega) (fun x0 hb => hb)) smt
  have f133 := m132.fr
  have nx14 := f133.nx
  have o134 : OwnF fSpan h130 v (barsB b n t most) fpv := m132.own
  have gev : ∀ x0, x0 ∈ fpv → h124.nx ≤ x0 := m132.ge
  have ltv : ∀ x0, x0 ∈ fpv → x0 < h130.nx := fun x0 hb => OwnF.lt o134 f133.ok hb
  have b135 := b98.chg d89.ok d104 (by
    intro x0 hb hn
    have i1 := geg x0 hn
    have i2 := ltg x0 hn
    have i3 := gew x0 hb
    have i4 := ltw x0 hb
    omega)
  have b136 := b135.chg d104.ok (Fr.chg (fp := []) f116) (by simp)
  have b137 := b136.chg f116.ok (Fr.chg (fp := []) f127) (by simp)
  have b138 := b137.chg f127.ok (Fr.chg (fp := []) f133) (by simp)
  obtain ⟨q140, e139, z141⟩ := laws_eqGiveSpanS h130 v w _ _ (o134.rd (S := fun x0 => x0 ∈ fpv) (by have q := bnd; omega) (fun x0 hb => hb)) (b138.rd (S := fun x0 => x0 ∈ fpw) (by have q := bnd; omega) (fun x0 hb => hb))
  obtain rfl := z141.2 rfl
  have b142 := o103.chg d104.ok (Fr.chg (fp := []) f116) (by simp)
  have b143 := b142.chg f116.ok (Fr.chg (fp := []) f127) (by simp)
  have b144 := b143.chg f127.ok (Fr.chg (fp := []) f133) (by simp)
  have u145 := laws_heldGiveSpanS h130 g ((barsB b n t most)).length 1 (b144.rd (S := fun x0 => x0 ∈ fpg) (by rw [marksSpan_length]; have q := bnd; omega) (fun x0 hb => hb)) (by have q := bnd; omega) (by omega)
  refine ⟨_, runF_eq (h' := h130) ?_⟩
  simp [claws_FnExactGiveBars, hbn, sb, nb, st, nt, rt.noLoc, t3, t10, m11.own.noLoc, t17, o20.noLoc, t26, t35, m36.own.noLoc, t42, o45.noLoc, e49, t57, e63, t71, m72.own.noLoc, e78, t82, t87, nk, e99, t102, nm, u106, t114, t125, m126.own.noLoc, t131, o134.noLoc, e139, u145, elaws_FnExactGiveBars_impl_GiveBars, elaws_FnExactGiveBars_laws_eqGiveBook, elaws_FnExactGiveBars_laws_eqGiveBoxS, elaws_FnExactGiveBars_laws_eqGiveSpanS, elaws_FnExactGiveBars_laws_heldGiveSpanS, elaws_FnExactGiveBars_laws_markGiveBook, elaws_FnExactGiveBars_laws_markGiveBoxS, elaws_FnExactGiveBars_laws_markGiveSpanS, elaws_FnExactGiveBars_laws_szGiveBook, elaws_FnExactGiveBars_laws_szGiveBoxS, elaws_FnExactGiveBars_laws_toGiveBook, elaws_FnExactGiveBars_laws_toGiveBoxS, elaws_FnExactGiveBars_spec_GiveBars]
end Go.Abs
