/-
  The helpers of the laws for wishes, third part: wishes whole.
-/
import Derived.Test.YtenccnpdaldkfaaB90d8a
import Derived.Test.YtenccnpdaldkfaaB6a6d4
import Derived.Test.YtenccnpdaldkfaaB7f1f4
import Derived.Test.YtenccnpdaldkfaaB58efe
set_option linter.unusedSimpArgs false
set_option linter.unusedVariables false
namespace Go.Abs
set_option linter.unusedSimpArgs false
set_option linter.unusedVariables false
attribute [local simp] AW_skip AW_exit AW_ret AW_seq AW_block AW_cond CW_ite AW_reg AW_regD AW_regDc RD_nil RD_cons keyEq hasP hasH hasL chkL chkH recK recH inRange lightKey BookC.len BookC.take WishC.len WishC.take RW_nil RW_cons RW_guard GW_t GW_f GW_gt GW_gf GW_tup GY_some GY_tt GY_ff gd_t gd_f pk_t pk_f pk_and pk_or pk_andc pk_orc pk_bool gd_gd SW_some ThenQ_normal ThenQ_exit ThenQ_ret BlockQ_normal BlockQ_exit BlockQ_ret kill_nil kill_cons killT_at killL_at upo_some upo_none ev_t ev_k FinQ_ret FinQ_normal upd_eq upd_ne argsT_zero argsT_succ aop.eq_1 aop_pick aop.eq_3 aop.eq_4 aop.eq_5 aop.eq_6 aop.eq_7 aop.eq_8 aop.eq_9 aop.eq_10 aop.eq_11 aop.eq_12 aop.eq_13 aop.eq_14 aop.eq_15 aop.eq_16 aop.eq_17 aop.eq_18 aop.eq_19 aop.eq_20 aop.eq_21 aop_slice_hi aop_slice_lo aop.eq_23 aop.eq_24 aop.eq_26 aop.eq_27 aop.eq_28 aop.eq_29 aop.eq_31 aop.eq_32 aop_maxs2 aop_mins2 aop_mins3 aop_len aop_iaddr Av.bool? Av.ptr? Av.int? Av.int64? Av.str? Av.agg? ressA resA resOf noLoc_int noLoc_bool noLoc_str noLoc_nils noLoc_nilp noLoc_ptrl noLoc_ptrr noLoc_sll noLoc_slr noLoc_fn noLoc_tc noLoc_tagg noLoc_av noLoc_atup ce_c tv_v cells_c cells_agg noLocs keyLoc evs callA St.set St.get unAv binCe killV_int killV_bool killV_str killV_nils killV_nilp killV_agg killV_no killV_tup killV_ptrl killV_ptrr killV_sll killV_slr killV_fn killV_noLoc fillA repl ptrs List.map
attribute [local congr] GY_congr

/-- What the marks write. -/
def mkInt (k : Int) (i : Nat) : Int := k + i
def marksInt (k : Int) (n : Nat) : List Int := (List.range n).map (mkInt k)
theorem marksInt_length (k : Int) (n : Nat) : (marksInt k n).length = n := by simp [marksInt]
theorem marksInt_at (k : Int) (n i : Nat) (h : i < (marksInt k n).length) : (marksInt k n)[i] = mkInt k i := by simp [marksInt]
theorem laws_markIntS (h : Heap) (c : Ce) (l : List Int) (fp : List Nat) (k : Int) (ho : HOk h) (hc : OwnF fInt h c l fp) (hl : l.length ≤ 1048576) (hk : 0 ≤ k ∧ k ≤ 1152921504606846976) :
    ∃ h', Flaws_markIntS [.v (.c c), .v (.c (.int .i64 k))] h = some (.v (.c (.int .i64 (k + l.length))), h') ∧ OwnF fInt h' c (marksInt k l.length) fp ∧ Chg fp h h' := by
  unfold Flaws_markIntS
  rcases hc with ⟨rfl, rfl, rfl⟩ | ⟨b, rfl, hb, rfl⟩
  · refine ⟨h, runF_eq ?_, .inl ⟨rfl, rfl, rfl⟩, Chg.refl ho⟩
    simp [claws_markIntS]
    refine AW_each 0 (fun i x => x.1 0 = .v (.c .nils) ∧ x.1 1 = .v (.c (.int .i64 k)) ∧ x.1 5 = .v (.c (.int .i64 0)) ∧ x.2 = ⟨h, nol⟩) (by simp) (by intros; omega) ?_
    rintro ⟨T, s⟩ ⟨h0, h1, h5, rfl⟩
    simp only at h0 h1 h5
    simp [claws_markIntS_L0, h0, h1, h5, Ce.slen]
  · refine ⟨⟨h.nx, upd h.hp b (some ⟨fInt.all (marksInt k l.length), 1, true⟩)⟩, runF_eq ?_, .inr ⟨b, by rw [marksInt_length], by simp [upd, fInt], rfl⟩, Chg.one ho (ho.lt hb) _⟩
    simp [claws_markIntS]
    refine AW_each l.length (fun i x => x.1 0 = .v (.c (.sl (.inr b) 0 l.length .own)) ∧ x.1 1 = .v (.c (.int .i64 (k + i))) ∧ x.1 5 = .v (.c (.int .i64 i)) ∧ x.2 = ⟨⟨h.nx, upd h.hp b (some ⟨fInt.all ((marksInt k l.length).take i ++ l.drop i), 1, true⟩)⟩, nol⟩) ?_ ?_ ?_
    · have := upd_same hb
      simp only [show fInt.sz = 1 from rfl] at this
      simp [this]
    · rintro i ⟨T, s⟩ hin ⟨h0, h1, h5, rfl⟩
      simp only at h0 h1 h5
      obtain ⟨K0, k0⟩ : ∃ K, K = k + (i : Int) := ⟨_, rfl⟩
      rw [← k0] at h1
      obtain ⟨K1, k1⟩ : ∃ K, K = K0 + 1 := ⟨_, rfl⟩
      have w0 : IntKind.i64.wrap (K0 + 1) = K1 := by rw [k1]; exact wrap_i64 (by omega) (by omega)
      obtain ⟨L, hL⟩ : ∃ L, L = (marksInt k l.length).take i ++ l.drop i := ⟨_, rfl⟩
      rw [← hL]
      have hiL : i < L.length := by rw [hL]; simp [marksInt]; omega
      have hLi : L[i] = l[i] := by
        simp only [hL]
        rw [List.getElem_append_right (by simp; omega)]
        simp [marksInt, Nat.min_eq_left (Nat.le_of_lt hin)]
      have hlen : (fInt.all L).length = l.length := by rw [fInt.all_length, hL]; simp [fInt, marksInt]; omega
      have hlenS : ∀ B, (fInt.all (L.set i B)).length = l.length := by intro B; rw [fInt.all_length, List.length_set, ← fInt.all_length, hlen]
      have s0 := fInt.all_set L (i := i) (k := 0) (by simpa using hiL) (by decide) (b := K0) (v := .int .i64 K0) (by simp [fInt, hLi])
      simp only [show fInt.sz = 1 from rfl, Nat.add_zero, Nat.mul_one, Nat.add_assoc, Nat.reduceAdd] at s0
      have q1 : i + 1 ≤ l.length := by omega
      have g1 : (fInt.all (L.set i K0)).length = l.length := hlenS _
      have hw := wrap1 (i := i) (by omega)
      have he2 : (Ce.sl (Sum.inr b) 0 l.length .own).eltAt 1 i = some (.inr b, i) := by simp [Ce.eltAt, hin]
      have hend : L.set i K0 = (marksInt k l.length).take (i + 1) ++ l.drop (i + 1) := by
        rw [hL, ← take_drop_set _ _ hin (by rw [marksInt_length]; omega), marksInt_at]
        simp only [mkInt]
        congr 2 <;> omega
      have hK : K1 = k + ((i : Int) + 1) := by omega
      simp [claws_markIntS_L0, h0, h1, h5, Ce.slen, hin, he2, upd_upd, hlen, s0, w0, q1, g1, hw]
      exact ⟨hK, by rw [hend]⟩
    · rintro ⟨T, s⟩ ⟨h0, h1, h5, rfl⟩
      simp only at h0 h1 h5
      have e1 : (marksInt k l.length).take l.length = marksInt k l.length := by
        apply List.take_of_length_le
        rw [marksInt_length]; omega
      simp [claws_markIntS_L0, h0, h1, h5, Ce.slen, e1]

def cntWays : List (List Cell) → Int
  | [] => 0
  | a :: r => 2 * (a.length : Int) + cntWays r
theorem cntWays_append (a b : List (List Cell)) : cntWays (a ++ b) = cntWays a + cntWays b := by
  induction a with
  | nil => simp [cntWays]
  | cons x r ih => simp only [List.cons_append, cntWays, ih]; omega
theorem cntWays_take (l : List (List Cell)) {i : Nat} (hi : i < l.length) : cntWays (l.take (i + 1)) = cntWays (l.take i) + 2 * (l[i].length : Int) := by
  rw [List.take_add_one, List.getElem?_eq_getElem hi, cntWays_append]
  simp [cntWays]
theorem cntWays_le (l : List (List Cell)) (ht : ∀ a, a ∈ l → a.length ≤ 1048576) : 0 ≤ cntWays l ∧ cntWays l ≤ 3000000 * l.length := by
  induction l with
  | nil => simp [cntWays]
  | cons x r ih =>
    have h1 := ht x (by simp)
    have h2 := ih fun a ha => ht a (by simp [ha])
    simp only [cntWays, List.length_cons]
    omega
def marksWays (k : Int) (l : List (List Cell)) : List (List Cell) := (List.range l.length).map fun i => marksCell (k + cntWays (l.take i)) (l.getD i default).length
theorem marksWays_length (k : Int) (l : List (List Cell)) : (marksWays k l).length = l.length := by simp [marksWays]
theorem marksWays_at (k : Int) (l : List (List Cell)) (i : Nat) (h : i < (marksWays k l).length) (hl : i < l.length) : (marksWays k l)[i] = marksCell (k + cntWays (l.take i)) l[i].length := by simp [marksWays, hl]

theorem laws_markGiveWayS (h : Heap) (c : Ce) (l : List (List Cell)) (fp : List Nat) (k : Int) (ho : HOk h) (hc : OwnWayS h c l fp) (hl : l.length ≤ 1048576) (ht : ∀ a, a ∈ l → a.length ≤ 1048576) (hk : 0 ≤ k ∧ k ≤ 1099511627776) :
    ∃ h', Flaws_markGiveWayS [.v (.c c), .v (.c (.int .i64 k))] h = some (.v (.c (.int .i64 (k + cntWays l))), h') ∧ OwnWayS h' c (marksWays k l) fp ∧ Chg fp h h' := by
  unfold Flaws_markGiveWayS
  have hcn := hc.noLoc
  have hcs := hc.slen
  obtain ⟨v, h', h1, rfl, h2, h3⟩ := runF_of (env := elaws_markGiveWayS) (code := claws_markGiveWayS) (rs := [.t 4]) (args := [.v (.c c), .v (.c (.int .i64 k))]) (h := h) (K := fun v h' => v = .v (.c (.int .i64 (k + cntWays l))) ∧ OwnWayS h' c (marksWays k l) fp ∧ Chg fp h h') (by
    simp [claws_markGiveWayS]
    refine AW_each l.length (fun i x => x.1 0 = .v (.c c) ∧ x.1 1 = .v (.c (.int .i64 (k + cntWays (l.take i)))) ∧ x.1 5 = .v (.c (.int .i64 i)) ∧ Chg fp h x.2.h ∧ OwnWayS x.2.h c ((marksWays k l).take i ++ l.drop i) fp) ?_ ?_ ?_
    · simp [Chg.refl ho, cntWays, hcn]
      exact hc
    · rintro i ⟨T, ⟨h', lc⟩⟩ hin ⟨h0, h1, h5, cg, ow⟩
      simp only at h0 h1 h5 cg ow
      have hcnt := cntWays_le (l.take i) (fun a ha => ht a (List.mem_of_mem_take ha))
      have htl : (l.take i).length ≤ 1048576 := by rw [List.length_take]; omega
      obtain ⟨K0, k0⟩ : ∃ K, K = k + cntWays (l.take i) := ⟨_, rfl⟩
      rw [← k0] at h1
      have hK0 : 0 ≤ K0 ∧ K0 ≤ 1152921504606846976 - 100000000 := by omega
      have t1 := ht _ (List.getElem_mem hin)
      obtain ⟨L, hL⟩ : ∃ L, L = (marksWays k l).take i ++ l.drop i := ⟨_, rfl⟩
      rw [← hL] at ow
      have hiL : i < L.length := by rw [hL]; simp [marksWays]; omega
      have hLl : L.length = l.length := by rw [hL]; simp [marksWays]; omega
      have hLi : L[i] = l[i] := by
        simp only [hL]
        rw [List.getElem_append_right (by simp; omega)]
        simp [marksWays, Nat.min_eq_left (Nat.le_of_lt hin)]
      obtain ⟨qb, bs, f, hib, rfl, hbl, hrow, hR, q1, q2, q3, q4, upd'⟩ := OwnS.update okWay ow hiL
      rw [hLi] at hR
      obtain ⟨hd, tc, oc, cd⟩ := laws_markGiveCellS h' bs[i] l[i] f K0 cg.ok hR t1 (by omega)
      obtain ⟨K1, k1⟩ : ∃ K, K = K0 + 2 * (l[i].length : Int) := ⟨_, rfl⟩
      rw [← k1] at tc
      have hqlt := cg.ok.lt hrow
      have hrowd : hd.hp qb = some ⟨fCe.all bs, 1, true⟩ := by rw [cd.hp _ hqlt q2]; exact hrow
      have c1 := fCe.all_cell bs (i := i) (k := 0) hib (by decide)
      simp only [show fCe.sz = 1 from rfl, Nat.mul_one, Nat.add_zero] at c1
      replace c1 : (fCe.all bs)[i]? = some bs[i] := c1
      have hw := wrap1 (i := i) (by omega)
      have he2 : (Ce.sl (Sum.inr qb) 0 l.length .own).eltAt 1 i = some (.inr qb, i) := by simp [Ce.eltAt, hin]
      have hset : bs.set i bs[i] = bs := List.set_getElem_self hib
      have hown := upd' hd bs[i] (marksCell K0 l[i].length) (by rw [hset]; exact hrowd) oc (fun x hx hne hnf => cd.hp x (ow.lt okWay cg.ok hx) hnf)
      have hend : L.set i (marksCell K0 l[i].length) = (marksWays k l).take (i + 1) ++ l.drop (i + 1) := by
        rw [hL, ← take_drop_set _ _ hin (by rw [marksWays_length]; omega), marksWays_at _ _ _ _ hin, ← k0]
      have hK : K1 = k + cntWays (l.take (i + 1)) := by rw [cntWays_take _ hin]; omega
      have n1 := hR.noLoc
      have hrow' : h'.hp qb = some ⟨fCe.all bs, 1, true⟩ := hrow
      rw [hend] at hown
      simp [claws_markGiveWayS_L0, h0, h1, h5, Ce.slen, hLl, hin, he2, elaws_markGiveWayS_laws_markGiveCellS, hrow', c1, n1, tc, hw]
      rw [hLl] at hown
      exact ⟨hK, cg.trans cd (fun _ h => h) (fun x hx => q3 x hx), hown⟩
    · rintro ⟨T, ⟨h', lc⟩⟩ ⟨h0, h1, h5, cg, ow⟩
      simp only at h0 h1 h5 cg ow
      have e1 : (marksWays k l).take l.length = marksWays k l := by
        apply List.take_of_length_le
        rw [marksWays_length]; omega
      rw [e1, List.drop_length, List.append_nil] at ow
      rw [List.take_length] at h1
      simp [claws_markGiveWayS_L0, h0, h1, h5, hcs]
      exact ⟨ow, cg⟩)
  exact ⟨h', h1, h2, h3⟩

section
variable {S : Nat → Prop} {h : Heap} {c : WishC} {w : Wish}
theorem RdWish.e0 (hr : RdWish S h c w) : c.ces[0]? = some (.str w.name) := by rw [← hr.name]; rfl
theorem RdWish.e1 (hr : RdWish S h c w) : c.ces[1]? = some (.int .i64 w.quick) := by rw [← hr.quick]; rfl
theorem RdWish.e2 (hr : RdWish S h c w) : c.ces[2]? = some (.int .i64 w.slow) := by rw [← hr.slow]; rfl
theorem RdWish.e3 (hr : RdWish S h c w) : c.ces[3]? = some (.int .i64 w.from_) := by rw [← hr.from_]; rfl
theorem RdWish.e4 (hr : RdWish S h c w) : c.ces[4]? = some (.int .i64 w.by_) := by rw [← hr.by_]; rfl
theorem RdWish.e5 (hr : RdWish S h c w) : c.ces[5]? = some (.int .i64 w.late) := by rw [← hr.late]; rfl
theorem WishC.e6 (c : WishC) : c.ces[6]? = some c.w := rfl
theorem WishC.e7 (c : WishC) : c.ces[7]? = some c.l := rfl
end

theorem laws_szGiveWish {S : Nat → Prop} (h : Heap) (c : WishC) (w : Wish) (k : Int) (hr : RdWish S h c w) (hw : SzS w.name) (hk : 0 ≤ k ∧ k ≤ 1048576) :
    ∃ r, Flaws_szGiveWish [.v (.agg c.ces), .v (.c (.int .i64 k))] h = some (.v (.c (.int .i64 r)), h) ∧ Left k r ∧ (0 ≤ r → SmallWish w) := by
  unfold Flaws_szGiveWish
  have e0 := hr.e0
  have e6 := c.e6
  have e7 := c.e7
  obtain ⟨ws, hh, hlen, hel⟩ := hr.ws
  have hls := hr.ls
  have x0 := sub_left (n := w.name.size) hk hw
  by_cases b0 : k - (w.name.size : Int) < 0
  · refine ⟨-1, runF_eq ?_, .inl rfl, by omega⟩
    simp [claws_szGiveWish, e0, x0, b0]
  obtain ⟨r1, s1, l1, m1⟩ := laws_szGiveWayS h c.w w.ways ws (k - w.name.size) hh hlen hel (by omega)
  rcases l1 with rfl | l1
  · refine ⟨-1, runF_eq ?_, .inl rfl, by omega⟩
    simp [claws_szGiveWish, e0, e6, x0, b0, hh.noLoc, elaws_szGiveWish_laws_szGiveWayS, s1]
  have n1 : ¬ r1 < 0 := by omega
  have s2 := laws_szIntS h c.l w.levels r1 hls (by omega)
  by_cases b2 : r1 < w.levels.length
  · rw [if_pos b2] at s2
    refine ⟨-1, runF_eq ?_, .inl rfl, by omega⟩
    simp [claws_szGiveWish, e0, e6, e7, x0, b0, n1, hh.noLoc, hls.noLoc, elaws_szGiveWish_laws_szGiveWayS, elaws_szGiveWish_laws_szIntS, s1, s2]
  rw [if_neg b2] at s2
  have n2 : ¬ r1 - (w.levels.length : Int) < 0 := by omega
  refine ⟨r1 - w.levels.length, runF_eq ?_, .inr (by omega), fun q => ⟨(m1 l1.1).1, (m1 l1.1).2, by omega⟩⟩
  simp [claws_szGiveWish, e0, e6, e7, x0, b0, n1, n2, hh.noLoc, hls.noLoc, elaws_szGiveWish_laws_szGiveWayS, elaws_szGiveWish_laws_szIntS, s1, s2]

theorem toWish' {S : Nat → Prop} (h : Heap) (c : WishC) (w : Wish) (ho : HOk h) (hr : RdWish S h c w) (sm : SmallWish w) :
    ∃ (c' : WishC) (h' : Heap) (fp : List Nat), Flaws_toGiveWish [.v (.agg c.ces)] h = some (.v (.agg c'.ces), h') ∧ New (fun h fp => OwnWish h c' w fp) h h' fp := by
  unfold Flaws_toGiveWish
  have e0 := hr.e0
  have e1 := hr.e1
  have e2 := hr.e2
  have e3 := hr.e3
  have e4 := hr.e4
  have e5 := hr.e5
  have e6 := c.e6
  have e7 := c.e7
  obtain ⟨ws, hh, hlen, hel⟩ := hr.ws
  have hls := hr.ls
  obtain ⟨c1, h1, f1, t1, o1, fr1, ge1⟩ := laws_toGiveWayS h c.w w.ways ws ho hh hlen hel sm.ws sm.c
  obtain ⟨c2, h2, f2, t2, m2⟩ := toInts' h1 c.l w.levels fr1.ok (hls.keep ho fr1) sm.l
  have o1' := o1.chg okWay fr1.ok (Fr.chg (fp := []) m2.fr) (by simp)
  refine ⟨⟨w.name, w.quick, w.slow, w.from_, w.by_, w.late, c1, c2⟩, h2, f1 ++ f2, runF_eq ?_, ⟨⟨rfl, rfl, rfl, rfl, rfl, rfl, f1, f2, o1', m2.own, rfl, ?_⟩, fr1.trans m2.fr, fun x hx => ?_⟩⟩
  · simp [claws_toGiveWish, e0, e1, e2, e3, e4, e5, e6, e7, hh.noLoc, hls.noLoc, m2.own.noLoc, o1.noLoc, elaws_toGiveWish_laws_toGiveWayS, elaws_toGiveWish_laws_toIntS, t1, t2]
    rfl
  · rw [List.nodup_append]
    refine ⟨o1.nodup, m2.own.nodup, fun x hx y hy => ?_⟩
    have q1 := o1.lt okWay fr1.ok hx
    have q2 := m2.ge y hy
    omega
  · rw [List.mem_append] at hx
    rcases hx with hx | hx
    · exact ge1 x hx
    · exact Nat.le_trans fr1.nx (m2.ge x hx)

theorem laws_eqGiveWish {S S' : Nat → Prop} (h : Heap) (c c' : WishC) (w w' : Wish) (hr : RdWish S h c w) (hr' : RdWish S' h c' w') :
    ∃ r, Flaws_eqGiveWish [.v (.agg c.ces), .v (.agg c'.ces)] h = some (.v (.c (.bool r)), h) ∧ (r = true ↔ w = w') := by
  unfold Flaws_eqGiveWish
  have e0 := hr.e0
  have e1 := hr.e1
  have e2 := hr.e2
  have e3 := hr.e3
  have e4 := hr.e4
  have e5 := hr.e5
  have e6 := c.e6
  have e7 := c.e7
  have d0 := hr'.e0
  have d1 := hr'.e1
  have d2 := hr'.e2
  have d3 := hr'.e3
  have d4 := hr'.e4
  have d5 := hr'.e5
  have d6 := c'.e6
  have d7 := c'.e7
  obtain ⟨ws, hh, hlen, hel⟩ := hr.ws
  have hls := hr.ls
  obtain ⟨ws', hh', hlen', hel'⟩ := hr'.ws
  have hls' := hr'.ls
  obtain ⟨r1, x1, i1⟩ := laws_eqGiveWayS h c.w c'.w _ _ _ _ hh hlen hel hh' hlen' hel'
  obtain ⟨r2, x2, i2⟩ := laws_eqIntS h c.l c'.l _ _ hls hls'
  have hiff : (decide (w.name = w'.name) && (decide (w.quick = w'.quick) && (decide (w.slow = w'.slow) && (decide (w.from_ = w'.from_) && (decide (w.by_ = w'.by_) && (decide (w.late = w'.late) && (r1 && r2))))))) = true ↔ w = w' := by
    cases w; cases w'
    simp [i1, i2]
  refine ⟨_, runF_eq ?_, hiff⟩
  have nl1 := hh.noLoc
  have nl2 := hh'.noLoc
  have nl3 := hls.noLoc
  have nl4 := hls'.noLoc
  have F : ∀ (P : Prop) [Decidable P], ¬ P → decide P = false := fun P _ h => by simp [h]
  by_cases b0 : w.name = w'.name
  rotate_left
  · simp [claws_eqGiveWish, e0, d0, bytes_beq, b0]
  by_cases b1 : w.quick = w'.quick
  rotate_left
  · simp [claws_eqGiveWish, e0, d0, e1, d1, bytes_beq, b0, b1]
  by_cases b2 : w.slow = w'.slow
  rotate_left
  · simp [claws_eqGiveWish, e0, d0, e1, d1, e2, d2, bytes_beq, b0, b1, b2]
  by_cases b3 : w.from_ = w'.from_
  rotate_left
  · simp [claws_eqGiveWish, e0, d0, e1, d1, e2, d2, e3, d3, bytes_beq, b0, b1, b2, b3]
  by_cases b4 : w.by_ = w'.by_
  rotate_left
  · simp [claws_eqGiveWish, e0, d0, e1, d1, e2, d2, e3, d3, e4, d4, bytes_beq, b0, b1, b2, b3, b4]
  by_cases b5 : w.late = w'.late
  rotate_left
  · simp [claws_eqGiveWish, e0, d0, e1, d1, e2, d2, e3, d3, e4, d4, e5, d5, bytes_beq, b0, b1, b2, b3, b4, b5]
  cases r1 <;> cases r2 <;> simp [claws_eqGiveWish, e0, d0, e1, d1, e2, d2, e3, d3, e4, d4, e5, d5, e6, d6, e7, d7, nl1, nl2, nl3, nl4, elaws_eqGiveWish_laws_eqGiveWayS, elaws_eqGiveWish_laws_eqIntS, x1, x2, bytes_beq, b0, b1, b2, b3, b4, b5]

def marksWish (k : Int) (w : Wish) : Wish := { w with ways := marksWays k w.ways, levels := marksInt (k + cntWays w.ways) w.levels.length }
def cntWish (w : Wish) : Int := cntWays w.ways + (w.levels.length : Int)
theorem cntWish_le {w : Wish} (sm : SmallWish w) : 0 ≤ cntWish w ∧ cntWish w ≤ 1099511627776 * 16 := by
  have h1 := cntWays_le w.ways sm.c
  have h2 := sm.ws
  have h3 := sm.l
  unfold cntWish
  omega
theorem laws_markGiveWish (h : Heap) (c : WishC) (w : Wish) (fp : List Nat) (k : Int) (ho : HOk h) (hc : OwnWish h c w fp) (sm : SmallWish w) (hk : 0 ≤ k ∧ k ≤ 100000000) :
    ∃ h', Flaws_markGiveWish [.v (.agg c.ces), .v (.c (.int .i64 k))] h = some (.v (.c (.int .i64 (k + cntWish w))), h') ∧ OwnWish h' c (marksWish k w) fp ∧ Chg fp h h' := by
  unfold Flaws_markGiveWish
  obtain ⟨a0, a1, a2, a3, a4, a5, f1, f2, o1, o2, rfl, nd⟩ := hc
  have nd' := List.nodup_append.1 nd
  have hcw := cntWays_le w.ways sm.c
  have hws := sm.ws
  obtain ⟨h1, t1, p1, c1⟩ := laws_markGiveWayS h c.w w.ways f1 k ho o1 sm.ws sm.c (by omega)
  have o2' := o2.chg ho c1 (fun x hx hx' => nd'.2.2 x hx' x hx rfl)
  obtain ⟨h2, t2, p2, c2⟩ := laws_markIntS h1 c.l w.levels f2 (k + cntWays w.ways) c1.ok o2' sm.l (by omega)
  have p1' := p1.chg okWay c1.ok c2 (fun x hx hx' => nd'.2.2 x hx x hx' rfl)
  have e6 := c.e6
  have e7 := c.e7
  refine ⟨h2, runF_eq ?_, ⟨a0, a1, a2, a3, a4, a5, f1, f2, p1', p2, rfl, nd⟩, c1.trans c2 (fun x hx => by simp [hx]) (fun x hx => by simp [hx])⟩
  simp [claws_markGiveWish, e6, e7, o1.noLoc, o2.noLoc, elaws_markGiveWish_laws_markGiveWayS, elaws_markGiveWish_laws_markIntS, t1, t2]
  unfold cntWish
  omega
end Go.Abs

/-
  A wish is in order.
-/

namespace Go.Abs
set_option linter.unusedSimpArgs false
set_option linter.unusedVariables false
attribute [local simp] AW_skip AW_exit AW_ret AW_seq AW_block AW_cond CW_ite AW_reg AW_regD AW_regDc RD_nil RD_cons keyEq hasP hasH hasL chkL chkH recK recH inRange lightKey BookC.len BookC.take WishC.len WishC.take RW_nil RW_cons RW_guard GW_t GW_f GW_gt GW_gf GW_tup GY_some GY_tt GY_ff gd_t gd_f pk_t pk_f pk_and pk_or pk_andc pk_orc pk_bool gd_gd SW_some ThenQ_normal ThenQ_exit ThenQ_ret BlockQ_normal BlockQ_exit BlockQ_ret kill_nil kill_cons killT_at killL_at upo_some upo_none ev_t ev_k FinQ_ret FinQ_normal upd_eq upd_ne argsT_zero argsT_succ aop.eq_1 aop_pick aop.eq_3 aop.eq_4 aop.eq_5 aop.eq_6 aop.eq_7 aop.eq_8 aop.eq_9 aop.eq_10 aop.eq_11 aop.eq_12 aop.eq_13 aop.eq_14 aop.eq_15 aop.eq_16 aop.eq_17 aop.eq_18 aop.eq_19 aop.eq_20 aop.eq_21 aop_slice_hi aop_slice_lo aop.eq_23 aop.eq_24 aop.eq_26 aop.eq_27 aop.eq_28 aop.eq_29 aop.eq_31 aop.eq_32 aop_maxs2 aop_mins2 aop_mins3 aop_len aop_iaddr Av.bool? Av.ptr? Av.int? Av.int64? Av.str? Av.agg? ressA resA resOf noLoc_int noLoc_bool noLoc_str noLoc_nils noLoc_nilp noLoc_ptrl noLoc_ptrr noLoc_sll noLoc_slr noLoc_fn noLoc_tc noLoc_tagg noLoc_av noLoc_atup ce_c tv_v cells_c cells_agg noLocs keyLoc evs callA St.set St.get unAv binCe killV_int killV_bool killV_str killV_nils killV_nilp killV_agg killV_no killV_tup killV_ptrl killV_ptrr killV_sll killV_slr killV_fn killV_noLoc fillA repl ptrs List.map
attribute [local congr] GY_congr

def okC (c : Cell) : Bool := inB c.x 0 15 && inB c.y 0 15
def stepC (p c : Cell) : Bool := inB (wrap64 (c.x - p.x)) (-1) 1 && inB (wrap64 (c.y - p.y)) (-1) 1 && !(eqCell c p)
def wayStep (t : List Cell) (i : Nat) : Bool := okC (t.getD i default) && (i == 0 || stepC (t.getD (i - 1) default) (t.getD i default))
def wayOkB (fs : List Fld) (t : List Cell) : Bool := decide (2 ≤ t.length) && decide (t.length ≤ 40) && allN t.length (wayStep t) && isFieldB fs (t.getD 0 default).x (t.getD 0 default).y && isFieldB fs (t.getD (t.length - 1) default).x (t.getD (t.length - 1) default).y
theorem eqCes_cell (a b : Cell) : eqCes [0, 0] [.int .i64 a.x, .int .i64 a.y] [.int .i64 b.x, .int .i64 b.y] = some (eqCell a b) := by
  by_cases h1 : a.x = b.x <;> by_cases h2 : a.y = b.y <;> simp [eqCes, eqCell, h1, h2]
theorem inB_len2 {n : Nat} : inB (n : Int) 2 40 = (decide (2 ≤ n) && decide (n ≤ 40)) := by
  unfold inB
  congr 1 <;> (rw [Bool.eq_iff_iff]; simp; try omega)

theorem spec_l4Field {S : Nat → Prop} (h : Heap) (c : Ce) (l : List Fld) (b : Cell) (hc : RdF fField S h c l) :
    Fspec_l4Field [.v (.c c), .v (.agg [.int .i64 b.x, .int .i64 b.y])] h = some (.v (.c (.bool (isFieldB l b.x b.y))), h) := by
  unfold Fspec_l4Field
  have hl := hc.le
  refine runF_eq ?_
  simp [cspec_l4Field, hc.noLoc]
  refine AW_for1 l.length (fun i => (l.getD i default).x == b.x && (l.getD i default).y == b.y) (fun i x => x.1 0 = .v (.c c) ∧ x.1 3 = .v (.c (.ptr (.inl 3) 0)) ∧ x.2.lc 3 = some ⟨[.int .i64 b.x, .int .i64 b.y], 2, true⟩ ∧ x.1 5 = .v (.c (.int .i64 i)) ∧ x.2.h = h) (by simp [hc.noLoc]) ?_ ?_
  · rintro i ⟨T, ⟨h', lc⟩⟩ hin _ ⟨h0, h3, hl3, h5, hs⟩
    simp only at h0 h3 hl3 h5 hs
    subst hs
    obtain ⟨eb, ep, er, e1, _, e2, e3, e4, e5, e6, e7⟩ := hc.field hin
    have hw := wrap1 (i := i) (by omega)
    have fin : l[i].x = b.x → l[i].y = b.y → isFieldB l b.x b.y = true := fun k1 k2 => any_of hin (by simp [k1, k2])
    simp +contextual [cspec_l4Field_L0, h0, h3, hl3, h5, hc.slen, hc.noLoc, hin, e1, e2, e3, e5, e6, e7, hw, fin]
  · rintro ⟨T, ⟨h', lc⟩⟩ hno ⟨h0, h3, hl3, h5, hs⟩
    simp only at h0 h3 hl3 h5 hs
    subst hs
    have : isFieldB l b.x b.y = false := any_no (fun j hj => by simpa [hj] using hno j hj)
    simp [cspec_l4Field_L0, h0, h5, hc.slen, this]

set_option maxHeartbeats 4000000 in
theorem spec_l4WayOk {S S' : Nat → Prop} (h : Heap) (cf c : Ce) (fs : List Fld) (l : List Cell) (hf : RdF fField S h cf fs) (hc : RdF fCell S' h c l) :
    Fspec_l4WayOk [.v (.c cf), .v (.agg [c])] h = some (.v (.c (.bool (wayOkB fs l))), h) := by
  unfold Fspec_l4WayOk
  have hl := hc.le
  have C := fun b => spec_l4Field h cf fs b hf
  refine runF_eq ?_
  by_cases h1 : 2 ≤ l.length ∧ l.length ≤ 40
  rotate_left
  · have e0 : inB (l.length : Int) 2 40 = false := by
      rw [inB_len2]
      by_cases k : 2 ≤ l.length
      · simp [show ¬ l.length ≤ 40 by omega]
      · simp [k]
    have e1 : wayOkB fs l = false := by
      rw [inB_len2] at e0
      simp [wayOkB, e0]
    simp [cspec_l4WayOk, hc.slen, hc.noLoc, hf.noLoc, espec_l4WayOk_spec_l1In, spec_l1In, e0, e1]
  have e0 : inB (l.length : Int) 2 40 = true := by rw [inB_len2]; simp [h1]
  simp [cspec_l4WayOk, hc.slen, hc.noLoc, hf.noLoc, espec_l4WayOk_spec_l1In, spec_l1In, e0]
  refine AW_for1 l.length (fun i => !wayStep l i) (fun i x => x.1 0 = .v (.c cf) ∧ x.1 3 = .v (.c (.ptr (.inl 3) 0)) ∧ x.1 5 = .v (.c (.int .i64 l.length)) ∧ x.1 6 = .v (.c (.int .i64 i)) ∧ x.2.lc 3 = some ⟨[c], 1, true⟩ ∧ x.2.h = h) (by simp [hf.noLoc]) ?_ ?_
  · rintro i ⟨T, ⟨h', lc⟩⟩ hin _ ⟨h0, h3, h5, h6, hl3, hs⟩
    simp only at h0 h3 h5 h6 hl3 hs
    subst hs
    obtain ⟨eb, ep, er, e1, _, e2, e3, e4, e5, e6⟩ := hc.cell hin
    have hw := wrap1 (i := i) (by omega)
    have fin : wayStep l i = false → wayOkB fs l = false := fun k => by simp [wayOkB, allN_no hin k]
    rcases i with _ | k
    · simp only [wayStep] at fin ⊢
      simp at e1 hw
      simp [hin] at fin
      cases k1 : inB l[0].x 0 15 <;> cases k2 : inB l[0].y 0 15 <;> simp [okC, k1, k2] at fin <;>
        simp [cspec_l4WayOk_L0, okC, h0, h3, h5, h6, hl3, hc.noLoc, hf.noLoc, hin, e1, e2, e3, e4, espec_l4WayOk_spec_l1In, spec_l1In, hw, k1, k2, fin]
    · obtain ⟨gb, gp, gr, g1, _, g2, g3, g4, g5, g6⟩ := hc.cell (show k < l.length by omega)
      have hk0 := wrap_nat (n := k) (by omega)
      have hkl : k < l.length := by omega
      simp only [wayStep] at fin ⊢
      simp at e1 hw
      simp [hin, hkl] at fin
      have hin' : (k : Int) + 1 < l.length := by omega
      cases k1 : inB l[k + 1].x 0 15
      · simp [okC, k1] at fin
        simp [cspec_l4WayOk_L0, okC, h0, h3, h5, h6, hl3, hc.noLoc, hf.noLoc, hin, hin', e1, e2, e3, e4, espec_l4WayOk_spec_l1In, spec_l1In, hw, k1, fin]
      cases k2 : inB l[k + 1].y 0 15
      · simp [okC, k1, k2] at fin
        simp [cspec_l4WayOk_L0, okC, h0, h3, h5, h6, hl3, hc.noLoc, hf.noLoc, hin, hin', e1, e2, e3, e4, espec_l4WayOk_spec_l1In, spec_l1In, hw, k1, k2, fin]
      cases k3 : inB (IntKind.i64.wrap (l[k + 1].x - l[k].x)) (-1) 1 <;> cases k4 : inB (IntKind.i64.wrap (l[k + 1].y - l[k].y)) (-1) 1 <;> cases k5 : eqCell l[k + 1] l[k] <;> simp [okC, stepC, wrap64, k1, k2, k3, k4, k5] at fin <;>
        simp [cspec_l4WayOk_L0, okC, stepC, wrap64, h0, h3, h5, h6, hl3, hc.noLoc, hf.noLoc, hin, hin', hkl, e1, e2, e3, e4, e5, e6, g1, g2, g3, g4, g5, g6, hk0, espec_l4WayOk_spec_l1In, spec_l1In, hw, k1, k2, k3, k4, k5, fin, eqCes_cell]
  · rintro ⟨T, ⟨h', lc⟩⟩ hno ⟨h0, h3, h5, h6, hl3, hs⟩
    simp only at h0 h3 h5 h6 hl3 hs
    subst hs
    obtain ⟨k, hk⟩ : ∃ k, l.length = k + 1 := ⟨l.length - 1, by omega⟩
    have hkl : k < l.length := by omega
    have h0l : 0 < l.length := by omega
    obtain ⟨eb, ep, er, e1, _, e2, e3, e4, _⟩ := hc.cell hkl
    obtain ⟨gb, gp, gr, g1, _, g2, g3, g4, _⟩ := hc.cell h0l
    have hk0 := wrap_nat (n := k) (by omega)
    have fin : wayOkB fs l = (isFieldB fs l[0].x l[0].y && isFieldB fs l[k].x l[k].y) := by
      have : allN l.length (wayStep l) = true := allN_of fun j hj => by simpa using hno j hj
      have e : l.getD (l.length - 1) default = l[k] := by simp [hk, hkl]
      have e' : l.getD 0 default = l[0] := by simp [h0l]
      unfold wayOkB
      rw [this, e, e']
      simp [h1]
    simp at g1
    cases b1 : isFieldB fs l[0].x l[0].y <;> simp [cspec_l4WayOk_L0, h0, h3, h5, h6, hl3, hc.slen, hc.noLoc, hf.noLoc, hk, e1, e2, e3, e4, g1, g2, g3, g4, espec_l4WayOk_spec_l4Field, C, hk0, fin, b1]

set_option maxHeartbeats 4000000 in
theorem impl_wayOk {S S' : Nat → Prop} (h : Heap) (cf c : Ce) (fs : List Fld) (l : List Cell) (hf : RdF fField S h cf fs) (hc : RdF fCell S' h c l) :
    Fimpl_wayOk [.v (.c cf), .v (.agg [c])] h = some (.v (.c (.bool (wayOkB fs l))), h) := by
  unfold Fimpl_wayOk
  have hl := hc.le
  have C := fun x y => impl_isField h cf fs x y hf
  refine runF_eq ?_
  by_cases h1 : 2 ≤ l.length ∧ l.length ≤ 40
  rotate_left
  · have e0 : inB (l.length : Int) 2 40 = false := by
      rw [inB_len2]
      by_cases k : 2 ≤ l.length
      · simp [show ¬ l.length ≤ 40 by omega]
      · simp [k]
    have e1 : wayOkB fs l = false := by
      rw [inB_len2] at e0
      simp [wayOkB, e0]
    simp [cimpl_wayOk, hc.slen, hc.noLoc, hf.noLoc, eimpl_wayOk_impl_in, impl_in, e0, e1]
  have e0 : inB (l.length : Int) 2 40 = true := by rw [inB_len2]; simp [h1]
  simp [cimpl_wayOk, hc.slen, hc.noLoc, hf.noLoc, eimpl_wayOk_impl_in, impl_in, e0]
  refine AW_for1 l.length (fun i => !wayStep l i) (fun i x => x.1 0 = .v (.c cf) ∧ x.1 3 = .v (.c (.ptr (.inl 3) 0)) ∧ x.1 16 = .v (.c c) ∧ x.1 17 = .v (.c (.int .i64 l.length)) ∧ x.1 18 = .v (.c (.int .i64 i)) ∧ x.2.lc 3 = some ⟨[c], 1, true⟩ ∧ x.2.h = h) (by simp [hf.noLoc, hc.noLoc]) ?_ ?_
  · rintro i ⟨T, ⟨h', lc⟩⟩ hin _ ⟨h0, h3, h16, h17, h18, hl3, hs⟩
    simp only at h0 h3 h16 h17 h18 hl3 hs
    subst hs
    obtain ⟨eb, ep, er, e1, _, e2, e3, e4, e5, e6⟩ := hc.cell hin
    have hw := wrap1 (i := i) (by omega)
    have fin : wayStep l i = false → wayOkB fs l = false := fun k => by simp [wayOkB, allN_no hin k]
    rcases i with _ | k
    · simp only [wayStep] at fin ⊢
      simp at e1 hw
      simp [hin] at fin
      cases k1 : inB l[0].x 0 15 <;> cases k2 : inB l[0].y 0 15 <;> simp [okC, k1, k2] at fin <;>
        simp [cimpl_wayOk_L0, okC, h0, h3, h16, h17, h18, hl3, hc.noLoc, hf.noLoc, hin, e1, e2, e3, e4, eimpl_wayOk_impl_in, impl_in, hw, k1, k2, fin]
    · obtain ⟨gb, gp, gr, g1, _, g2, g3, g4, g5, g6⟩ := hc.cell (show k < l.length by omega)
      have hk0 := wrap_nat (n := k) (by omega)
      have hkl : k < l.length := by omega
      simp only [wayStep] at fin ⊢
      simp at e1 hw
      simp [hin, hkl] at fin
      have hin' : (k : Int) + 1 < l.length := by omega
      cases k1 : inB l[k + 1].x 0 15
      · simp [okC, k1] at fin
        simp [cimpl_wayOk_L0, okC, h0, h3, h16, h17, h18, hl3, hc.noLoc, hf.noLoc, hin, hin', e1, e2, e3, e4, eimpl_wayOk_impl_in, impl_in, hw, k1, fin]
      cases k2 : inB l[k + 1].y 0 15
      · simp [okC, k1, k2] at fin
        simp [cimpl_wayOk_L0, okC, h0, h3, h16, h17, h18, hl3, hc.noLoc, hf.noLoc, hin, hin', e1, e2, e3, e4, eimpl_wayOk_impl_in, impl_in, hw, k1, k2, fin]
      have q := eqCell_iff l[k + 1] l[k]
      have hq : eqCes [0, 0] [.int .i64 l[k].x, .int .i64 l[k].y] [.int .i64 l[k + 1].x, .int .i64 l[k + 1].y] = some (eqCell l[k + 1] l[k]) := by
        rw [eqCes_cell, show eqCell l[k] l[k + 1] = eqCell l[k + 1] l[k] by rw [Bool.eq_iff_iff, eqCell_iff, eqCell_iff]; exact eq_comm]
      cases k3 : inB (IntKind.i64.wrap (l[k + 1].x - l[k].x)) (-1) 1 <;> cases k4 : inB (IntKind.i64.wrap (l[k + 1].y - l[k].y)) (-1) 1 <;> cases k5 : eqCell l[k + 1] l[k] <;> rw [k5] at hq <;> simp [okC, stepC, wrap64, k1, k2, k3, k4, k5] at fin <;>
        simp [cimpl_wayOk_L0, okC, stepC, wrap64, h0, h3, h16, h17, h18, hl3, hc.noLoc, hf.noLoc, hin, hin', hkl, e1, e2, e3, e4, e5, e6, g1, g2, g3, g4, g5, g6, hk0, eimpl_wayOk_impl_in, impl_in, hw, k1, k2, k3, k4, k5, fin, hq]
  · rintro ⟨T, ⟨h', lc⟩⟩ hno ⟨h0, h3, h16, h17, h18, hl3, hs⟩
    simp only at h0 h3 h16 h17 h18 hl3 hs
    subst hs
    obtain ⟨k, hk⟩ : ∃ k, l.length = k + 1 := ⟨l.length - 1, by omega⟩
    have hkl : k < l.length := by omega
    have h0l : 0 < l.length := by omega
    obtain ⟨eb, ep, er, e1, _, e2, e3, e4, e5, e6⟩ := hc.cell hkl
    obtain ⟨gb, gp, gr, g1, _, g2, g3, g4, g5, g6⟩ := hc.cell h0l
    have hk0 := wrap_nat (n := k) (by omega)
    have fin : wayOkB fs l = (isFieldB fs l[0].x l[0].y && isFieldB fs l[k].x l[k].y) := by
      have : allN l.length (wayStep l) = true := allN_of fun j hj => by simpa using hno j hj
      have e : l.getD (l.length - 1) default = l[k] := by simp [hk, hkl]
      have e' : l.getD 0 default = l[0] := by simp [h0l]
      unfold wayOkB
      rw [this, e, e']
      simp [h1]
    simp at g1
    cases b1 : isFieldB fs l[0].x l[0].y <;> simp [cimpl_wayOk_L0, h0, h3, h16, h17, h18, hl3, hc.slen, hc.noLoc, hf.noLoc, hk, e1, e2, e3, e4, g1, g2, g3, g4, eimpl_wayOk_impl_isField, C, hk0, fin, b1]
end Go.Abs

/-
  A wish is in order, whole.
-/

namespace Go.Abs
set_option linter.unusedSimpArgs false
set_option linter.unusedVariables false
attribute [local simp] AW_skip AW_exit AW_ret AW_seq AW_block AW_cond CW_ite AW_reg AW_regD AW_regDc RD_nil RD_cons keyEq hasP hasH hasL chkL chkH recK recH inRange lightKey BookC.len BookC.take WishC.len WishC.take RW_nil RW_cons RW_guard GW_t GW_f GW_gt GW_gf GW_tup GY_some GY_tt GY_ff gd_t gd_f pk_t pk_f pk_and pk_or pk_andc pk_orc pk_bool gd_gd SW_some ThenQ_normal ThenQ_exit ThenQ_ret BlockQ_normal BlockQ_exit BlockQ_ret kill_nil kill_cons killT_at killL_at upo_some upo_none ev_t ev_k FinQ_ret FinQ_normal upd_eq upd_ne argsT_zero argsT_succ aop.eq_1 aop_pick aop.eq_3 aop.eq_4 aop.eq_5 aop.eq_6 aop.eq_7 aop.eq_8 aop.eq_9 aop.eq_10 aop.eq_11 aop.eq_12 aop.eq_13 aop.eq_14 aop.eq_15 aop.eq_16 aop.eq_17 aop.eq_18 aop.eq_19 aop.eq_20 aop.eq_21 aop_slice_hi aop_slice_lo aop.eq_23 aop.eq_24 aop.eq_26 aop.eq_27 aop.eq_28 aop.eq_29 aop.eq_31 aop.eq_32 aop_maxs2 aop_mins2 aop_mins3 aop_len aop_iaddr Av.bool? Av.ptr? Av.int? Av.int64? Av.str? Av.agg? ressA resA resOf noLoc_int noLoc_bool noLoc_str noLoc_nils noLoc_nilp noLoc_ptrl noLoc_ptrr noLoc_sll noLoc_slr noLoc_fn noLoc_tc noLoc_tagg noLoc_av noLoc_atup ce_c tv_v cells_c cells_agg noLocs keyLoc evs callA St.set St.get unAv binCe killV_int killV_bool killV_str killV_nils killV_nilp killV_agg killV_no killV_tup killV_ptrl killV_ptrr killV_sll killV_slr killV_fn killV_noLoc fillA repl ptrs List.map
attribute [local congr] GY_congr

def wishHead (fs : List Fld) (w : Wish) : Bool := fieldsOkB fs && nameOkB w.name && inB w.quick 1 w.slow && decide (w.slow ≤ 50) && inB w.from_ 0 w.by_ && decide (w.by_ ≤ 10000) && inB w.late 0 300 && inB (w.ways.length : Int) 1 3 && inB (w.levels.length : Int) 1 6
def wishOkB (fs : List Fld) (w : Wish) : Bool := wishHead fs w && w.ways.all (wayOkB fs) && w.levels.all (fun n => inB n 1 6)
theorem inB_t {n lo hi : Int} (h1 : lo ≤ n) (h2 : n ≤ hi) : inB n lo hi = true := by simp [inB, h1, h2]

set_option maxHeartbeats 4000000 in
theorem spec_GiveWishOk {S S' : Nat → Prop} (h : Heap) (cf : Ce) (fs : List Fld) (c : WishC) (w : Wish) (hf : RdF fField S h cf fs) (hwf : FieldsWf fs) (hr : RdWish S' h c w) (hw : SzS w.name) :
    Fspec_GiveWishOk [.v (.c cf), .v (.agg c.ces)] h = some (.v (.c (.bool (wishOkB fs w))), h) := by
  unfold Fspec_GiveWishOk
  have e0 := hr.e0
  have e1 := hr.e1
  have e2 := hr.e2
  have e3 := hr.e3
  have e4 := hr.e4
  have e5 := hr.e5
  have e6 := c.e6
  have e7 := c.e7
  obtain ⟨ws, hh, hlen, hel⟩ := hr.ws
  have hls := hr.ls
  have hfl := hf.noLoc
  have nl1 := hh.noLoc
  have nl2 := hls.noLoc
  have sl1 := hh.slen
  have sl2 := hls.slen
  have x1 := spec_l2FieldsOk h cf fs hf hwf
  have x2 := spec_l1NameOk h w.name hw
  have hl1 := hh.le
  have hl2 := hls.le
  refine runF_eq ?_
  cases c1 : fieldsOkB fs
  · rw [c1] at x1
    simp [cspec_GiveWishOk, hfl, espec_GiveWishOk_spec_l2FieldsOk, espec_GiveWishOk_spec_l1NameOk, espec_GiveWishOk_spec_l1In, spec_l1In, e0, e1, e2, e3, e4, e5, e6, e7, nl1, nl2, sl1, sl2, hlen, x1, x2, c1, wishOkB, wishHead]
  rw [c1] at x1
  cases c2 : nameOkB w.name
  · rw [c2] at x2
    simp [cspec_GiveWishOk, hfl, espec_GiveWishOk_spec_l2FieldsOk, espec_GiveWishOk_spec_l1NameOk, espec_GiveWishOk_spec_l1In, spec_l1In, e0, e1, e2, e3, e4, e5, e6, e7, nl1, nl2, sl1, sl2, hlen, x1, x2, c1, c2, wishOkB, wishHead]
  rw [c2] at x2
  cases c3 : inB w.quick 1 w.slow
  · simp [cspec_GiveWishOk, hfl, espec_GiveWishOk_spec_l2FieldsOk, espec_GiveWishOk_spec_l1NameOk, espec_GiveWishOk_spec_l1In, spec_l1In, e0, e1, e2, e3, e4, e5, e6, e7, nl1, nl2, sl1, sl2, hlen, x1, x2, c1, c2, c3, wishOkB, wishHead]
  by_cases c5 : 50 < w.slow
  · have c5' : ¬ w.slow ≤ 50 := by omega
    simp [cspec_GiveWishOk, hfl, espec_GiveWishOk_spec_l2FieldsOk, espec_GiveWishOk_spec_l1NameOk, espec_GiveWishOk_spec_l1In, spec_l1In, e0, e1, e2, e3, e4, e5, e6, e7, nl1, nl2, sl1, sl2, hlen, x1, x2, c1, c2, c3, c5, c5', wishOkB, wishHead]
  have c5' : w.slow ≤ 50 := by omega
  cases c6 : inB w.from_ 0 w.by_
  · simp [cspec_GiveWishOk, hfl, espec_GiveWishOk_spec_l2FieldsOk, espec_GiveWishOk_spec_l1NameOk, espec_GiveWishOk_spec_l1In, spec_l1In, e0, e1, e2, e3, e4, e5, e6, e7, nl1, nl2, sl1, sl2, hlen, x1, x2, c1, c2, c3, c5, c6, wishOkB, wishHead]
  by_cases c8 : 10000 < w.by_
  · have c8' : ¬ w.by_ ≤ 10000 := by omega
    simp [cspec_GiveWishOk, hfl, espec_GiveWishOk_spec_l2FieldsOk, espec_GiveWishOk_spec_l1NameOk, espec_GiveWishOk_spec_l1In, spec_l1In, e0, e1, e2, e3, e4, e5, e6, e7, nl1, nl2, sl1, sl2, hlen, x1, x2, c1, c2, c3, c5, c6, c8, c8', wishOkB, wishHead]
  have c8' : w.by_ ≤ 10000 := by omega
  cases c9 : inB w.late 0 300
  · simp [cspec_GiveWishOk, hfl, espec_GiveWishOk_spec_l2FieldsOk, espec_GiveWishOk_spec_l1NameOk, espec_GiveWishOk_spec_l1In, spec_l1In, e0, e1, e2, e3, e4, e5, e6, e7, nl1, nl2, sl1, sl2, hlen, x1, x2, c1, c2, c3, c5, c6, c8, c9, wishOkB, wishHead]
  cases c10 : inB (w.ways.length : Int) 1 3
  · simp [cspec_GiveWishOk, hfl, espec_GiveWishOk_spec_l2FieldsOk, espec_GiveWishOk_spec_l1NameOk, espec_GiveWishOk_spec_l1In, spec_l1In, e0, e1, e2, e3, e4, e5, e6, e7, nl1, nl2, sl1, sl2, hlen, x1, x2, c1, c2, c3, c5, c6, c8, c9, c10, wishOkB, wishHead]
  cases c11 : inB (w.levels.length : Int) 1 6
  · simp [cspec_GiveWishOk, hfl, espec_GiveWishOk_spec_l2FieldsOk, espec_GiveWishOk_spec_l1NameOk, espec_GiveWishOk_spec_l1In, spec_l1In, e0, e1, e2, e3, e4, e5, e6, e7, nl1, nl2, sl1, sl2, hlen, x1, x2, c1, c2, c3, c5, c6, c8, c9, c10, c11, wishOkB, wishHead]
  have hhd : wishHead fs w = true := by simp [wishHead, c1, c2, c3, c5', c6, c8', c9, c10, c11]
  simp [cspec_GiveWishOk, hfl, espec_GiveWishOk_spec_l2FieldsOk, espec_GiveWishOk_spec_l1NameOk, espec_GiveWishOk_spec_l1In, spec_l1In, e0, e1, e2, e3, e4, e5, e6, e7, nl1, nl2, sl1, sl2, hlen, x1, x2, c1, c2, c3, c5, c6, c8, c9, c10, c11]
  refine AW_for1 ws.length (fun i => !wayOkB fs (w.ways.getD i default)) (fun i x => x.1 0 = .v (.c cf) ∧ x.1 3 = .v (.c (.ptr (.inl 3) 0)) ∧ x.1 5 = .v (.c (.int .i64 i)) ∧ x.2.lc 3 = some ⟨c.ces, 8, true⟩ ∧ x.2.h = h) (by simp [hlen, hfl, nl1]) ?_ ?_
  · rintro i ⟨T, ⟨h', lc⟩⟩ hin _ ⟨h0, h3, h5, hl3, hs⟩
    simp only at h0 h3 h5 hl3 hs
    subst hs
    obtain ⟨eb, ep, er, g1, _, g2, g3, g5, g4⟩ := hh.ce1 hin
    have hin' : i < w.ways.length := by omega
    have hwr := wrap1 (i := i) (by omega)
    have hri := hel i hin hin'
    have y := spec_l4WayOk h' cf ws[i] fs _ hf hri
    have fin : wayOkB fs w.ways[i] = false → wishOkB fs w = false := fun k => by
      have : w.ways.all (wayOkB fs) = false := all_no hin' k
      simp [wishOkB, this]
    cases d1 : wayOkB fs w.ways[i] <;> rw [d1] at y <;> simp [d1] at fin <;>
      simp [cspec_GiveWishOk_L0, h0, h3, h5, hl3, e6, nl1, sl1, hfl, hri.noLoc, hin, hin', g1, g2, g3, g4, g5, espec_GiveWishOk_spec_l4WayOk, y, hwr, d1, fin, hlen]
  · rintro ⟨T, ⟨h', lc⟩⟩ hno ⟨h0, h3, h5, hl3, hs⟩
    simp only at h0 h3 h5 hl3 hs
    subst hs
    have hall : w.ways.all (wayOkB fs) = true := all_of fun j hj => by
      have := hno j (by omega)
      simpa [hj] using this
    simp [cspec_GiveWishOk_L0, h0, h3, h5, hl3, e6, e7, nl1, nl2, sl1, sl2, hlen]
    refine AW_for1 w.levels.length (fun i => !inB (w.levels.getD i 0) 1 6) (fun i x => x.1 3 = .v (.c (.ptr (.inl 3) 0)) ∧ x.1 6 = .v (.c (.int .i64 i)) ∧ x.2.lc 3 = some ⟨c.ces, 8, true⟩ ∧ x.2.h = h') (by simp [h0, h3, h5, hl3, nl2]) ?_ ?_
    · rintro i ⟨T', ⟨h'', lc'⟩⟩ hin _ ⟨g3, g6, gl3, hs⟩
      simp only at g3 g6 gl3 hs
      subst hs
      obtain ⟨eb, ep, er, q1, _, q2, q3, q5⟩ := hls.int1 hin
      have hwr := wrap1 (i := i) (by omega)
      have fin : inB w.levels[i] 1 6 = false → wishOkB fs w = false := fun k => by
        have : w.levels.all (fun n => inB n 1 6) = false := all_no hin k
        simp [wishOkB, this]
      cases d1 : inB w.levels[i] 1 6 <;> simp [d1] at fin <;>
        simp [cspec_GiveWishOk_L1, g3, g6, gl3, e7, nl2, sl2, hin, q1, q2, q3, q5, espec_GiveWishOk_spec_l1In, spec_l1In, hwr, d1, fin]
    · rintro ⟨T', ⟨h'', lc'⟩⟩ hno ⟨g3, g6, gl3, hs⟩
      simp only at g3 g6 gl3 hs
      subst hs
      have hall2 : w.levels.all (fun n => inB n 1 6) = true := all_of fun j hj => by
        have := hno j hj
        simpa [hj] using this
      have : wishOkB fs w = true := by simp only [wishOkB, hhd, hall, hall2, Bool.and_self]
      simp [cspec_GiveWishOk_L1, g3, g6, gl3, e7, nl2, sl2, this]

set_option maxHeartbeats 4000000 in
theorem impl_GiveWishOk {S S' : Nat → Prop} (h : Heap) (cf : Ce) (fs : List Fld) (c : WishC) (w : Wish) (hf : RdF fField S h cf fs) (hwf : FieldsWf fs) (hr : RdWish S' h c w) (hw : SzS w.name) :
    Fimpl_GiveWishOk [.v (.c cf), .v (.agg c.ces)] h = some (.v (.c (.bool (wishOkB fs w))), h) := by
  unfold Fimpl_GiveWishOk
  have e0 := hr.e0
  have e1 := hr.e1
  have e2 := hr.e2
  have e3 := hr.e3
  have e4 := hr.e4
  have e5 := hr.e5
  have e6 := c.e6
  have e7 := c.e7
  obtain ⟨ws, hh, hlen, hel⟩ := hr.ws
  have hls := hr.ls
  have hfl := hf.noLoc
  have nl1 := hh.noLoc
  have nl2 := hls.noLoc
  have sl1 := hh.slen
  have sl2 := hls.slen
  have x1 := impl_fieldsOk h cf fs hf hwf
  have x2 := impl_name h w.name hw
  have hl1 := hh.le
  have hl2 := hls.le
  refine runF_eq ?_
  cases c1 : fieldsOkB fs
  · rw [c1] at x1
    simp [cimpl_GiveWishOk, hfl, eimpl_GiveWishOk_impl_fieldsOk, eimpl_GiveWishOk_impl_name, eimpl_GiveWishOk_impl_in, impl_in, e0, e1, e2, e3, e4, e5, e6, e7, nl1, nl2, sl1, sl2, hlen, x1, x2, c1, wishOkB, wishHead]
  rw [c1] at x1
  cases c2 : nameOkB w.name
  · rw [c2] at x2
    simp [cimpl_GiveWishOk, hfl, eimpl_GiveWishOk_impl_fieldsOk, eimpl_GiveWishOk_impl_name, eimpl_GiveWishOk_impl_in, impl_in, e0, e1, e2, e3, e4, e5, e6, e7, nl1, nl2, sl1, sl2, hlen, x1, x2, c1, c2, wishOkB, wishHead]
  rw [c2] at x2
  by_cases c3 : w.quick < 1
  · have c3' : ¬ 1 ≤ w.quick := by omega
    simp [cimpl_GiveWishOk, hfl, eimpl_GiveWishOk_impl_fieldsOk, eimpl_GiveWishOk_impl_name, eimpl_GiveWishOk_impl_in, impl_in, e0, e1, e2, e3, e4, e5, e6, e7, nl1, nl2, sl1, sl2, hlen, x1, x2, c1, c2, c3, c3', wishOkB, wishHead, inB]
  have c3' : 1 ≤ w.quick := by omega
  by_cases c4 : w.slow < w.quick
  · have c4' : ¬ w.quick ≤ w.slow := by omega
    simp [cimpl_GiveWishOk, hfl, eimpl_GiveWishOk_impl_fieldsOk, eimpl_GiveWishOk_impl_name, eimpl_GiveWishOk_impl_in, impl_in, e0, e1, e2, e3, e4, e5, e6, e7, nl1, nl2, sl1, sl2, hlen, x1, x2, c1, c2, c3, c4, c4', wishOkB, wishHead, inB]
  have c4' : w.quick ≤ w.slow := by omega
  by_cases c5 : 50 < w.slow
  · have c5' : ¬ w.slow ≤ 50 := by omega
    simp [cimpl_GiveWishOk, hfl, eimpl_GiveWishOk_impl_fieldsOk, eimpl_GiveWishOk_impl_name, eimpl_GiveWishOk_impl_in, impl_in, e0, e1, e2, e3, e4, e5, e6, e7, nl1, nl2, sl1, sl2, hlen, x1, x2, c1, c2, c3, c4, c5, c5', wishOkB, wishHead, inB]
  have c5' : w.slow ≤ 50 := by omega
  by_cases c6 : w.from_ < 0
  · have c6' : ¬ 0 ≤ w.from_ := by omega
    simp [cimpl_GiveWishOk, hfl, eimpl_GiveWishOk_impl_fieldsOk, eimpl_GiveWishOk_impl_name, eimpl_GiveWishOk_impl_in, impl_in, e0, e1, e2, e3, e4, e5, e6, e7, nl1, nl2, sl1, sl2, hlen, x1, x2, c1, c2, c3, c4, c5, c6, c6', wishOkB, wishHead, inB]
  have c6' : 0 ≤ w.from_ := by omega
  by_cases c7 : w.by_ < w.from_
  · have c7' : ¬ w.from_ ≤ w.by_ := by omega
    simp [cimpl_GiveWishOk, hfl, eimpl_GiveWishOk_impl_fieldsOk, eimpl_GiveWishOk_impl_name, eimpl_GiveWishOk_impl_in, impl_in, e0, e1, e2, e3, e4, e5, e6, e7, nl1, nl2, sl1, sl2, hlen, x1, x2, c1, c2, c3, c4, c5, c6, c7, c7', wishOkB, wishHead, inB]
  have c7' : w.from_ ≤ w.by_ := by omega
  by_cases c8 : 10000 < w.by_
  · have c8' : ¬ w.by_ ≤ 10000 := by omega
    simp [cimpl_GiveWishOk, hfl, eimpl_GiveWishOk_impl_fieldsOk, eimpl_GiveWishOk_impl_name, eimpl_GiveWishOk_impl_in, impl_in, e0, e1, e2, e3, e4, e5, e6, e7, nl1, nl2, sl1, sl2, hlen, x1, x2, c1, c2, c3, c4, c5, c6, c7, c8, c8', wishOkB, wishHead, inB]
  have c8' : w.by_ ≤ 10000 := by omega
  cases c9 : inB w.late 0 300
  · simp [cimpl_GiveWishOk, hfl, eimpl_GiveWishOk_impl_fieldsOk, eimpl_GiveWishOk_impl_name, eimpl_GiveWishOk_impl_in, impl_in, e0, e1, e2, e3, e4, e5, e6, e7, nl1, nl2, sl1, sl2, hlen, x1, x2, c1, c2, c3, c4, c5, c6, c7, c8, c9, wishOkB, wishHead]
  cases c10 : inB (w.ways.length : Int) 1 3
  · simp [cimpl_GiveWishOk, hfl, eimpl_GiveWishOk_impl_fieldsOk, eimpl_GiveWishOk_impl_name, eimpl_GiveWishOk_impl_in, impl_in, e0, e1, e2, e3, e4, e5, e6, e7, nl1, nl2, sl1, sl2, hlen, x1, x2, c1, c2, c3, c4, c5, c6, c7, c8, c9, c10, wishOkB, wishHead]
  cases c11 : inB (w.levels.length : Int) 1 6
  · simp [cimpl_GiveWishOk, hfl, eimpl_GiveWishOk_impl_fieldsOk, eimpl_GiveWishOk_impl_name, eimpl_GiveWishOk_impl_in, impl_in, e0, e1, e2, e3, e4, e5, e6, e7, nl1, nl2, sl1, sl2, hlen, x1, x2, c1, c2, c3, c4, c5, c6, c7, c8, c9, c10, c11, wishOkB, wishHead]
  have hhd : wishHead fs w = true := by simp [wishHead, c1, c2, c5', c8', c9, c10, c11, inB_t c3' c4', inB_t c6' c7']
  simp [cimpl_GiveWishOk, hfl, eimpl_GiveWishOk_impl_fieldsOk, eimpl_GiveWishOk_impl_name, eimpl_GiveWishOk_impl_in, impl_in, e0, e1, e2, e3, e4, e5, e6, e7, nl1, nl2, sl1, sl2, hlen, x1, x2, c1, c2, c3, c4, c5, c6, c7, c8, c9, c10, c11]
  refine AW_for1 ws.length (fun i => !wayOkB fs (w.ways.getD i default)) (fun i x => x.1 0 = .v (.c cf) ∧ x.1 3 = .v (.c (.ptr (.inl 3) 0)) ∧ x.1 73 = .v (.c c.w) ∧ x.1 74 = .v (.c (.int .i64 ws.length)) ∧ x.1 75 = .v (.c (.int .i64 i)) ∧ x.2.lc 3 = some ⟨c.ces, 8, true⟩ ∧ x.2.h = h) (by simp [hlen, hfl, nl1]) ?_ ?_
  · rintro i ⟨T, ⟨h', lc⟩⟩ hin _ ⟨h0, h3, h73, h74, h75, hl3, hs⟩
    simp only at h0 h3 h73 h74 h75 hl3 hs
    subst hs
    obtain ⟨eb, ep, er, g1, _, g2, g3, g5, g4⟩ := hh.ce1 hin
    have hin' : i < w.ways.length := by omega
    have hwr := wrap1 (i := i) (by omega)
    have hri := hel i hin hin'
    have y := impl_wayOk h' cf ws[i] fs _ hf hri
    have fin : wayOkB fs w.ways[i] = false → wishOkB fs w = false := fun k => by
      have : w.ways.all (wayOkB fs) = false := all_no hin' k
      simp [wishOkB, this]
    cases d1 : wayOkB fs w.ways[i] <;> rw [d1] at y <;> simp [d1] at fin <;>
      simp [cimpl_GiveWishOk_L0, h0, h3, h73, h74, h75, hl3, e6, nl1, sl1, hfl, hri.noLoc, hin, hin', g1, g2, g3, g4, g5, eimpl_GiveWishOk_impl_wayOk, y, hwr, d1, fin, hlen]
  · rintro ⟨T, ⟨h', lc⟩⟩ hno ⟨h0, h3, h73, h74, h75, hl3, hs⟩
    simp only at h0 h3 h73 h74 h75 hl3 hs
    subst hs
    have hall : w.ways.all (wayOkB fs) = true := all_of fun j hj => by
      have := hno j (by omega)
      simpa [hj] using this
    simp [cimpl_GiveWishOk_L0, h0, h3, h73, h74, h75, hl3, e6, e7, nl1, nl2, sl1, sl2, hlen]
    refine AW_for1 w.levels.length (fun i => !inB (w.levels.getD i 0) 1 6) (fun i x => x.1 85 = .v (.c c.l) ∧ x.1 86 = .v (.c (.int .i64 w.levels.length)) ∧ x.1 87 = .v (.c (.int .i64 i)) ∧ x.2.h = h') (by simp [h0, h3, h73, h74, h75, hl3, nl2]) ?_ ?_
    · rintro i ⟨T', ⟨h'', lc'⟩⟩ hin _ ⟨g85, g86, g87, hs⟩
      simp only at g85 g86 g87 hs
      subst hs
      obtain ⟨eb, ep, er, q1, _, q2, q3, q5⟩ := hls.int1 hin
      have hwr := wrap1 (i := i) (by omega)
      have fin : inB w.levels[i] 1 6 = false → wishOkB fs w = false := fun k => by
        have : w.levels.all (fun n => inB n 1 6) = false := all_no hin k
        simp [wishOkB, this]
      cases d1 : inB w.levels[i] 1 6 <;> simp [d1] at fin <;>
        simp [cimpl_GiveWishOk_L1, g85, g86, g87, e7, nl2, sl2, hin, q1, q2, q3, q5, eimpl_GiveWishOk_impl_in, impl_in, hwr, d1, fin]
    · rintro ⟨T', ⟨h'', lc'⟩⟩ hno ⟨g85, g86, g87, hs⟩
      simp only at g85 g86 g87 hs
      subst hs
      have hall2 : w.levels.all (fun n => inB n 1 6) = true := all_of fun j hj => by
        have := hno j hj
        simpa [hj] using this
      have : wishOkB fs w = true := by simp only [wishOkB, hhd, hall, hall2, Bool.and_self]
      simp [cimpl_GiveWishOk_L1, g85, g86, g87, e7, nl2, sl2, this]
end Go.Abs

/-
  The exact law of GiveWishOk, over what its functions compute.
-/

namespace Go.Abs
set_option linter.unusedSimpArgs false
set_option linter.unusedVariables false
attribute [local simp] AW_skip AW_exit AW_ret AW_seq AW_block AW_cond CW_ite AW_reg AW_regD AW_regDc RD_nil RD_cons keyEq hasP hasH hasL chkL chkH recK recH inRange lightKey BookC.len BookC.take WishC.len WishC.take RW_nil RW_cons RW_guard GW_t GW_f GW_gt GW_gf GW_tup GY_some GY_tt GY_ff gd_t gd_f pk_t pk_f pk_and pk_or pk_andc pk_orc pk_bool gd_gd SW_some ThenQ_normal ThenQ_exit ThenQ_ret BlockQ_normal BlockQ_exit BlockQ_ret kill_nil kill_cons killT_at killL_at upo_some upo_none ev_t ev_k FinQ_ret FinQ_normal upd_eq upd_ne argsT_zero argsT_succ aop.eq_1 aop_pick aop.eq_3 aop.eq_4 aop.eq_5 aop.eq_6 aop.eq_7 aop.eq_8 aop.eq_9 aop.eq_10 aop.eq_11 aop.eq_12 aop.eq_13 aop.eq_14 aop.eq_15 aop.eq_16 aop.eq_17 aop.eq_18 aop.eq_19 aop.eq_20 aop.eq_21 aop_slice_hi aop_slice_lo aop.eq_23 aop.eq_24 aop.eq_26 aop.eq_27 aop.eq_28 aop.eq_29 aop.eq_31 aop.eq_32 aop_maxs2 aop_mins2 aop_mins3 aop_len aop_iaddr Av.bool? Av.ptr? Av.int? Av.int64? Av.str? Av.agg? ressA resA resOf noLoc_int noLoc_bool noLoc_str noLoc_nils noLoc_nilp noLoc_ptrl noLoc_ptrr noLoc_sll noLoc_slr noLoc_fn noLoc_tc noLoc_tagg noLoc_av noLoc_atup ce_c tv_v cells_c cells_agg noLocs keyLoc evs callA St.set St.get unAv binCe killV_int killV_bool killV_str killV_nils killV_nilp killV_agg killV_no killV_tup killV_ptrl killV_ptrr killV_sll killV_slr killV_fn killV_noLoc fillA repl ptrs List.map
attribute [local congr] GY_congr


set_option maxRecDepth 100000 in
theorem laws_FnExactGiveWishOk (h : Heap) (cfs : Ce) (fs : List Fld) (cw : WishC) (w : Wish) (ho : HOk h) (rfs : RdF fField (fun b => b < h.nx) h cfs fs ∧ FieldsWf fs) (rw : RdWish (fun b => b < h.nx) h cw w ∧ SzS w.name) :
    ∃ h', Flaws_FnExactGiveWishOk [.v (.c cfs), .v (.agg cw.ces)] h = some (.v (.c (.bool true)), h') := by
  unfold Flaws_FnExactGiveWishOk
  obtain ⟨rfs, wfs⟩ := rfs
  obtain ⟨rw, ww⟩ := rw
  obtain ⟨qfs, sfs, lefs, smfs⟩ := laws_szGiveFieldS h cfs fs 1048576 rfs wfs (by omega)
  rcases lefs with rfl | lefs
  · refine ⟨_, runF_eq (h' := h) ?_⟩
    simp [claws_FnExactGiveWishOk, elaws_FnExactGiveWishOk_laws_szGiveFieldS, rfs.noLoc, sfs]
  have nfs : ¬ qfs < 0 := by omega
  replace smfs := smfs lefs.1
  obtain ⟨qw, sw, lew, smw⟩ := laws_szGiveWish h cw w qfs rw ww (by omega)
  rcases lew with rfl | lew
  · refine ⟨_, runF_eq (h' := h) ?_⟩
    simp [claws_FnExactGiveWishOk, sfs, nfs, elaws_FnExactGiveWishOk_laws_szGiveFieldS, elaws_FnExactGiveWishOk_laws_szGiveWish, rfs.noLoc, sw]
  have nw : ¬ qw < 0 := by omega
  replace smw := smw lew.1
  obtain ⟨c1, h2, fpc1, t3, m4⟩ := toFields' h cfs fs ho rfs smfs
  have f5 := m4.fr
  have nx1 := f5.nx
  have gec1 : ∀ x0, x0 ∈ fpc1 → h.nx ≤ x0 := m4.ge
  have ltc1 : ∀ x0, x0 ∈ fpc1 → x0 < h2.nx := fun x0 hb => OwnF.lt (m4.own : OwnF fField h2 c1 fs fpc1) f5.ok hb
  have o6 : OwnF fField h2 c1 fs fpc1 := m4.own
  have b7 := rw.keep ho f5
  obtain ⟨c8, h9, fpc8, t10, m11⟩ := toWish' h2 cw w f5.ok b7 smw
  have f12 := m11.fr
  have nx2 := f12.nx
  have gec8 : ∀ x0, x0 ∈ fpc8 → h2.nx ≤ x0 := m11.ge
  have ltc8 : ∀ x0, x0 ∈ fpc8 → x0 < h9.nx := fun x0 hb => OwnWish.lt (m11.own : OwnWish h9 c8 w fpc8) f12.ok hb
  have o13 : OwnWish h9 c8 w fpc8 := m11.own
  have b14 := o6.chg f5.ok (Fr.chg (fp := []) f12) (by simp)
  have u15 := spec_GiveWishOk h9 _ _ _ _ (b14.rd (S := fun x0 => x0 ∈ fpc1) (by omega) (fun x0 hb => hb)) wfs (o13.rd (S := fun x0 => x0 ∈ fpc8) smw (fun x0 hb => hb)) ww
  have b16 := rfs.keep ho f5
  have b17 := b16.keep f5.ok f12
  obtain ⟨c18, h19, fpc18, t20, m21⟩ := toFields' h9 cfs fs f12.ok b17 smfs
  have f22 := m21.fr
  have nx3 := f22.nx
  have gec18 : ∀ x0, x0 ∈ fpc18 → h9.nx ≤ x0 := m21.ge
  have ltc18 : ∀ x0, x0 ∈ fpc18 → x0 < h19.nx := fun x0 hb => OwnF.lt (m21.own : OwnF fField h19 c18 fs fpc18) f22.ok hb
  have o23 : OwnF fField h19 c18 fs fpc18 := m21.own
  have b24 := b7.keep f5.ok f12
  have b25 := b24.keep f12.ok f22
  obtain ⟨c26, h27, fpc26, t28, m29⟩ := toWish' h19 cw w f22.ok b25 smw
  have f30 := m29.fr
  have nx4 := f30.nx
  have gec26 : ∀ x0, x0 ∈ fpc26 → h19.nx ≤ x0 := m29.ge
  have ltc26 : ∀ x0, x0 ∈ fpc26 → x0 < h27.nx := fun x0 hb => OwnWish.lt (m29.own : OwnWish h27 c26 w fpc26) f30.ok hb
  have o31 : OwnWish h27 c26 w fpc26 := m29.own
  have b32 := o23.chg f22.ok (Fr.chg (fp := []) f30) (by simp)
  have u33 := impl_GiveWishOk h27 _ _ _ _ (b32.rd (S := fun x0 => x0 ∈ fpc18) (by omega) (fun x0 hb => hb)) wfs (o31.rd (S := fun x0 => x0 ∈ fpc26) smw (fun x0 hb => hb)) ww
  have b34 := b17.keep f12.ok f22
  have b35 := b34.keep f22.ok f30
  obtain ⟨c36, h37, fpc36, t38, m39⟩ := toFields' h27 cfs fs f30.ok b35 smfs
  have f40 := m39.fr
  have nx5 := f40.nx
  have gec36 : ∀ x0, x0 ∈ fpc36 → h27.nx ≤ x0 := m39.ge
  have ltc36 : ∀ x0, x0 ∈ fpc36 → x0 < h37.nx := fun x0 hb => OwnF.lt (m39.own : OwnF fField h37 c36 fs fpc36) f40.ok hb
  have o41 : OwnF fField h37 c36 fs fpc36 := m39.own
  have b42 := b32.chg f30.ok (Fr.chg (fp := []) f40) (by simp)
  obtain ⟨q44, e43, z45⟩ := laws_eqGiveFieldS h37 c18 c36 _ _ (b42.rd (S := fun x0 => x0 ∈ fpc18) (by omega) (fun x0 hb => hb)) (o41.rd (S := fun x0 => x0 ∈ fpc36) (by omega) (fun x0 hb => hb))
  obtain rfl := z45.2 rfl
  have b46 := b25.keep f22.ok f30
  have b47 := b46.keep f30.ok f40
  obtain ⟨c48, h49, fpc48, t50, m51⟩ := toWish' h37 cw w f40.ok b47 smw
  have f52 := m51.fr
  have nx6 := f52.nx
  have gec48 : ∀ x0, x0 ∈ fpc48 → h37.nx ≤ x0 := m51.ge
  have ltc48 : ∀ x0, x0 ∈ fpc48 → x0 < h49.nx := fun x0 hb => OwnWish.lt (m51.own : OwnWish h49 c48 w fpc48) f52.ok hb
  have o53 : OwnWish h49 c48 w fpc48 := m51.own
  have b54 := o31.chg f30.ok (Fr.chg (fp := []) f40) (by simp)
  have b55 := b54.chg f40.ok (Fr.chg (fp := []) f52) (by simp)
  obtain ⟨q57, e56, z58⟩ := laws_eqGiveWish h49 c26 c48 _ _ (b55.rd (S := fun x0 => x0 ∈ fpc26) smw (fun x0 hb => hb)) (o53.rd (S := fun x0 => x0 ∈ fpc48) smw (fun x0 hb => hb))
  obtain rfl := z58.2 rfl
  refine ⟨_, runF_eq (h' := h49) ?_⟩
  simp [claws_FnExactGiveWishOk, sfs, nfs, sw, nw, rfs.noLoc, t3, m4.own.noLoc, t10, u15, t20, m21.own.noLoc, t28, u33, t38, m39.own.noLoc, e43, t50, e56, elaws_FnExactGiveWishOk_impl_GiveWishOk, elaws_FnExactGiveWishOk_laws_eqGiveFieldS, elaws_FnExactGiveWishOk_laws_eqGiveWish, elaws_FnExactGiveWishOk_laws_szGiveFieldS, elaws_FnExactGiveWishOk_laws_szGiveWish, elaws_FnExactGiveWishOk_laws_toGiveFieldS, elaws_FnExactGiveWishOk_laws_toGiveWish, elaws_FnExactGiveWishOk_spec_GiveWishOk]
end Go.Abs
