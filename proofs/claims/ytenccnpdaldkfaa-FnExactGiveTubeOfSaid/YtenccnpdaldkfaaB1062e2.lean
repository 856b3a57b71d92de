/-
  The helpers of the laws for wishes, third part: wishes whole.
-/
import Derived.Test.YtenccnpdaldkfaaB90d8a
import Derived.Test.YtenccnpdaldkfaaB6a6d4
set_option linter.unusedSimpArgs false
set_option linter.unusedVariables false
namespace Go.Abs
set_option linter.unusedSimpArgs false
set_option linter.unusedVariables false
attribute [local simp] AW_skip AW_exit AW_ret AW_seq AW_block AW_cond CW_ite AW_reg AW_regD AW_regDc RD_nil RD_cons keyEq hasP hasH hasL chkL chkH recK recH inRange lightKey BookC.len BookC.take WishC.len WishC.take RW_nil RW_cons RW_guard GW_t GW_f GW_gt GW_gf GW_tup GY_some GY_tt GY_ff gd_t gd_f pk_t pk_f pk_and pk_or pk_andc pk_orc pk_bool gd_gd SW_some ThenQ_normal ThenQ_exit ThenQ_ret BlockQ_normal BlockQ_exit BlockQ_ret kill_nil kill_cons killT_at killL_at upo_some upo_none ev_t ev_k FinQ_ret FinQ_normal upd_eq upd_ne argsT_zero argsT_succ aop.eq_1 aop_pick aop.eq_3 aop.eq_4 aop.eq_5 aop.eq_6 aop.eq_7 aop.eq_8 aop.eq_9 aop.eq_10 aop.eq_11 aop.eq_12 aop.eq_13 aop.eq_14 aop.eq_15 aop.eq_16 aop.eq_17 aop.eq_18 aop.eq_19 aop.eq_20 aop.eq_21 aop_slice_hi aop_slice_lo aop.eq_23 aop.eq_24 aop.eq_26 aop.eq_27 aop.eq_28 aop.eq_29 aop.eq_31 aop.eq_32 aop_maxs2 aop_mins2 aop_mins3 aop_len aop_iaddr Av.bool? Av.ptr? Av.int? Av.int64? Av.str? Av.agg? ressA resA resOf noLoc_int noLoc_bool noLoc_str noLoc_nils noLoc_nilp noLoc_ptrl noLoc_ptrr noLoc_sll noLoc_slr noLoc_fn noLoc_tc noLoc_tagg noLoc_av noLoc_atup ce_c tv_v cells_c cells_agg noLocs keyLoc evs callA St.set St.get unAv binCe killV_int killV_bool killV_str killV_nils killV_nilp killV_agg killV_no killV_tup killV_ptrl killV_ptrr killV_sll killV_slr killV_fn killV_noLoc fillA repl ptrs List.map
attribute [local congr] GY_congr

/-- What the marks write. -/
def mkInt (k : Int) (i : Nat) : Int := k + i
def marksInt (k : Int) (n : Nat) : List Int := (List.range n).map (mkInt k)
theorem marksInt_length (k : Int) (n : Nat) : (marksInt k n).length = n := by simp [marksInt]
theorem marksInt_at (k : Int) (n i : Nat) (h : i < (marksInt k n).length) : (marksInt k n)[i] = mkInt k i := by simp [marksInt]
theorem laws_markIntS (h : Heap) (c : Ce) (l : List Int) (fp : List Nat) (k : Int) (ho : HOk h) (hc : OwnF fInt h c l fp) (hl : l.length ≤ 1048576) (hk : 0 ≤ k ∧ k ≤ 1152921504606846976) :
    ∃ h', Flaws_markIntS [.v (.c c), .v (.c (.int .i64 k))] h = some (.v (.c (.int .i64 (k + l.length))), h') ∧ OwnF fInt h' c (marksInt k l.length) fp ∧ Chg fp h h' := by
  unfold Flaws_markIntS
  rcases hc with ⟨rfl, rfl, rfl⟩ | ⟨b, rfl, hb, rfl⟩
  · refine ⟨h, runF_eq ?_, .inl ⟨rfl, rfl, rfl⟩, Chg.refl ho⟩
    simp [claws_markIntS]
    refine AW_each 0 (fun i x => x.1 0 = .v (.c .nils) ∧ x.1 1 = .v (.c (.int .i64 k)) ∧ x.1 5 = .v (.c (.int .i64 0)) ∧ x.2 = ⟨h, nol⟩) (by simp) (by intros; omega) ?_
    rintro ⟨T, s⟩ ⟨h0, h1, h5, rfl⟩
    simp only at h0 h1 h5
    simp [claws_markIntS_L0, h0, h1, h5, Ce.slen]
  · refine ⟨⟨h.nx, upd h.hp b (some ⟨fInt.all (marksInt k l.length), 1, true⟩)⟩, runF_eq ?_, .inr ⟨b, by rw [marksInt_length], by simp [upd, fInt], rfl⟩, Chg.one ho (ho.lt hb) _⟩
    simp [claws_markIntS]
    refine AW_each l.length (fun i x => x.1 0 = .v (.c (.sl (.inr b) 0 l.length .own)) ∧ x.1 1 = .v (.c (.int .i64 (k + i))) ∧ x.1 5 = .v (.c (.int .i64 i)) ∧ x.2 = ⟨⟨h.nx, upd h.hp b (some ⟨fInt.all ((marksInt k l.length).take i ++ l.drop i), 1, true⟩)⟩, nol⟩) ?_ ?_ ?_
    · have := upd_same hb
      simp only [show fInt.sz = 1 from rfl] at this
      simp [this]
    · rintro i ⟨T, s⟩ hin ⟨h0, h1, h5, rfl⟩
      simp only at h0 h1 h5
      obtain ⟨K0, k0⟩ : ∃ K, K = k + (i : Int) := ⟨_, rfl⟩
      rw [← k0] at h1
      obtain ⟨K1, k1⟩ : ∃ K, K = K0 + 1 := ⟨_, rfl⟩
      have w0 : IntKind.i64.wrap (K0 + 1) = K1 := by rw [k1]; exact wrap_i64 (by omega) (by omega)
      obtain ⟨L, hL⟩ : ∃ L, L = (marksInt k l.length).take i ++ l.drop i := ⟨_, rfl⟩
      rw [← hL]
      have hiL : i < L.length := by rw [hL]; simp [marksInt]; omega
      have hLi : L[i] = l[i] := by
        simp only [hL]
        rw [List.getElem_append_right (by simp; omega)]
        simp [marksInt, Nat.min_eq_left (Nat.le_of_lt hin)]
      have hlen : (fInt.all L).length = l.length := by rw [fInt.all_length, hL]; simp [fInt, marksInt]; omega
      have hlenS : ∀ B, (fInt.all (L.set i B)).length = l.length := by intro B; rw [fInt.all_length, List.length_set, ← fInt.all_length, hlen]
      have s0 := fInt.all_set L (i := i) (k := 0) (by simpa using hiL) (by decide) (b := K0) (v := .int .i64 K0) (by simp [fInt, hLi])
      simp only [show fInt.sz = 1 from rfl, Nat.add_zero, Nat.mul_one, Nat.add_assoc, Nat.reduceAdd] at s0
      have q1 : i + 1 ≤ l.length := by omega
      have g1 : (fInt.all (L.set i K0)).length = l.length := hlenS _
      have hw := wrap1 (i := i) (by omega)
      have he2 : (Ce.sl (Sum.inr b) 0 l.length .own).eltAt 1 i = some (.inr b, i) := by simp [Ce.eltAt, hin]
      have hend : L.set i K0 = (marksInt k l.length).take (i + 1) ++ l.drop (i + 1) := by
        rw [hL, ← take_drop_set _ _ hin (by rw [marksInt_length]; omega), marksInt_at]
        simp only [mkInt]
        congr 2 <;> omega
      have hK : K1 = k + ((i : Int) + 1) := by omega
      simp [claws_markIntS_L0, h0, h1, h5, Ce.slen, hin, he2, upd_upd, hlen, s0, w0, q1, g1, hw]
      exact ⟨hK, by rw [hend]⟩
    · rintro ⟨T, s⟩ ⟨h0, h1, h5, rfl⟩
      simp only at h0 h1 h5
      have e1 : (marksInt k l.length).take l.length = marksInt k l.length := by
        apply List.take_of_length_le
        rw [marksInt_length]; omega
      simp [claws_markIntS_L0, h0, h1, h5, Ce.slen, e1]

def cntWays : List (List Cell) → Int
  | [] => 0
  | a :: r => 2 * (a.length : Int) + cntWays r
theorem cntWays_append (a b : List (List Cell)) : cntWays (a ++ b) = cntWays a + cntWays b := by
  induction a with
  | nil => simp [cntWays]
  | cons x r ih => simp only [List.cons_append, cntWays, ih]; omega
theorem cntWays_take (l : List (List Cell)) {i : Nat} (hi : i < l.length) : cntWays (l.take (i + 1)) = cntWays (l.take i) + 2 * (l[i].length : Int) := by
  rw [List.take_add_one, List.getElem?_eq_getElem hi, cntWays_append]
  simp [cntWays]
theorem cntWays_le (l : List (List Cell)) (ht : ∀ a, a ∈ l → a.length ≤ 1048576) : 0 ≤ cntWays l ∧ cntWays l ≤ 3000000 * l.length := by
  induction l with
  | nil => simp [cntWays]
  | cons x r ih =>
    have h1 := ht x (by simp)
    have h2 := ih fun a ha => ht a (by simp [ha])
    simp only [cntWays, List.length_cons]
    omega
def marksWays (k : Int) (l : List (List Cell)) : List (List Cell) := (List.range l.length).map fun i => marksCell (k + cntWays (l.take i)) (l.getD i default).length
theorem marksWays_length (k : Int) (l : List (List Cell)) : (marksWays k l).length = l.length := by simp [marksWays]
theorem marksWays_at (k : Int) (l : List (List Cell)) (i : Nat) (h : i < (marksWays k l).length) (hl : i < l.length) : (marksWays k l)[i] = marksCell (k + cntWays (l.take i)) l[i].length := by simp [marksWays, hl]

theorem laws_markGiveWayS (h : Heap) (c : Ce) (l : List (List Cell)) (fp : List Nat) (k : Int) (ho : HOk h) (hc : OwnWayS h c l fp) (hl : l.length ≤ 1048576) (ht : ∀ a, a ∈ l → a.length ≤ 1048576) (hk : 0 ≤ k ∧ k ≤ 1099511627776) :
    ∃ h', Flaws_markGiveWayS [.v (.c c), .v (.c (.int .i64 k))] h = some (.v (.c (.int .i64 (k + cntWays l))), h') ∧ OwnWayS h' c (marksWays k l) fp ∧ Chg fp h h' := by
  unfold Flaws_markGiveWayS
  have hcn := hc.noLoc
  have hcs := hc.slen
  obtain ⟨v, h', h1, rfl, h2, h3⟩ := runF_of (env := elaws_markGiveWayS) (code := claws_markGiveWayS) (rs := [.t 4]) (args := [.v (.c c), .v (.c (.int .i64 k))]) (h := h) (K := fun v h' => v = .v (.c (.int .i64 (k + cntWays l))) ∧ OwnWayS h' c (marksWays k l) fp ∧ Chg fp h h') (by
    simp [claws_markGiveWayS]
    refine AW_each l.length (fun i x => x.1 0 = .v (.c c) ∧ x.1 1 = .v (.c (.int .i64 (k + cntWays (l.take i)))) ∧ x.1 5 = .v (.c (.int .i64 i)) ∧ Chg fp h x.2.h ∧ OwnWayS x.2.h c ((marksWays k l).take i ++ l.drop i) fp) ?_ ?_ ?_
    · simp [Chg.refl ho, cntWays, hcn]
      exact hc
    · rintro i ⟨T, ⟨h', lc⟩⟩ hin ⟨h0, h1, h5, cg, ow⟩
      simp only at h0 h1 h5 cg ow
      have hcnt := cntWays_le (l.take i) (fun a ha => ht a (List.mem_of_mem_take ha))
      have htl : (l.take i).length ≤ 1048576 := by rw [List.length_take]; omega
      obtain ⟨K0, k0⟩ : ∃ K, K = k + cntWays (l.take i) := ⟨_, rfl⟩
      rw [← k0] at h1
      have hK0 : 0 ≤ K0 ∧ K0 ≤ 1152921504606846976 - 100000000 := by omega
      have t1 := ht _ (List.getElem_mem hin)
      obtain ⟨L, hL⟩ : ∃ L, L = (marksWays k l).take i ++ l.drop i := ⟨_, rfl⟩
      rw [← hL] at ow
      have hiL : i < L.length := by rw [hL]; simp [marksWays]; omega
      have hLl : L.length = l.length := by rw [hL]; simp [marksWays]; omega
      have hLi : L[i] = l[i] := by
        simp only [hL]
        rw [List.getElem_append_right (by simp; omega)]
        simp [marksWays, Nat.min_eq_left (Nat.le_of_lt hin)]
      obtain ⟨qb, bs, f, hib, rfl, hbl, hrow, hR, q1, q2, q3, q4, upd'⟩ := OwnS.update okWay ow hiL
      rw [hLi] at hR
      obtain ⟨hd, tc, oc, cd⟩ := laws_markGiveCellS h' bs[i] l[i] f K0 cg.ok hR t1 (by omega)
      obtain ⟨K1, k1⟩ : ∃ K, K = K0 + 2 * (l[i].length : Int) := ⟨_, rfl⟩
      rw [← k1] at tc
      have hqlt := cg.ok.lt hrow
      have hrowd : hd.hp qb = some ⟨fCe.all bs, 1, true⟩ := by rw [cd.hp _ hqlt q2]; exact hrow
      have c1 := fCe.all_cell bs (i := i) (k := 0) hib (by decide)
      simp only [show fCe.sz = 1 from rfl, Nat.mul_one, Nat.add_zero] at c1
      replace c1 : (fCe.all bs)[i]? = some bs[i] := c1
      have hw := wrap1 (i := i) (by omega)
      have he2 : (Ce.sl (Sum.inr qb) 0 l.length .own).eltAt 1 i = some (.inr qb, i) := by simp [Ce.eltAt, hin]
      have hset : bs.set i bs[i] = bs := List.set_getElem_self hib
      have hown := upd' hd bs[i] (marksCell K0 l[i].length) (by rw [hset]; exact hrowd) oc (fun x hx hne hnf => cd.hp x (ow.lt okWay cg.ok hx) hnf)
      have hend : L.set i (marksCell K0 l[i].length) = (marksWays k l).take (i + 1) ++ l.drop (i + 1) := by
        rw [hL, ← take_drop_set _ _ hin (by rw [marksWays_length]; omega), marksWays_at _ _ _ _ hin, ← k0]
      have hK : K1 = k + cntWays (l.take (i + 1)) := by rw [cntWays_take _ hin]; omega
      have n1 := hR.noLoc
      have hrow' : h'.hp qb = some ⟨fCe.all bs, 1, true⟩ := hrow
      rw [hend] at hown
      simp [claws_markGiveWayS_L0, h0, h1, h5, Ce.slen, hLl, hin, he2, elaws_markGiveWayS_laws_markGiveCellS, hrow', c1, n1, tc, hw]
      rw [hLl] at hown
      exact ⟨hK, cg.trans cd (fun _ h => h) (fun x hx => q3 x hx), hown⟩
    · rintro ⟨T, ⟨h', lc⟩⟩ ⟨h0, h1, h5, cg, ow⟩
      simp only at h0 h1 h5 cg ow
      have e1 : (marksWays k l).take l.length = marksWays k l := by
        apply List.take_of_length_le
        rw [marksWays_length]; omega
      rw [e1, List.drop_length, List.append_nil] at ow
      rw [List.take_length] at h1
      simp [claws_markGiveWayS_L0, h0, h1, h5, hcs]
      exact ⟨ow, cg⟩)
  exact ⟨h', h1, h2, h3⟩

section
variable {S : Nat → Prop} {h : Heap} {c : WishC} {w : Wish}
theorem RdWish.e0 (hr : RdWish S h c w) : c.ces[0]? = some (.str w.name) := by rw [← hr.name]; rfl
theorem RdWish.e1 (hr : RdWish S h c w) : c.ces[1]? = some (.int .i64 w.quick) := by rw [← hr.quick]; rfl
theorem RdWish.e2 (hr : RdWish S h c w) : c.ces[2]? = some (.int .i64 w.slow) := by rw [← hr.slow]; rfl
theorem RdWish.e3 (hr : RdWish S h c w) : c.ces[3]? = some (.int .i64 w.from_) := by rw [← hr.from_]; rfl
theorem RdWish.e4 (hr : RdWish S h c w) : c.ces[4]? = some (.int .i64 w.by_) := by rw [← hr.by_]; rfl
theorem RdWish.e5 (hr : RdWish S h c w) : c.ces[5]? = some (.int .i64 w.late) := by rw [← hr.late]; rfl
theorem WishC.e6 (c : WishC) : c.ces[6]? = some c.w := rfl
theorem WishC.e7 (c : WishC) : c.ces[7]? = some c.l := rfl
end

theorem laws_szGiveWish {S : Nat → Prop} (h : Heap) (c : WishC) (w : Wish) (k : Int) (hr : RdWish S h c w) (hw : SzS w.name) (hk : 0 ≤ k ∧ k ≤ 1048576) :
    ∃ r, Flaws_szGiveWish [.v (.agg c.ces), .v (.c (.int .i64 k))] h = some (.v (.c (.int .i64 r)), h) ∧ Left k r ∧ (0 ≤ r → SmallWish w) := by
  unfold Flaws_szGiveWish
  have e0 := hr.e0
  have e6 := c.e6
  have e7 := c.e7
  obtain ⟨ws, hh, hlen, hel⟩ := hr.ws
  have hls := hr.ls
  have x0 := sub_left (n := w.name.size) hk hw
  by_cases b0 : k - (w.name.size : Int) < 0
  · refine ⟨-1, runF_eq ?_, .inl rfl, by omega⟩
    simp [claws_szGiveWish, e0, x0, b0]
  obtain ⟨r1, s1, l1, m1⟩ := laws_szGiveWayS h c.w w.ways ws (k - w.name.size) hh hlen hel (by omega)
  rcases l1 with rfl | l1
  · refine ⟨-1, runF_eq ?_, .inl rfl, by omega⟩
    simp [claws_szGiveWish, e0, e6, x0, b0, hh.noLoc, elaws_szGiveWish_laws_szGiveWayS, s1]
  have n1 : ¬ r1 < 0 := by omega
  have s2 := laws_szIntS h c.l w.levels r1 hls (by omega)
  by_cases b2 : r1 < w.levels.length
  · rw [if_pos b2] at s2
    refine ⟨-1, runF_eq ?_, .inl rfl, by omega⟩
    simp [claws_szGiveWish, e0, e6, e7, x0, b0, n1, hh.noLoc, hls.noLoc, elaws_szGiveWish_laws_szGiveWayS, elaws_szGiveWish_laws_szIntS, s1, s2]
  rw [if_neg b2] at s2
  have n2 : ¬ r1 - (w.levels.length : Int) < 0 := by omega
  refine ⟨r1 - w.levels.length, runF_eq ?_, .inr (by omega), fun q => ⟨(m1 l1.1).1, (m1 l1.1).2, by omega⟩⟩
  simp [claws_szGiveWish, e0, e6, e7, x0, b0, n1, n2, hh.noLoc, hls.noLoc, elaws_szGiveWish_laws_szGiveWayS, elaws_szGiveWish_laws_szIntS, s1, s2]

theorem toWish' {S : Nat → Prop} (h : Heap) (c : WishC) (w : Wish) (ho : HOk h) (hr : RdWish S h c w) (sm : SmallWish w) :
    ∃ (c' : WishC) (h' : Heap) (fp : List Nat), Flaws_toGiveWish [.v (.agg c.ces)] h = some (.v (.agg c'.ces), h') ∧ New (fun h fp => OwnWish h c' w fp) h h' fp := by
  unfold Flaws_toGiveWish
  have e0 := hr.e0
  have e1 := hr.e1
  have e2 := hr.e2
  have e3 := hr.e3
  have e4 := hr.e4
  have e5 := hr.e5
  have e6 := c.e6
  have e7 := c.e7
  obtain ⟨ws, hh, hlen, hel⟩ := hr.ws
  have hls := hr.ls
  obtain ⟨c1, h1, f1, t1, o1, fr1, ge1⟩ := laws_toGiveWayS h c.w w.ways ws ho hh hlen hel sm.ws sm.c
  obtain ⟨c2, h2, f2, t2, m2⟩ := toInts' h1 c.l w.levels fr1.ok (hls.keep ho fr1) sm.l
  have o1' := o1.chg okWay fr1.ok (Fr.chg (fp := []) m2.fr) (by simp)
  refine ⟨⟨w.name, w.quick, w.slow, w.from_, w.by_, w.late, c1, c2⟩, h2, f1 ++ f2, runF_eq ?_, ⟨⟨rfl, rfl, rfl, rfl, rfl, rfl, f1, f2, o1', m2.own, rfl, ?_⟩, fr1.trans m2.fr, fun x hx => ?_⟩⟩
  · simp [claws_toGiveWish, e0, e1, e2, e3, e4, e5, e6, e7, hh.noLoc, hls.noLoc, m2.own.noLoc, o1.noLoc, elaws_toGiveWish_laws_toGiveWayS, elaws_toGiveWish_laws_toIntS, t1, t2]
    rfl
  · rw [List.nodup_append]
    refine ⟨o1.nodup, m2.own.nodup, fun x hx y hy => ?_⟩
    have q1 := o1.lt okWay fr1.ok hx
    have q2 := m2.ge y hy
    omega
  · rw [List.mem_append] at hx
    rcases hx with hx | hx
    · exact ge1 x hx
    · exact Nat.le_trans fr1.nx (m2.ge x hx)

theorem laws_eqGiveWish {S S' : Nat → Prop} (h : Heap) (c c' : WishC) (w w' : Wish) (hr : RdWish S h c w) (hr' : RdWish S' h c' w') :
    ∃ r, Flaws_eqGiveWish [.v (.agg c.ces), .v (.agg c'.ces)] h = some (.v (.c (.bool r)), h) ∧ (r = true ↔ w = w') := by
  unfold Flaws_eqGiveWish
  have e0 := hr.e0
  have e1 := hr.e1
  have e2 := hr.e2
  have e3 := hr.e3
  have e4 := hr.e4
  have e5 := hr.e5
  have e6 := c.e6
  have e7 := c.e7
  have d0 := hr'.e0
  have d1 := hr'.e1
  have d2 := hr'.e2
  have d3 := hr'.e3
  have d4 := hr'.e4
  have d5 := hr'.e5
  have d6 := c'.e6
  have d7 := c'.e7
  obtain ⟨ws, hh, hlen, hel⟩ := hr.ws
  have hls := hr.ls
  obtain ⟨ws', hh', hlen', hel'⟩ := hr'.ws
  have hls' := hr'.ls
  obtain ⟨r1, x1, i1⟩ := laws_eqGiveWayS h c.w c'.w _ _ _ _ hh hlen hel hh' hlen' hel'
  obtain ⟨r2, x2, i2⟩ := laws_eqIntS h c.l c'.l _ _ hls hls'
  have hiff : (decide (w.name = w'.name) && (decide (w.quick = w'.quick) && (decide (w.slow = w'.slow) && (decide (w.from_ = w'.from_) && (decide (w.by_ = w'.by_) && (decide (w.late = w'.late) && (r1 && r2))))))) = true ↔ w = w' := by
    cases w; cases w'
    simp [i1, i2]
  refine ⟨_, runF_eq ?_, hiff⟩
  have nl1 := hh.noLoc
  have nl2 := hh'.noLoc
  have nl3 := hls.noLoc
  have nl4 := hls'.noLoc
  have F : ∀ (P : Prop) [Decidable P], ¬ P → decide P = false := fun P _ h => by simp [h]
  by_cases b0 : w.name = w'.name
  rotate_left
  · simp [claws_eqGiveWish, e0, d0, bytes_beq, b0]
  by_cases b1 : w.quick = w'.quick
  rotate_left
  · simp [claws_eqGiveWish, e0, d0, e1, d1, bytes_beq, b0, b1]
  by_cases b2 : w.slow = w'.slow
  rotate_left
  · simp [claws_eqGiveWish, e0, d0, e1, d1, e2, d2, bytes_beq, b0, b1, b2]
  by_cases b3 : w.from_ = w'.from_
  rotate_left
  · simp [claws_eqGiveWish, e0, d0, e1, d1, e2, d2, e3, d3, bytes_beq, b0, b1, b2, b3]
  by_cases b4 : w.by_ = w'.by_
  rotate_left
  · simp [claws_eqGiveWish, e0, d0, e1, d1, e2, d2, e3, d3, e4, d4, bytes_beq, b0, b1, b2, b3, b4]
  by_cases b5 : w.late = w'.late
  rotate_left
  · simp [claws_eqGiveWish, e0, d0, e1, d1, e2, d2, e3, d3, e4, d4, e5, d5, bytes_beq, b0, b1, b2, b3, b4, b5]
  cases r1 <;> cases r2 <;> simp [claws_eqGiveWish, e0, d0, e1, d1, e2, d2, e3, d3, e4, d4, e5, d5, e6, d6, e7, d7, nl1, nl2, nl3, nl4, elaws_eqGiveWish_laws_eqGiveWayS, elaws_eqGiveWish_laws_eqIntS, x1, x2, bytes_beq, b0, b1, b2, b3, b4, b5]

def marksWish (k : Int) (w : Wish) : Wish := { w with ways := marksWays k w.ways, levels := marksInt (k + cntWays w.ways) w.levels.length }
def cntWish (w : Wish) : Int := cntWays w.ways + (w.levels.length : Int)
theorem cntWish_le {w : Wish} (sm : SmallWish w) : 0 ≤ cntWish w ∧ cntWish w ≤ 1099511627776 * 16 := by
  have h1 := cntWays_le w.ways sm.c
  have h2 := sm.ws
  have h3 := sm.l
  unfold cntWish
  omega
theorem laws_markGiveWish (h : Heap) (c : WishC) (w : Wish) (fp : List Nat) (k : Int) (ho : HOk h) (hc : OwnWish h c w fp) (sm : SmallWish w) (hk : 0 ≤ k ∧ k ≤ 100000000) :
    ∃ h', Flaws_markGiveWish [.v (.agg c.ces), .v (.c (.int .i64 k))] h = some (.v (.c (.int .i64 (k + cntWish w))), h') ∧ OwnWish h' c (marksWish k w) fp ∧ Chg fp h h' := by
  unfold Flaws_markGiveWish
  obtain ⟨a0, a1, a2, a3, a4, a5, f1, f2, o1, o2, rfl, nd⟩ := hc
  have nd' := List.nodup_append.1 nd
  have hcw := cntWays_le w.ways sm.c
  have hws := sm.ws
  obtain ⟨h1, t1, p1, c1⟩ := laws_markGiveWayS h c.w w.ways f1 k ho o1 sm.ws sm.c (by omega)
  have o2' := o2.chg ho c1 (fun x hx hx' => nd'.2.2 x hx' x hx rfl)
  obtain ⟨h2, t2, p2, c2⟩ := laws_markIntS h1 c.l w.levels f2 (k + cntWays w.ways) c1.ok o2' sm.l (by omega)
  have p1' := p1.chg okWay c1.ok c2 (fun x hx hx' => nd'.2.2 x hx x hx' rfl)
  have e6 := c.e6
  have e7 := c.e7
  refine ⟨h2, runF_eq ?_, ⟨a0, a1, a2, a3, a4, a5, f1, f2, p1', p2, rfl, nd⟩, c1.trans c2 (fun x hx => by simp [hx]) (fun x hx => by simp [hx])⟩
  simp [claws_markGiveWish, e6, e7, o1.noLoc, o2.noLoc, elaws_markGiveWish_laws_markGiveWayS, elaws_markGiveWish_laws_markIntS, t1, t2]
  unfold cntWish
  omega
end Go.Abs

/-
  The tube of a wish.
-/

namespace Go.Abs
set_option linter.unusedSimpArgs false
set_option linter.unusedVariables false
attribute [local simp] AW_skip AW_exit AW_ret AW_seq AW_block AW_cond CW_ite AW_reg AW_regD AW_regDc RD_nil RD_cons keyEq hasP hasH hasL chkL chkH recK recH inRange lightKey BookC.len BookC.take WishC.len WishC.take RW_nil RW_cons RW_guard GW_t GW_f GW_gt GW_gf GW_tup GY_some GY_tt GY_ff gd_t gd_f pk_t pk_f pk_and pk_or pk_andc pk_orc pk_bool gd_gd SW_some ThenQ_normal ThenQ_exit ThenQ_ret BlockQ_normal BlockQ_exit BlockQ_ret kill_nil kill_cons killT_at killL_at upo_some upo_none ev_t ev_k FinQ_ret FinQ_normal upd_eq upd_ne argsT_zero argsT_succ aop.eq_1 aop_pick aop.eq_3 aop.eq_4 aop.eq_5 aop.eq_6 aop.eq_7 aop.eq_8 aop.eq_9 aop.eq_10 aop.eq_11 aop.eq_12 aop.eq_13 aop.eq_14 aop.eq_15 aop.eq_16 aop.eq_17 aop.eq_18 aop.eq_19 aop.eq_20 aop.eq_21 aop_slice_hi aop_slice_lo aop.eq_23 aop.eq_24 aop.eq_26 aop.eq_27 aop.eq_28 aop.eq_29 aop.eq_31 aop.eq_32 aop_maxs2 aop_mins2 aop_mins3 aop_len aop_iaddr Av.bool? Av.ptr? Av.int? Av.int64? Av.str? Av.agg? ressA resA resOf noLoc_int noLoc_bool noLoc_str noLoc_nils noLoc_nilp noLoc_ptrl noLoc_ptrr noLoc_sll noLoc_slr noLoc_fn noLoc_tc noLoc_tagg noLoc_av noLoc_atup ce_c tv_v cells_c cells_agg noLocs keyLoc evs callA St.set St.get unAv binCe killV_int killV_bool killV_str killV_nils killV_nilp killV_agg killV_no killV_tup killV_ptrl killV_ptrr killV_sll killV_slr killV_fn killV_noLoc fillA repl ptrs List.map
attribute [local congr] GY_congr

def lvl (v i n : Int) : Int := min v (min i (n - 1 - i))
def tubeAt (w : Wish) (cs : List Cell) (v s : Int) (i : Nat) : Box :=
  ⟨(cs.getD i default).x, (cs.getD i default).y, min (lvl v (if 0 < (i : Int) then (i : Int) - 1 else i) cs.length) (lvl v i cs.length), max (lvl v (if 0 < (i : Int) then (i : Int) - 1 else i) cs.length) (lvl v i cs.length), w.from_ + s + i * w.quick, w.by_ + s + (i + 1) * w.slow - 1⟩
def smallB (w : Wish) (s : Int) : Bool := inB w.quick 1 50 && inB w.slow 1 50 && inB w.from_ 0 10000 && inB w.by_ 0 10000 && inB s 0 300
def tubeArgs (w : Wish) (k j s : Int) : Bool := inB k 0 ((w.ways.length : Int) - 1) && inB j 0 ((w.levels.length : Int) - 1) && smallB w s
def tubeOfB (w : Wish) (k j s : Int) : List Box :=
  if tubeArgs w k j s then (List.range (min (w.ways.getD k.toNat default).length 40)).map (tubeAt w (w.ways.getD k.toNat default) (w.levels.getD j.toNat 0) s) else []
theorem tubeOfB_len (w : Wish) (k j s : Int) : (tubeOfB w k j s).length ≤ 40 := by
  unfold tubeOfB
  split
  · rw [List.length_map, List.length_range]; omega
  · simp

theorem spec_l4Min (h : Heap) (x y : Int) : Fspec_l4Min [.v (.c (.int .i64 x)), .v (.c (.int .i64 y))] h = some (.v (.c (.int .i64 (min x y))), h) := by
  unfold Fspec_l4Min
  refine runF_eq ?_
  by_cases hxy : x < y
  · have : min x y = x := by omega
    simp [cspec_l4Min, hxy, this]
  · have : min x y = y := by omega
    simp [cspec_l4Min, hxy, this]
theorem spec_l4Max (h : Heap) (x y : Int) : Fspec_l4Max [.v (.c (.int .i64 x)), .v (.c (.int .i64 y))] h = some (.v (.c (.int .i64 (max x y))), h) := by
  unfold Fspec_l4Max
  refine runF_eq ?_
  by_cases hxy : y < x
  · have : max x y = x := by omega
    simp [cspec_l4Max, hxy, this]
  · have : max x y = y := by omega
    simp [cspec_l4Max, hxy, this]
theorem spec_l4Level (h : Heap) (i n v : Int) (hi : 0 ≤ i) (hn : i ≤ n) (hn' : n ≤ 9223372036854775807) : Fspec_l4Level [.v (.c (.int .i64 i)), .v (.c (.int .i64 n)), .v (.c (.int .i64 v))] h = some (.v (.c (.int .i64 (lvl v i n))), h) := by
  unfold Fspec_l4Level lvl
  refine runF_eq ?_
  have w1 : IntKind.i64.wrap (n - 1) = n - 1 := wrap_i64 (by omega) (by omega)
  have w2 : IntKind.i64.wrap (n - 1 - i) = n - 1 - i := wrap_i64 (by omega) (by omega)
  simp [cspec_l4Level, espec_l4Level_spec_l4Min, spec_l4Min, w1, w2]
theorem spec_l4Small {S : Nat → Prop} (h : Heap) (c : WishC) (w : Wish) (s : Int) (hr : RdWish S h c w) : Fspec_l4Small [.v (.agg c.ces), .v (.c (.int .i64 s))] h = some (.v (.c (.bool (smallB w s))), h) := by
  unfold Fspec_l4Small smallB
  have e1 := hr.e1
  have e2 := hr.e2
  have e3 := hr.e3
  have e4 := hr.e4
  refine runF_eq ?_
  simp +contextual [cspec_l4Small, e1, e2, e3, e4, espec_l4Small_spec_l1In, spec_l1In, Bool.and_assoc]

theorem inB_nat {k : Int} {n : Nat} (h : inB k 0 ((n : Int) - 1) = true) : ∃ a : Nat, k = a ∧ a < n := by
  simp only [inB, Bool.and_eq_true, decide_eq_true_eq] at h
  exact ⟨k.toNat, by omega, by omega⟩
theorem small_bounds {w : Wish} {s : Int} (h : smallB w s = true) : (1 ≤ w.quick ∧ w.quick ≤ 50) ∧ (1 ≤ w.slow ∧ w.slow ≤ 50) ∧ (0 ≤ w.from_ ∧ w.from_ ≤ 10000) ∧ (0 ≤ w.by_ ∧ w.by_ ≤ 10000) ∧ 0 ≤ s ∧ s ≤ 300 := by
  simp only [smallB, inB, Bool.and_eq_true, decide_eq_true_eq] at h
  exact ⟨h.1.1.1.1, h.1.1.1.2, h.1.1.2, h.1.2, h.2⟩
theorem mul_bound {i q : Int} (h1 : 0 ≤ i) (h2 : i ≤ 41) (h3 : 0 ≤ q) (h4 : q ≤ 50) : 0 ≤ i * q ∧ i * q ≤ 2050 := by
  refine ⟨Int.mul_nonneg h1 h3, ?_⟩
  have := Int.mul_le_mul h2 h4 h3 (by omega)
  omega
theorem range_succ_map {α : Type} (f : Nat → α) (i : Nat) : (List.range (i + 1)).map f = (List.range i).map f ++ [f i] := by
  rw [List.range_succ, List.map_append]; rfl

set_option maxHeartbeats 4000000 in
theorem spec_GiveTubeOf {S : Nat → Prop} (h : Heap) (c : WishC) (w : Wish) (k j s : Int) (ho : HOk h) (hr : RdWish S h c w) :
    ∃ c' h' fp, Fspec_GiveTubeOf [.v (.agg c.ces), .v (.c (.int .i64 k)), .v (.c (.int .i64 j)), .v (.c (.int .i64 s))] h = some (.v (.c c'), h') ∧ NewF fBox h h' c' (tubeOfB w k j s) fp := by
  unfold Fspec_GiveTubeOf
  have f0 := Fr.push ho ⟨[], 6, true⟩
  have hr1 := hr.keep ho f0
  have sm := fun x => spec_l4Small (h.push ⟨[], 6, true⟩) c w x hr1
  have e1 := hr.e1
  have e2 := hr.e2
  have e3 := hr.e3
  have e4 := hr.e4
  have e6 := c.e6
  have e7 := c.e7
  obtain ⟨ws, hh0, hlen, hel0⟩ := hr.ws
  have hls0 := hr.ls
  have hh := hh0.keep ho f0
  have hls := hls0.keep ho f0
  have hl1 := hh.le
  have hl2 := hls.le
  have x1 : IntKind.i64.wrap ((w.ways.length : Int) - 1) = (w.ways.length : Int) - 1 := wrap_i64 (by omega) (by omega)
  have x2 : IntKind.i64.wrap ((w.levels.length : Int) - 1) = (w.levels.length : Int) - 1 := wrap_i64 (by omega) (by omega)
  have sl1 := hh.slen
  rw [hlen] at sl1
  have n0 : NewF fBox h (h.push ⟨[], 6, true⟩) (.sl (.inr h.nx) 0 0 .own) [] [h.nx] := NewF.push ho [] 0 rfl
  have bad : tubeArgs w k j s = false → AW espec_GiveTubeOf cspec_GiveTubeOf (FinQ [.t 8] fun v h' => ∃ c' fp, v = .v (.c c') ∧ NewF fBox h h' c' (tubeOfB w k j s) fp) (argsT [.v (.agg c.ces), .v (.c (.int .i64 k)), .v (.c (.int .i64 j)), .v (.c (.int .i64 s))], ⟨h, nol⟩) := by
    intro hb
    rw [show tubeOfB w k j s = [] by simp [tubeOfB, hb]]
    cases k1 : inB k 0 ((w.ways.length : Int) - 1)
    · simp [cspec_GiveTubeOf, St.push, e6, sl1, hh.noLoc, x1, k1, espec_GiveTubeOf_spec_l1In, spec_l1In]
      exact ⟨_, n0⟩
    cases k2 : inB j 0 ((w.levels.length : Int) - 1)
    · simp [cspec_GiveTubeOf, St.push, e6, e7, sl1, hls.slen, hh.noLoc, hls.noLoc, x1, x2, k1, k2, espec_GiveTubeOf_spec_l1In, spec_l1In]
      exact ⟨_, n0⟩
    have k3 : smallB w s = false := by simpa [tubeArgs, k1, k2] using hb
    have y := sm s
    rw [k3] at y
    simp [cspec_GiveTubeOf, St.push, e6, e7, sl1, hls.slen, hh.noLoc, hls.noLoc, x1, x2, k1, k2, k3, espec_GiveTubeOf_spec_l1In, spec_l1In, espec_GiveTubeOf_spec_l4Small, y]
    exact ⟨_, n0⟩
  cases hb : tubeArgs w k j s
  · obtain ⟨v, h', h1, c', fp, rfl, h2⟩ := runF_of (bad hb)
    exact ⟨c', h', fp, h1, h2⟩
  have hb' := hb
  simp only [tubeArgs, Bool.and_eq_true] at hb'
  obtain ⟨⟨k1, k2⟩, k3⟩ := hb'
  have y := sm s
  rw [k3] at y
  obtain ⟨kn, rfl, hkn⟩ := inB_nat k1
  obtain ⟨jn, rfl, hjn⟩ := inB_nat k2
  obtain ⟨bq, bs, bf, bb, bt⟩ := small_bounds k3
  have hkw : kn < ws.length := by omega
  have hri0 := hel0 kn hkw hkn
  obtain ⟨cs, hcs⟩ : ∃ cs, cs = w.ways[kn] := ⟨_, rfl⟩
  rw [← hcs] at hri0
  obtain ⟨wc, hwc⟩ : ∃ wc, wc = ws[kn] := ⟨_, rfl⟩
  rw [← hwc] at hri0
  have hri := hri0.keep ho f0
  have hrl := hri.le
  obtain ⟨vb, vp, vr, v1, _, v2, v3, v5⟩ := hls.int1 hjn
  obtain ⟨V, hV⟩ : ∃ V, V = w.levels[jn] := ⟨_, rfl⟩
  rw [← hV] at v5
  obtain ⟨ub, up, ur, u1, _, u2, u3, u5, u4⟩ := hh.ce1 hkw
  rw [← hwc] at u5 u4
  have hval : tubeOfB w kn jn s = (List.range (min cs.length 40)).map (tubeAt w cs V s) := by
    simp [tubeOfB, hb, hcs, hV, hkn, hjn]
  rw [hval]
  obtain ⟨v, h', h1, c', fp, rfl, h2⟩ := runF_of (env := espec_GiveTubeOf) (code := cspec_GiveTubeOf) (rs := [.t 8]) (args := [.v (.agg c.ces), .v (.c (.int .i64 kn)), .v (.c (.int .i64 jn)), .v (.c (.int .i64 s))]) (h := h) (K := fun v h' => ∃ c' fp, v = .v (.c c') ∧ NewF fBox h h' c' ((List.range (min cs.length 40)).map (tubeAt w cs V s)) fp) (by
    simp [cspec_GiveTubeOf, St.push, e6, e7, sl1, hls.slen, hh.noLoc, hls.noLoc, x1, x2, k1, k2, k3, espec_GiveTubeOf_spec_l1In, spec_l1In, espec_GiveTubeOf_spec_l4Small, y, u1, u2, u3, u5, hri.noLoc, hri.slen]
    refine AW_each (min cs.length 40) (fun i x => x.1 2 = .v (.c (.int .i64 jn)) ∧ x.1 3 = .v (.c (.int .i64 s)) ∧ x.1 4 = .v (.c (.ptr (.inl 4) 0)) ∧ x.1 10 = .v (.c wc) ∧ x.1 11 = .v (.c (.int .i64 cs.length)) ∧ x.1 12 = .v (.c (.int .i64 i)) ∧ x.2.lc 4 = some ⟨c.ces, 8, true⟩ ∧ ∃ c9 fp, x.1 9 = .v (.c c9) ∧ NewF fBox h x.2.h c9 ((List.range i).map (tubeAt w cs V s)) fp) ?_ ?_ ?_
    · simp [hri.noLoc]
      exact ⟨_, n0⟩
    · rintro i ⟨T, ⟨H, lc⟩⟩ hin ⟨t2, t3, t4, t10, t11, t12, l4, c9, fp, t9, nw⟩
      simp only at t2 t3 t4 t9 t10 t11 t12 l4 nw
      have hin' : i < cs.length := by omega
      obtain ⟨vb, vp, vr, v1, _, v2, v3, v5⟩ := (hls0.keep ho nw.fr).int1 hjn
      rw [← hV] at v5
      obtain ⟨eb, ep, er, g1, _, g2, g3, g4, g5, g6⟩ := (hri0.keep ho nw.fr).cell hin'
      have hlt : (List.map (tubeAt w cs V s) (List.range i)).length + 1 ≤ lim := by rw [List.length_map, List.length_range]; simp only [lim]; omega
      obtain ⟨c'', h'', fp'', nw', _, _, _, hap⟩ := nw.append1 (tubeAt w cs V s i) hlt
      rw [← range_succ_map] at nw'
      have hwr := wrap1 (i := i) (by omega)
      have hin2 : (i : Int) < cs.length := by omega
      have hin3 : (i : Int) < 40 := by omega
      have hi0 : 0 ≤ (i : Int) := by omega
      have hnl : (cs.length : Int) ≤ 9223372036854775807 := by omega
      have hcast : ((i + 1 : Nat) : Int) = (i : Int) + 1 := rfl
      rw [hcast] at hwr
      have hB : fBox.ces (tubeAt w cs V s i) = [.int .i64 cs[i].x, .int .i64 cs[i].y, .int .i64 (min (lvl V (if 0 < (i : Int) then (i : Int) - 1 else i) cs.length) (lvl V i cs.length)), .int .i64 (max (lvl V (if 0 < (i : Int) then (i : Int) - 1 else i) cs.length) (lvl V i cs.length)), .int .i64 (w.from_ + s + i * w.quick), .int .i64 (w.by_ + s + (i + 1) * w.slow - 1)] := by
        simp [fBox, tubeAt, hin']
      rw [hB] at hap
      simp only [show fBox.sz = 6 from rfl] at hap
      obtain ⟨I, hI⟩ : ∃ I : Int, I = i := ⟨_, rfl⟩
      rw [← hI] at t12 g1 hwr hin2 hin3 hi0 hap
      have b1 := mul_bound hi0 (by omega) (show 0 ≤ w.quick by omega) bq.2
      have b2 := mul_bound (show 0 ≤ I + 1 by omega) (by omega) (show 0 ≤ w.slow by omega) bs.2
      obtain ⟨P, hP⟩ : ∃ P, P = I * w.quick := ⟨_, rfl⟩
      obtain ⟨Q, hQ⟩ : ∃ Q, Q = (I + 1) * w.slow := ⟨_, rfl⟩
      rw [← hP] at b1 hap
      rw [← hQ] at b2 hap
      have w0 : IntKind.i64.wrap (I - 1) = I - 1 := wrap_i64 (by omega) (by omega)
      have w1 : IntKind.i64.wrap (w.from_ + s) = w.from_ + s := wrap_i64 (by omega) (by omega)
      have w2 : IntKind.i64.wrap P = P := wrap_i64 (by omega) (by omega)
      have w3 : IntKind.i64.wrap (w.from_ + s + P) = w.from_ + s + P := wrap_i64 (by omega) (by omega)
      have w4 : IntKind.i64.wrap (w.by_ + s) = w.by_ + s := wrap_i64 (by omega) (by omega)
      have w6 : IntKind.i64.wrap Q = Q := wrap_i64 (by omega) (by omega)
      have w7 : IntKind.i64.wrap (w.by_ + s + Q) = w.by_ + s + Q := wrap_i64 (by omega) (by omega)
      have w8 : IntKind.i64.wrap (w.by_ + s + Q - 1) = w.by_ + s + Q - 1 := wrap_i64 (by omega) (by omega)
      have y1 := fun H' => spec_l4Level H' I cs.length V hi0 (by omega) hnl
      have hfin : I + 1 = (i : Int) + 1 := by omega
      have hfl := nw.own.noLoc
      have hfl' := nw'.own.noLoc
      have nl := hri0.noLoc
      by_cases hz : 0 < I
      · rw [if_pos hz] at hap
        have y2 := fun H' => spec_l4Level H' (I - 1) cs.length V (by omega) (by omega) hnl
        simp [cspec_GiveTubeOf_L0, t2, t3, t4, t9, t10, t11, t12, l4, e1, e2, e3, e4, e7, hin2, hin3, hz, v1, v2, v3, v5, g1, g2, g3, g5, g6, hls0.noLoc, nl, hfl, hfl', espec_GiveTubeOf_spec_l4Level, espec_GiveTubeOf_spec_l4Min, espec_GiveTubeOf_spec_l4Max, spec_l4Min, spec_l4Max, y1, y2, w0, w1, ← hP, ← hQ, w2, w3, w4, w6, w7, w8, hwr, hap]
        exact ⟨hI, fp'', nw'⟩
      · rw [if_neg hz] at hap
        simp [cspec_GiveTubeOf_L0, t2, t3, t4, t9, t10, t11, t12, l4, e1, e2, e3, e4, e7, hin2, hin3, hz, v1, v2, v3, v5, g1, g2, g3, g5, g6, hls0.noLoc, nl, hfl, hfl', espec_GiveTubeOf_spec_l4Level, espec_GiveTubeOf_spec_l4Min, espec_GiveTubeOf_spec_l4Max, spec_l4Min, spec_l4Max, y1, w0, w1, ← hP, ← hQ, w2, w3, w4, w6, w7, w8, hwr, hap]
        exact ⟨hI, fp'', nw'⟩
    · rintro ⟨T, ⟨H, lc⟩⟩ ⟨t2, t3, t4, t10, t11, t12, l4, c9, fp, t9, nw⟩
      simp only at t2 t3 t4 t9 t10 t11 t12 l4 nw
      by_cases hq : cs.length ≤ 40
      · have hm : min cs.length 40 = cs.length := by omega
        rw [hm] at t12 nw
        simp [cspec_GiveTubeOf_L0, t9, t11, t12, nw.own.noLoc]
        rw [hm]
        exact ⟨fp, nw⟩
      · have hm : min cs.length 40 = 40 := by omega
        rw [hm] at t12 nw
        simp [cspec_GiveTubeOf_L0, t9, t11, t12, nw.own.noLoc, show 40 < cs.length by omega, show (40 : Int) < cs.length by omega, hm]
        exact ⟨fp, nw⟩)
  exact ⟨c', h', fp, h1, h2⟩
end Go.Abs

/-
  The tube of a wish, as the program finds it.
-/

namespace Go.Abs
set_option linter.unusedSimpArgs false
set_option linter.unusedVariables false
attribute [local simp] AW_skip AW_exit AW_ret AW_seq AW_block AW_cond CW_ite AW_reg AW_regD AW_regDc RD_nil RD_cons keyEq hasP hasH hasL chkL chkH recK recH inRange lightKey BookC.len BookC.take WishC.len WishC.take RW_nil RW_cons RW_guard GW_t GW_f GW_gt GW_gf GW_tup GY_some GY_tt GY_ff gd_t gd_f pk_t pk_f pk_and pk_or pk_andc pk_orc pk_bool gd_gd SW_some ThenQ_normal ThenQ_exit ThenQ_ret BlockQ_normal BlockQ_exit BlockQ_ret kill_nil kill_cons killT_at killL_at upo_some upo_none ev_t ev_k FinQ_ret FinQ_normal upd_eq upd_ne argsT_zero argsT_succ aop.eq_1 aop_pick aop.eq_3 aop.eq_4 aop.eq_5 aop.eq_6 aop.eq_7 aop.eq_8 aop.eq_9 aop.eq_10 aop.eq_11 aop.eq_12 aop.eq_13 aop.eq_14 aop.eq_15 aop.eq_16 aop.eq_17 aop.eq_18 aop.eq_19 aop.eq_20 aop.eq_21 aop_slice_hi aop_slice_lo aop.eq_23 aop.eq_24 aop.eq_26 aop.eq_27 aop.eq_28 aop.eq_29 aop.eq_31 aop.eq_32 aop_maxs2 aop_mins2 aop_mins3 aop_len aop_iaddr Av.bool? Av.ptr? Av.int? Av.int64? Av.str? Av.agg? ressA resA resOf noLoc_int noLoc_bool noLoc_str noLoc_nils noLoc_nilp noLoc_ptrl noLoc_ptrr noLoc_sll noLoc_slr noLoc_fn noLoc_tc noLoc_tagg noLoc_av noLoc_atup ce_c tv_v cells_c cells_agg noLocs keyLoc evs callA St.set St.get unAv binCe killV_int killV_bool killV_str killV_nils killV_nilp killV_agg killV_no killV_tup killV_ptrl killV_ptrr killV_sll killV_slr killV_fn killV_noLoc fillA repl ptrs List.map
attribute [local congr] GY_congr

theorem impl_GiveTubeOf_1 (h : Heap) (a b d : Nat) (c : WishC) (ls cs : Nat) (jn : Nat) (i V : Int) (wc : Ce) (lv : Ce) (n : Nat) (p1 : h.hp a = some ⟨c.ces, 8, true⟩) (p2 : h.hp b = some ⟨[.int .i64 jn], 1, true⟩) (p3 : h.hp d = some ⟨[wc], 1, true⟩)
    (vb vp : Nat) (vr : Row) (v1 : c.l.eltAt 1 jn = some (.inr vb, vp)) (v2 : h.hp vb = some vr) (v5 : vr.cs[vp]? = some (.int .i64 V)) (hl : c.l.noLoc = true) (hw : wc.noLoc = true) (hn : wc.slen = some n) (hi : 0 ≤ i) (hin : i ≤ n) (hn' : (n : Int) ≤ 9223372036854775807) :
    Fimpl_GiveTubeOf_1 [.v (.c (.int .i64 i)), .v (.c (.ptr (.inr a) 0)), .v (.c (.ptr (.inr b) 0)), .v (.c (.ptr (.inr d) 0))] h = some (.v (.c (.int .i64 (lvl V i n))), h) := by
  unfold Fimpl_GiveTubeOf_1
  have w1 : IntKind.i64.wrap ((n : Int) - 1) = n - 1 := wrap_i64 (by omega) (by omega)
  have w2 : IntKind.i64.wrap ((n : Int) - 1 - i) = n - 1 - i := wrap_i64 (by omega) (by omega)
  have e7 := c.e7
  have hv : min2 (min2 V i) ((n : Int) - 1 - i) = lvl V i n := by rw [min2_eq, min2_eq]; unfold lvl; omega
  refine runF_eq ?_
  simp [cimpl_GiveTubeOf_1, p1, p2, p3, e7, v1, v2, v5, hl, hw, hn, w1, w2, hv]

set_option maxHeartbeats 4000000 in
theorem impl_GiveTubeOf {S : Nat → Prop} (h : Heap) (c : WishC) (w : Wish) (k j s : Int) (ho : HOk h) (hr : RdWish S h c w) :
    ∃ c' h' fp, Fimpl_GiveTubeOf [.v (.agg c.ces), .v (.c (.int .i64 k)), .v (.c (.int .i64 j)), .v (.c (.int .i64 s))] h = some (.v (.c c'), h') ∧ NewF fBox h h' c' (tubeOfB w k j s) fp := by
  unfold Fimpl_GiveTubeOf
  have e1 := hr.e1
  have e2 := hr.e2
  have e3 := hr.e3
  have e4 := hr.e4
  have e6 := c.e6
  have e7 := c.e7
  obtain ⟨ws, hh0, hlen, hel0⟩ := hr.ws
  have hls0 := hr.ls
  have hl1 := hh0.le
  have hl2 := hls0.le
  have x1 : IntKind.i64.wrap ((w.ways.length : Int) - 1) = (w.ways.length : Int) - 1 := wrap_i64 (by omega) (by omega)
  have x2 : IntKind.i64.wrap ((w.levels.length : Int) - 1) = (w.levels.length : Int) - 1 := wrap_i64 (by omega) (by omega)
  have sl1 := hh0.slen
  rw [hlen] at sl1
  have fr1 := Fr.push ho ⟨c.ces, 8, true⟩
  have fr2 := fr1.trans (Fr.push fr1.ok ⟨[.int .i64 j], 1, true⟩)
  have n0 : NewF fBox h ((h.push ⟨c.ces, 8, true⟩).push ⟨[.int .i64 j], 1, true⟩) .nils [] [] := ⟨OwnF.nil, fr2, by simp⟩
  have bad : tubeArgs w k j s = false → AW eimpl_GiveTubeOf cimpl_GiveTubeOf (FinQ [.t 8] fun v h' => ∃ c' fp, v = .v (.c c') ∧ NewF fBox h h' c' (tubeOfB w k j s) fp) (argsT [.v (.agg c.ces), .v (.c (.int .i64 k)), .v (.c (.int .i64 j)), .v (.c (.int .i64 s))], ⟨h, nol⟩) := by
    intro hb
    rw [show tubeOfB w k j s = [] by simp [tubeOfB, hb]]
    have m0 : NewF fBox h ⟨h.nx + 1 + 1, upd (upd h.hp h.nx (some ⟨c.ces, 8, true⟩)) (h.nx + 1) (some ⟨[.int .i64 j], 1, true⟩)⟩ .nils [] [] := n0
    cases k1 : inB k 0 ((w.ways.length : Int) - 1)
    · simp [cimpl_GiveTubeOf, St.push, Heap.push, e6, sl1, hh0.noLoc, x1, k1, eimpl_GiveTubeOf_impl_in, impl_in]
      exact ⟨_, m0⟩
    cases k2 : inB j 0 ((w.levels.length : Int) - 1)
    · simp [cimpl_GiveTubeOf, St.push, Heap.push, e6, e7, sl1, hls0.slen, hh0.noLoc, hls0.noLoc, x1, x2, k1, k2, eimpl_GiveTubeOf_impl_in, impl_in]
      exact ⟨_, m0⟩
    cases k3 : inB s 0 300
    · simp [cimpl_GiveTubeOf, St.push, Heap.push, e6, e7, sl1, hls0.slen, hh0.noLoc, hls0.noLoc, x1, x2, k1, k2, k3, eimpl_GiveTubeOf_impl_in, impl_in]
      exact ⟨_, m0⟩
    cases k4 : inB w.quick 1 50
    · simp [cimpl_GiveTubeOf, St.push, Heap.push, e1, e6, e7, sl1, hls0.slen, hh0.noLoc, hls0.noLoc, x1, x2, k1, k2, k3, k4, eimpl_GiveTubeOf_impl_in, impl_in]
      exact ⟨_, m0⟩
    cases k5 : inB w.slow 1 50
    · simp [cimpl_GiveTubeOf, St.push, Heap.push, e1, e2, e6, e7, sl1, hls0.slen, hh0.noLoc, hls0.noLoc, x1, x2, k1, k2, k3, k4, k5, eimpl_GiveTubeOf_impl_in, impl_in]
      exact ⟨_, m0⟩
    cases k6 : inB w.from_ 0 10000
    · simp [cimpl_GiveTubeOf, St.push, Heap.push, e1, e2, e3, e6, e7, sl1, hls0.slen, hh0.noLoc, hls0.noLoc, x1, x2, k1, k2, k3, k4, k5, k6, eimpl_GiveTubeOf_impl_in, impl_in]
      exact ⟨_, m0⟩
    have k7 : inB w.by_ 0 10000 = false := by simpa [tubeArgs, smallB, k1, k2, k3, k4, k5, k6] using hb
    simp [cimpl_GiveTubeOf, St.push, Heap.push, e1, e2, e3, e4, e6, e7, sl1, hls0.slen, hh0.noLoc, hls0.noLoc, x1, x2, k1, k2, k3, k4, k5, k6, k7, eimpl_GiveTubeOf_impl_in, impl_in]
    exact ⟨_, m0⟩
  cases hb : tubeArgs w k j s
  · obtain ⟨v, h', h1, c', fp, rfl, h2⟩ := runF_of (bad hb)
    exact ⟨c', h', fp, h1, h2⟩
  have hb' := hb
  simp only [tubeArgs, Bool.and_eq_true] at hb'
  obtain ⟨⟨k1, k2⟩, k0⟩ := hb'
  have k0' := k0
  simp only [smallB, Bool.and_eq_true] at k0'
  obtain ⟨⟨⟨⟨k4, k5⟩, k6⟩, k7⟩, k3⟩ := k0'
  obtain ⟨kn, rfl, hkn⟩ := inB_nat k1
  obtain ⟨jn, rfl, hjn⟩ := inB_nat k2
  obtain ⟨bq, bs, bf, bb, bt⟩ := small_bounds k0
  have hkw : kn < ws.length := by omega
  have hri0 := hel0 kn hkw hkn
  obtain ⟨cs, hcs⟩ : ∃ cs, cs = w.ways[kn] := ⟨_, rfl⟩
  rw [← hcs] at hri0
  obtain ⟨wc, hwc⟩ : ∃ wc, wc = ws[kn] := ⟨_, rfl⟩
  rw [← hwc] at hri0
  have hrl := hri0.le
  obtain ⟨V, hV⟩ : ∃ V, V = w.levels[jn] := ⟨_, rfl⟩
  obtain ⟨ub, up, ur, u1, _, u2, u3, u5, u4⟩ := hh0.ce1 hkw
  rw [← hwc] at u5 u4
  have hub := ho.lt u2
  have z0 : ¬ ub = h.nx := by omega
  have z1 : ¬ ub = h.nx + 1 := by omega
  have z2 : ¬ ub = h.nx + 1 + 1 := by omega
  have z3 : ¬ ub = h.nx + 1 + 1 + 1 := by omega
  have hval : tubeOfB w kn jn s = (List.range (min cs.length 40)).map (tubeAt w cs V s) := by
    simp [tubeOfB, hb, hcs, hV, hkn, hjn]
  rw [hval]
  obtain ⟨H0, hH0⟩ : ∃ H0 : Heap, H0 = ⟨h.nx + 1 + 1 + 1 + 1, upd (upd (upd (upd (upd h.hp h.nx (some ⟨c.ces, 8, true⟩)) (h.nx + 1) (some ⟨[.int .i64 jn], 1, true⟩)) (h.nx + 1 + 1) (some ⟨[], 6, true⟩)) (h.nx + 1 + 1 + 1) (some ⟨[.nils], 1, true⟩)) (h.nx + 1 + 1 + 1) (some ⟨[wc], 1, true⟩)⟩ := ⟨_, rfl⟩
  have fr3 := fr2.trans (Fr.push fr2.ok ⟨[], 6, true⟩)
  have fr4 := fr3.trans (Fr.push fr3.ok ⟨[.nils], 1, true⟩)
  have cg := Chg.one fr4.ok (b := h.nx + 1 + 1 + 1) (by simp [Heap.push]) (some ⟨[wc], 1, true⟩)
  have hH0' : (⟨((((h.push ⟨c.ces, 8, true⟩).push ⟨[.int .i64 jn], 1, true⟩).push ⟨[], 6, true⟩).push ⟨[.nils], 1, true⟩).nx, upd ((((h.push ⟨c.ces, 8, true⟩).push ⟨[.int .i64 jn], 1, true⟩).push ⟨[], 6, true⟩).push ⟨[.nils], 1, true⟩).hp (h.nx + 1 + 1 + 1) (some ⟨[wc], 1, true⟩)⟩ : Heap) = H0 := by rw [hH0]; rfl
  rw [hH0'] at cg
  have r0 : H0.hp h.nx = some ⟨c.ces, 8, true⟩ := by rw [hH0]; simp [upd, show ¬ h.nx = h.nx + 1 + 1 + 1 by omega, show ¬ h.nx = h.nx + 1 + 1 by omega]
  have r1 : H0.hp (h.nx + 1) = some ⟨[.int .i64 jn], 1, true⟩ := by rw [hH0]; simp [upd]
  have r2 : H0.hp (h.nx + 1 + 1) = some ⟨[], 6, true⟩ := by rw [hH0]; simp [upd]
  have r3 : H0.hp (h.nx + 1 + 1 + 1) = some ⟨[wc], 1, true⟩ := by rw [hH0]; simp [upd]
  have frH : Fr h H0 := ⟨by rw [hH0]; show h.nx ≤ h.nx + 1 + 1 + 1 + 1; omega, fun x hx => by
    rw [cg.hp x (Nat.lt_of_lt_of_le hx fr4.nx) (by simp; omega)]
    exact fr4.hp x hx, cg.ok⟩
  have nH : NewF fBox h H0 (.sl (.inr (h.nx + 1 + 1)) 0 0 .own) [] [h.nx + 1 + 1] := ⟨.inr ⟨h.nx + 1 + 1, rfl, r2, rfl⟩, frH, by simp; omega⟩
  have hnx4 : H0.nx = h.nx + 1 + 1 + 1 + 1 := by rw [hH0]
  have a1 : ¬ h.nx = h.nx + 1 + 1 := by omega
  have a2 : ¬ h.nx = h.nx + 1 + 1 + 1 := by omega
  have a3 : ¬ h.nx + 1 = h.nx + 1 + 1 := by omega
  have a4 : ¬ h.nx + 1 = h.nx + 1 + 1 + 1 := by omega
  have a5 : ¬ h.nx + 1 + 1 = h.nx + 1 + 1 + 1 := by omega
  have a6 : ¬ h.nx = h.nx + 1 := by omega
  obtain ⟨v, h', h1, c', fp, rfl, h2⟩ := runF_of (env := eimpl_GiveTubeOf) (code := cimpl_GiveTubeOf) (rs := [.t 8]) (args := [.v (.agg c.ces), .v (.c (.int .i64 kn)), .v (.c (.int .i64 jn)), .v (.c (.int .i64 s))]) (h := h) (K := fun v h' => ∃ c' fp, v = .v (.c c') ∧ NewF fBox h h' c' ((List.range (min cs.length 40)).map (tubeAt w cs V s)) fp) (by
    simp [cimpl_GiveTubeOf, St.push, Heap.push, e1, e2, e3, e4, e6, e7, sl1, hls0.slen, hh0.noLoc, hls0.noLoc, x1, x2, k1, k2, k3, k4, k5, k6, k7, eimpl_GiveTubeOf_impl_in, impl_in, u1, u2, u3, u5, z0, z1, z2, z3, hri0.noLoc, hri0.slen, a1, a2, a3, a4, a5, a6, ← hH0, r3]
    refine AW_each (min cs.length 40) (fun i x => x.1 3 = .v (.c (.int .i64 s)) ∧ x.1 4 = .v (.c (.ptr (.inr h.nx) 0)) ∧ x.1 11 = .v (.c (.fn 113 [(.inr h.nx, 0), (.inr (h.nx + 1), 0), (.inr (h.nx + 1 + 1 + 1), 0)])) ∧ x.1 69 = .v (.c wc) ∧ x.1 70 = .v (.c (.int .i64 cs.length)) ∧ x.1 71 = .v (.c (.int .i64 i)) ∧ H0.nx ≤ x.2.h.nx ∧ x.2.h.hp h.nx = some ⟨c.ces, 8, true⟩ ∧ x.2.h.hp (h.nx + 1) = some ⟨[.int .i64 jn], 1, true⟩ ∧ x.2.h.hp (h.nx + 1 + 1 + 1) = some ⟨[wc], 1, true⟩ ∧ ∃ c9 fp, x.1 9 = .v (.c c9) ∧ NewF fBox h x.2.h c9 ((List.range i).map (tubeAt w cs V s)) fp ∧ h.nx ∉ fp ∧ h.nx + 1 ∉ fp ∧ h.nx + 1 + 1 + 1 ∉ fp) ?_ ?_ ?_
    · simp [hri0.noLoc, r0, r1, r3]
      exact ⟨_, nH, by simp; omega, by simp, by simp⟩
    · rintro i ⟨T, ⟨H, lc⟩⟩ hin ⟨t3, t4, t11, t69, t70, t71, hnx, q0, q1, q3, c9, fp, t9, nw, m0, m1, m3⟩
      simp only at t3 t4 t9 t11 t69 t70 t71 hnx q0 q1 q3 nw
      have hin' : i < cs.length := by omega
      obtain ⟨vb, vp, vr, v1, _, v2, v3, v5⟩ := (hls0.keep ho nw.fr).int1 hjn
      rw [← hV] at v5
      obtain ⟨eb, ep, er, g1, _, g2, g3, g4, g5, g6⟩ := (hri0.keep ho nw.fr).cell hin'
      have hlt : (List.map (tubeAt w cs V s) (List.range i)).length + 1 ≤ lim := by rw [List.length_map, List.length_range]; simp only [lim]; omega
      obtain ⟨c'', h'', fp'', nw', nx', hp', ge', hap⟩ := nw.append1 (tubeAt w cs V s i) hlt
      rw [← range_succ_map] at nw'
      have hwr := wrap1 (i := i) (by omega)
      have hin2 : (i : Int) < cs.length := by omega
      have hin3 : ¬ (i : Int) = 40 := by omega
      have hi0 : 0 ≤ (i : Int) := by omega
      have hnl : (cs.length : Int) ≤ 9223372036854775807 := by omega
      have hcast : ((i + 1 : Nat) : Int) = (i : Int) + 1 := rfl
      rw [hcast] at hwr
      have hB : fBox.ces (tubeAt w cs V s i) = [.int .i64 cs[i].x, .int .i64 cs[i].y, .int .i64 (min (lvl V (if 0 < (i : Int) then (i : Int) - 1 else i) cs.length) (lvl V i cs.length)), .int .i64 (max (lvl V (if 0 < (i : Int) then (i : Int) - 1 else i) cs.length) (lvl V i cs.length)), .int .i64 (w.from_ + s + i * w.quick), .int .i64 (w.by_ + s + (i + 1) * w.slow - 1)] := by
        simp [fBox, tubeAt, hin']
      rw [hB] at hap
      simp only [show fBox.sz = 6 from rfl] at hap
      obtain ⟨I, hI⟩ : ∃ I : Int, I = i := ⟨_, rfl⟩
      rw [← hI] at t71 g1 hwr hin2 hin3 hi0 hap
      have b1 := mul_bound hi0 (by omega) (show 0 ≤ w.quick by omega) bq.2
      have b2 := mul_bound (show 0 ≤ I + 1 by omega) (by omega) (show 0 ≤ w.slow by omega) bs.2
      obtain ⟨P, hP⟩ : ∃ P, P = I * w.quick := ⟨_, rfl⟩
      obtain ⟨Q, hQ⟩ : ∃ Q, Q = (I + 1) * w.slow := ⟨_, rfl⟩
      rw [← hP] at b1 hap
      rw [← hQ] at b2 hap
      have w0 : IntKind.i64.wrap (I - 1) = I - 1 := wrap_i64 (by omega) (by omega)
      have w1 : IntKind.i64.wrap (w.from_ + s) = w.from_ + s := wrap_i64 (by omega) (by omega)
      have w2 : IntKind.i64.wrap P = P := wrap_i64 (by omega) (by omega)
      have w3 : IntKind.i64.wrap (w.from_ + s + P) = w.from_ + s + P := wrap_i64 (by omega) (by omega)
      have w4 : IntKind.i64.wrap (w.by_ + s) = w.by_ + s := wrap_i64 (by omega) (by omega)
      have w6 : IntKind.i64.wrap Q = Q := wrap_i64 (by omega) (by omega)
      have w7 : IntKind.i64.wrap (w.by_ + s + Q) = w.by_ + s + Q := wrap_i64 (by omega) (by omega)
      have w8 : IntKind.i64.wrap (w.by_ + s + Q - 1) = w.by_ + s + Q - 1 := wrap_i64 (by omega) (by omega)
      have nl := hri0.noLoc
      have y1 := impl_GiveTubeOf_1 H h.nx (h.nx + 1) (h.nx + 1 + 1 + 1) c 0 0 jn I V wc .nils cs.length q0 q1 q3 vb vp vr v1 v2 v5 hls0.noLoc nl hri0.slen hi0 (by omega) hnl
      have hfl := nw.own.noLoc
      have hfl' := nw'.own.noLoc
      have hmx : max2 (I - 1) 0 = if 0 < I then I - 1 else I := by rw [max2_eq]; split <;> omega
      have y2 := impl_GiveTubeOf_1 H h.nx (h.nx + 1) (h.nx + 1 + 1 + 1) c 0 0 jn (if 0 < I then I - 1 else I) V wc .nils cs.length q0 q1 q3 vb vp vr v1 v2 v5 hls0.noLoc nl hri0.slen (by split <;> omega) (by split <;> omega) hnl
      obtain ⟨J, hJ⟩ : ∃ J, J = if 0 < I then I - 1 else I := ⟨_, rfl⟩
      rw [← hJ] at hmx y2 hap
      obtain ⟨A, hA⟩ : ∃ A, A = lvl V J cs.length := ⟨_, rfl⟩
      obtain ⟨B, hBB⟩ : ∃ B, B = lvl V I cs.length := ⟨_, rfl⟩
      rw [← hA] at y2 hap
      rw [← hBB] at y1 hap
      rw [show min A B = min2 A B from (min2_eq A B).symm, show max A B = max2 A B from (max2_eq A B).symm] at hap
      have hl1' : h.nx < H.nx := by omega
      have hl2' : h.nx + 1 < H.nx := by omega
      have hl3' : h.nx + 1 + 1 + 1 < H.nx := by omega
      simp [cimpl_GiveTubeOf_L0, t3, t4, t9, t11, t69, t70, t71, e1, e2, e3, e4, e7, hin2, hin3, q0, g1, g2, g3, g4, g5, g6, nl, hfl, hfl', eimpl_GiveTubeOf_impl_GiveTubeOf_1, y1, y2, hmx, w0, w1, ← hP, ← hQ, w2, w3, w4, w6, w7, w8, hwr, hap]
      refine ⟨hI, by omega, ?_, ?_, ?_, fp'', nw', ?_, ?_, ?_⟩
      · rw [hp' _ hl1' m0]; exact q0
      · rw [hp' _ hl2' m1]; exact q1
      · rw [hp' _ hl3' m3]; exact q3
      · intro hx; have := ge' _ hx; omega
      · intro hx; have := ge' _ hx; omega
      · intro hx; have := ge' _ hx; omega
    · rintro ⟨T, ⟨H, lc⟩⟩ ⟨t3, t4, t11, t69, t70, t71, hnx, q0, q1, q3, c9, fp, t9, nw, m0, m1, m3⟩
      simp only at t3 t4 t9 t11 t69 t70 t71 hnx q0 q1 q3 nw
      by_cases hq : cs.length ≤ 40
      · have hm : min cs.length 40 = cs.length := by omega
        rw [hm] at t71 nw
        simp [cimpl_GiveTubeOf_L0, t9, t70, t71, nw.own.noLoc, hm]
        exact ⟨fp, nw⟩
      · have hm : min cs.length 40 = 40 := by omega
        have hq' : 40 < cs.length := by omega
        obtain ⟨eb, ep, er, g1, _, g2, g3, g4, g5, g6⟩ := (hri0.keep ho nw.fr).cell hq'
        have g1' : wc.eltAt 2 40 = some (.inr eb, ep) := g1
        rw [hm] at t71 nw
        simp [cimpl_GiveTubeOf_L0, t9, t69, t70, t71, nw.own.noLoc, hri0.noLoc, show (40 : Int) < cs.length by omega, hq', hm, g1', g2, g3, g4]
        exact ⟨fp, nw⟩)
  exact ⟨c', h', fp, h1, h2⟩
end Go.Abs

/-
  The exact law of GiveTubeOf, over what its functions compute.
-/

namespace Go.Abs
set_option linter.unusedSimpArgs false
set_option linter.unusedVariables false
attribute [local simp] AW_skip AW_exit AW_ret AW_seq AW_block AW_cond CW_ite AW_reg AW_regD AW_regDc RD_nil RD_cons keyEq hasP hasH hasL chkL chkH recK recH inRange lightKey BookC.len BookC.take WishC.len WishC.take RW_nil RW_cons RW_guard GW_t GW_f GW_gt GW_gf GW_tup GY_some GY_tt GY_ff gd_t gd_f pk_t pk_f pk_and pk_or pk_andc pk_orc pk_bool gd_gd SW_some ThenQ_normal ThenQ_exit ThenQ_ret BlockQ_normal BlockQ_exit BlockQ_ret kill_nil kill_cons killT_at killL_at upo_some upo_none ev_t ev_k FinQ_ret FinQ_normal upd_eq upd_ne argsT_zero argsT_succ aop.eq_1 aop_pick aop.eq_3 aop.eq_4 aop.eq_5 aop.eq_6 aop.eq_7 aop.eq_8 aop.eq_9 aop.eq_10 aop.eq_11 aop.eq_12 aop.eq_13 aop.eq_14 aop.eq_15 aop.eq_16 aop.eq_17 aop.eq_18 aop.eq_19 aop.eq_20 aop.eq_21 aop_slice_hi aop_slice_lo aop.eq_23 aop.eq_24 aop.eq_26 aop.eq_27 aop.eq_28 aop.eq_29 aop.eq_31 aop.eq_32 aop_maxs2 aop_mins2 aop_mins3 aop_len aop_iaddr Av.bool? Av.ptr? Av.int? Av.int64? Av.str? Av.agg? ressA resA resOf noLoc_int noLoc_bool noLoc_str noLoc_nils noLoc_nilp noLoc_ptrl noLoc_ptrr noLoc_sll noLoc_slr noLoc_fn noLoc_tc noLoc_tagg noLoc_av noLoc_atup ce_c tv_v cells_c cells_agg noLocs keyLoc evs callA St.set St.get unAv binCe killV_int killV_bool killV_str killV_nils killV_nilp killV_agg killV_no killV_tup killV_ptrl killV_ptrr killV_sll killV_slr killV_fn killV_noLoc fillA repl ptrs List.map
attribute [local congr] GY_congr


set_option maxRecDepth 100000 in
theorem laws_FnExactGiveTubeOf (h : Heap) (cu : WishC) (u : Wish) (k : Int) (j : Int) (s : Int) (ho : HOk h) (ru : RdWish (fun b => b < h.nx) h cu u ∧ SzS u.name) (kk : -9223372036854775808 ≤ k ∧ k ≤ 9223372036854775807) (kj : -9223372036854775808 ≤ j ∧ j ≤ 9223372036854775807) (ks : -9223372036854775808 ≤ s ∧ s ≤ 9223372036854775807) :
    ∃ h', Flaws_FnExactGiveTubeOf [.v (.agg cu.ces), .v (.c (.int .i64 k)), .v (.c (.int .i64 j)), .v (.c (.int .i64 s))] h = some (.v (.c (.bool true)), h') := by
  unfold Flaws_FnExactGiveTubeOf
  obtain ⟨ru, wu⟩ := ru
  obtain ⟨qu, su, leu, smu⟩ := laws_szGiveWish h cu u 1048576 ru wu (by omega)
  rcases leu with rfl | leu
  · refine ⟨_, runF_eq (h' := h) ?_⟩
    simp [claws_FnExactGiveTubeOf, elaws_FnExactGiveTubeOf_laws_szGiveWish, su]
  have nu : ¬ qu < 0 := by omega
  replace smu := smu leu.1
  obtain ⟨c1, h2, fpc1, t3, m4⟩ := toWish' h cu u ho ru smu
  have f5 := m4.fr
  have nx1 := f5.nx
  have gec1 : ∀ x0, x0 ∈ fpc1 → h.nx ≤ x0 := m4.ge
  have ltc1 : ∀ x0, x0 ∈ fpc1 → x0 < h2.nx := fun x0 hb => OwnWish.lt (m4.own : OwnWish h2 c1 u fpc1) f5.ok hb
  have o6 : OwnWish h2 c1 u fpc1 := m4.own
  have bnd := (tubeOfB_len u k j s)
  obtain ⟨w, h8, fpw, t9, m10⟩ := spec_GiveTubeOf h2 _ _ k j s f5.ok (o6.rd (S := fun x0 => x0 ∈ fpc1) smu (fun x0 hb => hb))
  have f11 := m10.fr
  have nx2 := f11.nx
  have o12 : OwnF fBox h8 w (tubeOfB u k j s) fpw := m10.own
  have gew : ∀ x0, x0 ∈ fpw → h2.nx ≤ x0 := m10.ge
  have ltw : ∀ x0, x0 ∈ fpw → x0 < h8.nx := fun x0 hb => OwnF.lt o12 f11.ok hb
  have b13 := ru.keep ho f5
  have b14 := b13.keep f5.ok f11
  obtain ⟨c15, h16, fpc15, t17, m18⟩ := toWish' h8 cu u f11.ok b14 smu
  have f19 := m18.fr
  have nx3 := f19.nx
  have gec15 : ∀ x0, x0 ∈ fpc15 → h8.nx ≤ x0 := m18.ge
  have ltc15 : ∀ x0, x0 ∈ fpc15 → x0 < h16.nx := fun x0 hb => OwnWish.lt (m18.own : OwnWish h16 c15 u fpc15) f19.ok hb
  have o20 : OwnWish h16 c15 u fpc15 := m18.own
  obtain ⟨g, h22, fpg, t23, m24⟩ := impl_GiveTubeOf h16 _ _ k j s f19.ok (o20.rd (S := fun x0 => x0 ∈ fpc15) smu (fun x0 hb => hb))
  have f25 := m24.fr
  have nx4 := f25.nx
  have o26 : OwnF fBox h22 g (tubeOfB u k j s) fpg := m24.own
  have geg : ∀ x0, x0 ∈ fpg → h16.nx ≤ x0 := m24.ge
  have ltg : ∀ x0, x0 ∈ fpg → x0 < h22.nx := fun x0 hb => OwnF.lt o26 f25.ok hb
  have b27 := o12.chg f11.ok (Fr.chg (fp := []) f19) (by simp)
  have b28 := b27.chg f19.ok (Fr.chg (fp := []) f25) (by simp)
  obtain ⟨q30, e29, z31⟩ := laws_eqGiveBoxS h22 g w _ _ (o26.rd (S := fun x0 => x0 ∈ fpg) (by have q := bnd; omega) (fun x0 hb => hb)) (b28.rd (S := fun x0 => x0 ∈ fpw) (by have q := bnd; omega) (fun x0 hb => hb))
  obtain rfl := z31.2 rfl
  have b32 := b14.keep f11.ok f19
  have b33 := b32.keep f19.ok f25
  obtain ⟨c34, h35, fpc34, t36, m37⟩ := toWish' h22 cu u f25.ok b33 smu
  have f38 := m37.fr
  have nx5 := f38.nx
  have gec34 : ∀ x0, x0 ∈ fpc34 → h22.nx ≤ x0 := m37.ge
  have ltc34 : ∀ x0, x0 ∈ fpc34 → x0 < h35.nx := fun x0 hb => OwnWish.lt (m37.own : OwnWish h35 c34 u fpc34) f38.ok hb
  have o39 : OwnWish h35 c34 u fpc34 := m37.own
  have b40 := o20.chg f19.ok (Fr.chg (fp := []) f25) (by simp)
  have b41 := b40.chg f25.ok (Fr.chg (fp := []) f38) (by simp)
  obtain ⟨q43, e42, z44⟩ := laws_eqGiveWish h35 c15 c34 _ _ (b41.rd (S := fun x0 => x0 ∈ fpc15) smu (fun x0 hb => hb)) (o39.rd (S := fun x0 => x0 ∈ fpc34) smu (fun x0 hb => hb))
  obtain rfl := z44.2 rfl
  have cbu := cntWish_le smu
  obtain ⟨h48, t45, o46, d47⟩ := laws_markGiveWish h35 c15 u fpc15 (1) f38.ok b41 smu (by omega)
  have nx6 := d47.nx
  have nk : ¬ (1 + cntWish u) < 0 := by omega
  have b49 := o26.chg f25.ok (Fr.chg (fp := []) f38) (by simp)
  have b50 := b49.chg f38.ok d47 (by
    intro x0 hb hn
    have i1 := gec15 x0 hn
    have i2 := ltc15 x0 hn
    have i3 := geg x0 hb
    have i4 := ltg x0 hb
    omega)
  have b51 := b28.chg f25.ok (Fr.chg (fp := []) f38) (by simp)
  have b52 := b51.chg f38.ok d47 (by
    intro x0 hb hn
    have i1 := gec15 x0 hn
    have i2 := ltc15 x0 hn
    have i3 := gew x0 hb
    have i4 := ltw x0 hb
    omega)
  obtain ⟨q54, e53, z55⟩ := laws_eqGiveBoxS h48 g w _ _ (b50.rd (S := fun x0 => x0 ∈ fpg) (by have q := bnd; omega) (fun x0 hb => hb)) (b52.rd (S := fun x0 => x0 ∈ fpw) (by have q := bnd; omega) (fun x0 hb => hb))
  obtain rfl := z55.2 rfl
  have cmp1 := ()
  obtain ⟨h59, t56, o57, d58⟩ := laws_markGiveBoxS h48 g (tubeOfB u k j s) fpg 1 d47.ok b50 (by have q := bnd; omega) (by omega)
  have nx7 := d58.nx
  have nm : ¬ (1 + 6 * ((tubeOfB u k j s).length : Int)) < 0 := by omega
  have u60 := laws_heldGiveBoxS h59 g ((tubeOfB u k j s)).length 1 (o57.rd (S := fun x0 => x0 ∈ fpg) (by rw [marksBox_length]; have q := bnd; omega) (fun x0 hb => hb)) (by have q := bnd; omega) (by omega)
  have b61 := b33.keep f25.ok f38
  have b62 := b61.chg f38.ok d47 (by
    intro x0 hb hn
    have i1 := gec15 x0 hn
    have i2 := ltc15 x0 hn
    replace hb : x0 < h.nx := hb
    omega)
  have b63 := b62.chg d47.ok d58 (by
    intro x0 hb hn
    have i1 := geg x0 hn
    have i2 := ltg x0 hn
    replace hb : x0 < h.nx := hb
    omega)
  obtain ⟨c64, h65, fpc64, t66, m67⟩ := toWish' h59 cu u d58.ok b63 smu
  have f68 := m67.fr
  have nx8 := f68.nx
  have gec64 : ∀ x0, x0 ∈ fpc64 → h59.nx ≤ x0 := m67.ge
  have ltc64 : ∀ x0, x0 ∈ fpc64 → x0 < h65.nx := fun x0 hb => OwnWish.lt (m67.own : OwnWish h65 c64 u fpc64) f68.ok hb
  have o69 : OwnWish h65 c64 u fpc64 := m67.own
  obtain ⟨v, h70, fpv, t71, m72⟩ := impl_GiveTubeOf h65 _ _ k j s f68.ok (o69.rd (S := fun x0 => x0 ∈ fpc64) smu (fun x0 hb => hb))
  have f73 := m72.fr
  have nx9 := f73.nx
  have o74 : OwnF fBox h70 v (tubeOfB u k j s) fpv := m72.own
  have gev : ∀ x0, x0 ∈ fpv → h65.nx ≤ x0 := m72.ge
  have ltv : ∀ x0, x0 ∈ fpv → x0 < h70.nx := fun x0 hb => OwnF.lt o74 f73.ok hb
  have b75 := b52.chg d47.ok d58 (by
    intro x0 hb hn
    have i1 := geg x0 hn
    have i2 := ltg x0 hn
    have i3 := gew x0 hb
    have i4 := ltw x0 hb
    omega)
  have b76 := b75.chg d58.ok (Fr.chg (fp := []) f68) (by simp)
  have b77 := b76.chg f68.ok (Fr.chg (fp := []) f73) (by simp)
  obtain ⟨q79, e78, z80⟩ := laws_eqGiveBoxS h70 v w _ _ (o74.rd (S := fun x0 => x0 ∈ fpv) (by have q := bnd; omega) (fun x0 hb => hb)) (b77.rd (S := fun x0 => x0 ∈ fpw) (by have q := bnd; omega) (fun x0 hb => hb))
  obtain rfl := z80.2 rfl
  have b81 := o57.chg d58.ok (Fr.chg (fp := []) f68) (by simp)
  have b82 := b81.chg f68.ok (Fr.chg (fp := []) f73) (by simp)
  have u83 := laws_heldGiveBoxS h70 g ((tubeOfB u k j s)).length 1 (b82.rd (S := fun x0 => x0 ∈ fpg) (by rw [marksBox_length]; have q := bnd; omega) (fun x0 hb => hb)) (by have q := bnd; omega) (by omega)
  refine ⟨_, runF_eq (h' := h70) ?_⟩
  simp [claws_FnExactGiveTubeOf, su, nu, t3, t9, o12.noLoc, t17, t23, o26.noLoc, e29, t36, e42, t45, nk, e53, t56, nm, u60, t66, t71, o74.noLoc, e78, u83, elaws_FnExactGiveTubeOf_impl_GiveTubeOf, elaws_FnExactGiveTubeOf_laws_eqGiveBoxS, elaws_FnExactGiveTubeOf_laws_eqGiveWish, elaws_FnExactGiveTubeOf_laws_heldGiveBoxS, elaws_FnExactGiveTubeOf_laws_markGiveBoxS, elaws_FnExactGiveTubeOf_laws_markGiveWish, elaws_FnExactGiveTubeOf_laws_szGiveWish, elaws_FnExactGiveTubeOf_laws_toGiveWish, elaws_FnExactGiveTubeOf_spec_GiveTubeOf]
end Go.Abs
