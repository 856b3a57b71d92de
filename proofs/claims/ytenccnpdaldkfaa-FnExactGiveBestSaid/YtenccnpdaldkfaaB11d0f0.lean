/-
  The tube of a wish, as the program finds it.
-/
import Derived.Test.YtenccnpdaldkfaaB10f9dd
import Derived.Test.YtenccnpdaldkfaaB97e07
import Derived.Test.YtenccnpdaldkfaaB80350
set_option linter.unusedSimpArgs false
set_option linter.unusedVariables false
namespace Go.Abs
set_option linter.unusedSimpArgs false
set_option linter.unusedVariables false
attribute [local simp] AW_skip AW_exit AW_ret AW_seq AW_block AW_cond CW_ite AW_reg AW_regD AW_regDc RD_nil RD_cons keyEq hasP hasH hasL chkL chkH recK recH inRange lightKey BookC.len BookC.take WishC.len WishC.take RW_nil RW_cons RW_guard GW_t GW_f GW_gt GW_gf GW_tup GY_some GY_tt GY_ff gd_t gd_f pk_t pk_f pk_and pk_or pk_andc pk_orc pk_bool gd_gd SW_some ThenQ_normal ThenQ_exit ThenQ_ret BlockQ_normal BlockQ_exit BlockQ_ret kill_nil kill_cons killT_at killL_at upo_some upo_none ev_t ev_k FinQ_ret FinQ_normal upd_eq upd_ne argsT_zero argsT_succ aop.eq_1 aop_pick aop.eq_3 aop.eq_4 aop.eq_5 aop.eq_6 aop.eq_7 aop.eq_8 aop.eq_9 aop.eq_10 aop.eq_11 aop.eq_12 aop.eq_13 aop.eq_14 aop.eq_15 aop.eq_16 aop.eq_17 aop.eq_18 aop.eq_19 aop.eq_20 aop.eq_21 aop_slice_hi aop_slice_lo aop.eq_23 aop.eq_24 aop.eq_26 aop.eq_27 aop.eq_28 aop.eq_29 aop.eq_31 aop.eq_32 aop_maxs2 aop_mins2 aop_mins3 aop_len aop_iaddr Av.bool? Av.ptr? Av.int? Av.int64? Av.str? Av.agg? ressA resA resOf noLoc_int noLoc_bool noLoc_str noLoc_nils noLoc_nilp noLoc_ptrl noLoc_ptrr noLoc_sll noLoc_slr noLoc_fn noLoc_tc noLoc_tagg noLoc_av noLoc_atup ce_c tv_v cells_c cells_agg noLocs keyLoc evs callA St.set St.get unAv binCe killV_int killV_bool killV_str killV_nils killV_nilp killV_agg killV_no killV_tup killV_ptrl killV_ptrr killV_sll killV_slr killV_fn killV_noLoc fillA repl ptrs List.map
attribute [local congr] GY_congr

theorem impl_GiveTubeOf_1 (h : Heap) (a b d : Nat) (c : WishC) (ls cs : Nat) (jn : Nat) (i V : Int) (wc : Ce) (lv : Ce) (n : Nat) (p1 : h.hp a = some ⟨c.ces, 8, true⟩) (p2 : h.hp b = some ⟨[.int .i64 jn], 1, true⟩) (p3 : h.hp d = some ⟨[wc], 1, true⟩)
    (vb vp : Nat) (vr : Row) (v1 : c.l.eltAt 1 jn = some (.inr vb, vp)) (v2 : h.hp vb = some vr) (v5 : vr.cs[vp]? = some (.int .i64 V)) (hl : c.l.noLoc = true) (hw : wc.noLoc = true) (hn : wc.slen = some n) (hi : 0 ≤ i) (hin : i ≤ n) (hn' : (n : Int) ≤ 9223372036854775807) :
    Fimpl_GiveTubeOf_1 [.v (.c (.int .i64 i)), .v (.c (.ptr (.inr a) 0)), .v (.c (.ptr (.inr b) 0)), .v (.c (.ptr (.inr d) 0))] h = some (.v (.c (.int .i64 (lvl V i n))), h) := by
  unfold Fimpl_GiveTubeOf_1
  have w1 : IntKind.i64.wrap ((n : Int) - 1) = n - 1 := wrap_i64 (by omega) (by omega)
  have w2 : IntKind.i64.wrap ((n : Int) - 1 - i) = n - 1 - i := wrap_i64 (by omega) (by omega)
  have e7 := c.e7
  have hv : min2 (min2 V i) ((n : Int) - 1 - i) = lvl V i n := by rw [min2_eq, min2_eq]; unfold lvl; omega
  refine runF_eq ?_
  simp [cimpl_GiveTubeOf_1, p1, p2, p3, e7, v1, v2, v5, hl, hw, hn, w1, w2, hv]

set_option maxHeartbeats 4000000 in
theorem impl_GiveTubeOf {S : Nat → Prop} (h : Heap) (c : WishC) (w : Wish) (k j s : Int) (ho : HOk h) (hr : RdWish S h c w) :
    ∃ c' h' fp, Fimpl_GiveTubeOf [.v (.agg c.ces), .v (.c (.int .i64 k)), .v (.c (.int .i64 j)), .v (.c (.int .i64 s))] h = some (.v (.c c'), h') ∧ NewF fBox h h' c' (tubeOfB w k j s) fp := by
  unfold Fimpl_GiveTubeOf
  have e1 := hr.e1
  have e2 := hr.e2
  have e3 := hr.e3
  have e4 := hr.e4
  have e6 := c.e6
  have e7 := c.e7
  obtain ⟨ws, hh0, hlen, hel0⟩ := hr.ws
  have hls0 := hr.ls
  have hl1 := hh0.le
  have hl2 := hls0.le
  have x1 : IntKind.i64.wrap ((w.ways.length : Int) - 1) = (w.ways.length : Int) - 1 := wrap_i64 (by omega) (by omega)
  have x2 : IntKind.i64.wrap ((w.levels.length : Int) - 1) = (w.levels.length : Int) - 1 := wrap_i64 (by omega) (by omega)
  have sl1 := hh0.slen
  rw [hlen] at sl1
  have fr1 := Fr.push ho ⟨c.ces, 8, true⟩
  have fr2 := fr1.trans (Fr.push fr1.ok ⟨[.int .i64 j], 1, true⟩)
  have n0 : NewF fBox h ((h.push ⟨c.ces, 8, true⟩).push ⟨[.int .i64 j], 1, true⟩) .nils [] [] := ⟨OwnF.nil, fr2, by simp⟩
  have bad : tubeArgs w k j s = false → AW eimpl_GiveTubeOf cimpl_GiveTubeOf (FinQ [.t 8] fun v h' => ∃ c' fp, v = .v (.c c') ∧ NewF fBox h h' c' (tubeOfB w k j s) fp) (argsT [.v (.agg c.ces), .v (.c (.int .i64 k)), .v (.c (.int .i64 j)), .v (.c (.int .i64 s))], ⟨h, nol⟩) := by
    intro hb
    rw [show tubeOfB w k j s = [] by simp [tubeOfB, hb]]
    have m0 : NewF fBox h ⟨h.nx + 1 + 1, upd (upd h.hp h.nx (some ⟨c.ces, 8, true⟩)) (h.nx + 1) (some ⟨[.int .i64 j], 1, true⟩)⟩ .nils [] [] := n0
    cases k1 : inB k 0 ((w.ways.length : Int) - 1)
    · simp [cimpl_GiveTubeOf, St.push, Heap.push, e6, sl1, hh0.noLoc, x1, k1, eimpl_GiveTubeOf_impl_in, impl_in]
      exact ⟨_, m0⟩
    cases k2 : inB j 0 ((w.levels.length : Int) - 1)
    · simp [cimpl_GiveTubeOf, St.push, Heap.push, e6, e7, sl1, hls0.slen, hh0.noLoc, hls0.noLoc, x1, x2, k1, k2, eimpl_GiveTubeOf_impl_in, impl_in]
      exact ⟨_, m0⟩
    cases k3 : inB s 0 300
    · simp [cimpl_GiveTubeOf, St.push, Heap.push, e6, e7, sl1, hls0.slen, hh0.noLoc, hls0.noLoc, x1, x2, k1, k2, k3, eimpl_GiveTubeOf_impl_in, impl_in]
      exact ⟨_, m0⟩
    cases k4 : inB w.quick 1 50
    · simp [cimpl_GiveTubeOf, St.push, Heap.push, e1, e6, e7, sl1, hls0.slen, hh0.noLoc, hls0.noLoc, x1, x2, k1, k2, k3, k4, eimpl_GiveTubeOf_impl_in, impl_in]
      exact ⟨_, m0⟩
    cases k5 : inB w.slow 1 50
    · simp [cimpl_GiveTubeOf, St.push, Heap.push, e1, e2, e6, e7, sl1, hls0.slen, hh0.noLoc, hls0.noLoc, x1, x2, k1, k2, k3, k4, k5, eimpl_GiveTubeOf_impl_in, impl_in]
      exact ⟨_, m0⟩
    cases k6 : inB w.from_ 0 10000
    · simp [cimpl_GiveTubeOf, St.push, Heap.push, e1, e2, e3, e6, e7, sl1, hls0.slen, hh0.noLoc, hls0.noLoc, x1, x2, k1, k2, k3, k4, k5, k6, eimpl_GiveTubeOf_impl_in, impl_in]
      exact ⟨_, m0⟩
    have k7 : inB w.by_ 0 10000 = false := by simpa [tubeArgs, smallB, k1, k2, k3, k4, k5, k6] using hb
    simp [cimpl_GiveTubeOf, St.push, Heap.push, e1, e2, e3, e4, e6, e7, sl1, hls0.slen, hh0.noLoc, hls0.noLoc, x1, x2, k1, k2, k3, k4, k5, k6, k7, eimpl_GiveTubeOf_impl_in, impl_in]
    exact ⟨_, m0⟩
  cases hb : tubeArgs w k j s
  · obtain ⟨v, h', h1, c', fp, rfl, h2⟩ := runF_of (bad hb)
    exact ⟨c', h', fp, h1, h2⟩
  have hb' := hb
  simp only [tubeArgs, Bool.and_eq_true] at hb'
  obtain ⟨⟨k1, k2⟩, k0⟩ := hb'
  have k0' := k0
  simp only [smallB, Bool.and_eq_true] at k0'
  obtain ⟨⟨⟨⟨k4, k5⟩, k6⟩, k7⟩, k3⟩ := k0'
  obtain ⟨kn, rfl, hkn⟩ := inB_nat k1
  obtain ⟨jn, rfl, hjn⟩ := inB_nat k2
  obtain ⟨bq, bs, bf, bb, bt⟩ := small_bounds k0
  have hkw : kn < ws.length := by omega
  have hri0 := hel0 kn hkw hkn
  obtain ⟨cs, hcs⟩ : ∃ cs, cs = w.ways[kn] := ⟨_, rfl⟩
  rw [← hcs] at hri0
  obtain ⟨wc, hwc⟩ : ∃ wc, wc = ws[kn] := ⟨_, rfl⟩
  rw [← hwc] at hri0
  have hrl := hri0.le
  obtain ⟨V, hV⟩ : ∃ V, V = w.levels[jn] := ⟨_, rfl⟩
  obtain ⟨ub, up, ur, u1, _, u2, u3, u5, u4⟩ := hh0.ce1 hkw
  rw [← hwc] at u5 u4
  have hub := ho.lt u2
  have z0 : ¬ ub = h.nx := by omega
  have z1 : ¬ ub = h.nx + 1 := by omega
  have z2 : ¬ ub = h.nx + 1 + 1 := by omega
  have z3 : ¬ ub = h.nx + 1 + 1 + 1 := by omega
  have hval : tubeOfB w kn jn s = (List.range (min cs.length 40)).map (tubeAt w cs V s) := by
    simp [tubeOfB, hb, hcs, hV, hkn, hjn]
  rw [hval]
  obtain ⟨H0, hH0⟩ : ∃ H0 : Heap, H0 = ⟨h.nx + 1 + 1 + 1 + 1, upd (upd (upd (upd (upd h.hp h.nx (some ⟨c.ces, 8, true⟩)) (h.nx + 1) (some ⟨[.int .i64 jn], 1, true⟩)) (h.nx + 1 + 1) (some ⟨[], 6, true⟩)) (h.nx + 1 + 1 + 1) (some ⟨[.nils], 1, true⟩)) (h.nx + 1 + 1 + 1) (some ⟨[wc], 1, true⟩)⟩ := ⟨_, rfl⟩
  have fr3 := fr2.trans (Fr.push fr2.ok ⟨[], 6, true⟩)
  have fr4 := fr3.trans (Fr.push fr3.ok ⟨[.nils], 1, true⟩)
  have cg := Chg.one fr4.ok (b := h.nx + 1 + 1 + 1) (by simp [Heap.push]) (some ⟨[wc], 1, true⟩)
  have hH0' : (⟨((((h.push ⟨c.ces, 8, true⟩).push ⟨[.int .i64 jn], 1, true⟩).push ⟨[], 6, true⟩).push ⟨[.nils], 1, true⟩).nx, upd ((((h.push ⟨c.ces, 8, true⟩).push ⟨[.int .i64 jn], 1, true⟩).push ⟨[], 6, true⟩).push ⟨[.nils], 1, true⟩).hp (h.nx + 1 + 1 + 1) (some ⟨[wc], 1, true⟩)⟩ : Heap) = H0 := by rw [hH0]; rfl
  rw [hH0'] at cg
  have r0 : H0.hp h.nx = some ⟨c.ces, 8, true⟩ := by rw [hH0]; simp [upd, show ¬ h.nx = h.nx + 1 + 1 + 1 by omega, show ¬ h.nx = h.nx + 1 + 1 by omega]
  have r1 : H0.hp (h.nx + 1) = some ⟨[.int .i64 jn], 1, true⟩ := by rw [hH0]; simp [upd]
  have r2 : H0.hp (h.nx + 1 + 1) = some ⟨[], 6, true⟩ := by rw [hH0]; simp [upd]
  have r3 : H0.hp (h.nx + 1 + 1 + 1) = some ⟨[wc], 1, true⟩ := by rw [hH0]; simp [upd]
  have frH : Fr h H0 := ⟨by rw [hH0]; show h.nx ≤ h.nx + 1 + 1 + 1 + 1; omega, fun x hx => by
    rw [cg.hp x (Nat.lt_of_lt_of_le hx fr4.nx) (by simp; omega)]
    exact fr4.hp x hx, cg.ok⟩
  have nH : NewF fBox h H0 (.sl (.inr (h.nx + 1 + 1)) 0 0 .own) [] [h.nx + 1 + 1] := ⟨.inr ⟨h.nx + 1 + 1, rfl, r2, rfl⟩, frH, by simp; omega⟩
  have hnx4 : H0.nx = h.nx + 1 + 1 + 1 + 1 := by rw [hH0]
  have a1 : ¬ h.nx = h.nx + 1 + 1 := by omega
  have a2 : ¬ h.nx = h.nx + 1 + 1 + 1 := by omega
  have a3 : ¬ h.nx + 1 = h.nx + 1 + 1 := by omega
  have a4 : ¬ h.nx + 1 = h.nx + 1 + 1 + 1 := by omega
  have a5 : ¬ h.nx + 1 + 1 = h.nx + 1 + 1 + 1 := by omega
  have a6 : ¬ h.nx = h.nx + 1 := by omega
  obtain ⟨v, h', h1, c', fp, rfl, h2⟩ := runF_of (env := eimpl_GiveTubeOf) (code := cimpl_GiveTubeOf) (rs := [.t 8]) (args := [.v (.agg c.ces), .v (.c (.int .i64 kn)), .v (.c (.int .i64 jn)), .v (.c (.int .i64 s))]) (h := h) (K := fun v h' => ∃ c' fp, v = .v (.c c') ∧ NewF fBox h h' c' ((List.range (min cs.length 40)).map (tubeAt w cs V s)) fp) (by
    simp [cimpl_GiveTubeOf, St.push, Heap.push, e1, e2, e3, e4, e6, e7, sl1, hls0.slen, hh0.noLoc, hls0.noLoc, x1, x2, k1, k2, k3, k4, k5, k6, k7, eimpl_GiveTubeOf_impl_in, impl_in, u1, u2, u3, u5, z0, z1, z2, z3, hri0.noLoc, hri0.slen, a1, a2, a3, a4, a5, a6, ← hH0, r3]
    refine AW_each (min cs.length 40) (fun i x => x.1 3 = .v (.c (.int .i64 s)) ∧ x.1 4 = .v (.c (.ptr (.inr h.nx) 0)) ∧ x.1 11 = .v (.c (.fn 113 [(.inr h.nx, 0), (.inr (h.nx + 1), 0), (.inr (h.nx + 1 + 1 + 1), 0)])) ∧ x.1 69 = .v (.c wc) ∧ x.1 70 = .v (.c (.int .i64 cs.length)) ∧ x.1 71 = .v (.c (.int .i64 i)) ∧ H0.nx ≤ x.2.h.nx ∧ x.2.h.hp h.nx = some ⟨c.ces, 8, true⟩ ∧ x.2.h.hp (h.nx + 1) = some ⟨[.int .i64 jn], 1, true⟩ ∧ x.2.h.hp (h.nx + 1 + 1 + 1) = some ⟨[wc], 1, true⟩ ∧ ∃ c9 fp, x.1 9 = .v (.c c9) ∧ NewF fBox h x.2.h c9 ((List.range i).map (tubeAt w cs V s)) fp ∧ h.nx ∉ fp ∧ h.nx + 1 ∉ fp ∧ h.nx + 1 + 1 + 1 ∉ fp) ?_ ?_ ?_
    · simp [hri0.noLoc, r0, r1, r3]
      exact ⟨_, nH, by simp; omega, by simp, by simp⟩
    · rintro i ⟨T, ⟨H, lc⟩⟩ hin ⟨t3, t4, t11, t69, t70, t71, hnx, q0, q1, q3, c9, fp, t9, nw, m0, m1, m3⟩
      simp only at t3 t4 t9 t11 t69 t70 t71 hnx q0 q1 q3 nw
      have hin' : i < cs.length := by omega
      obtain ⟨vb, vp, vr, v1, _, v2, v3, v5⟩ := (hls0.keep ho nw.fr).int1 hjn
      rw [← hV] at v5
      obtain ⟨eb, ep, er, g1, _, g2, g3, g4, g5, g6⟩ := (hri0.keep ho nw.fr).cell hin'
      have hlt : (List.map (tubeAt w cs V s) (List.range i)).length + 1 ≤ lim := by rw [List.length_map, List.length_range]; simp only [lim]; omega
      obtain ⟨c'', h'', fp'', nw', nx', hp', ge', hap⟩ := nw.append1 (tubeAt w cs V s i) hlt
      rw [← range_succ_map] at nw'
      have hwr := wrap1 (i := i) (by omega)
      have hin2 : (i : Int) < cs.length := by omega
      have hin3 : ¬ (i : Int) = 40 := by omega
      have hi0 : 0 ≤ (i : Int) := by omega
      have hnl : (cs.length : Int) ≤ 9223372036854775807 := by omega
      have hcast : ((i + 1 : Nat) : Int) = (i : Int) + 1 := rfl
      rw [hcast] at hwr
      have hB : fBox.ces (tubeAt w cs V s i) = [.int .i64 cs[i].x, .int .i64 cs[i].y, .int .i64 (min (lvl V (if 0 < (i : Int) then (i : Int) - 1 else i) cs.length) (lvl V i cs.length)), .int .i64 (max (lvl V (if 0 < (i : Int) then (i : Int) - 1 else i) cs.length) (lvl V i cs.length)), .int .i64 (w.from_ + s + i * w.quick), .int .i64 (w.by_ + s + (i + 1) * w.slow - 1)] := by
        simp [fBox, tubeAt, hin']
      rw [hB] at hap
      simp only [show fBox.sz = 6 from rfl] at hap
      obtain ⟨I, hI⟩ : ∃ I : Int, I = i := ⟨_, rfl⟩
      rw [← hI] at t71 g1 hwr hin2 hin3 hi0 hap
      have b1 := mul_bound hi0 (by omega) (show 0 ≤ w.quick by omega) bq.2
      have b2 := mul_bound (show 0 ≤ I + 1 by omega) (by omega) (show 0 ≤ w.slow by omega) bs.2
      obtain ⟨P, hP⟩ : ∃ P, P = I * w.quick := ⟨_, rfl⟩
      obtain ⟨Q, hQ⟩ : ∃ Q, Q = (I + 1) * w.slow := ⟨_, rfl⟩
      rw [← hP] at b1 hap
      rw [← hQ] at b2 hap
      have w0 : IntKind.i64.wrap (I - 1) = I - 1 := wrap_i64 (by omega) (by omega)
      have w1 : IntKind.i64.wrap (w.from_ + s) = w.from_ + s := wrap_i64 (by omega) (by omega)
      have w2 : IntKind.i64.wrap P = P := wrap_i64 (by omega) (by omega)
      have w3 : IntKind.i64.wrap (w.from_ + s + P) = w.from_ + s + P := wrap_i64 (by omega) (by omega)
      have w4 : IntKind.i64.wrap (w.by_ + s) = w.by_ + s := wrap_i64 (by omega) (by omega)
      have w6 : IntKind.i64.wrap Q = Q := wrap_i64 (by omega) (by omega)
      have w7 : IntKind.i64.wrap (w.by_ + s + Q) = w.by_ + s + Q := wrap_i64 (by omega) (by omega)
      have w8 : IntKind.i64.wrap (w.by_ + s + Q - 1) = w.by_ + s + Q - 1 := wrap_i64 (by omega) (by omega)
      have nl := hri0.noLoc
      have y1 := impl_GiveTubeOf_1 H h.nx (h.nx + 1) (h.nx + 1 + 1 + 1) c 0 0 jn I V wc .nils cs.length q0 q1 q3 vb vp vr v1 v2 v5 hls0.noLoc nl hri0.slen hi0 (by omega) hnl
      have hfl := nw.own.noLoc
      have hfl' := nw'.own.noLoc
      have hmx : max2 (I - 1) 0 = if 0 < I then I - 1 else I := by rw [max2_eq]; split <;> omega
      have y2 := impl_GiveTubeOf_1 H h.nx (h.nx + 1) (h.nx + 1 + 1 + 1) c 0 0 jn (if 0 < I then I - 1 else I) V wc .nils cs.length q0 q1 q3 vb vp vr v1 v2 v5 hls0.noLoc nl hri0.slen (by split <;> omega) (by split <;> omega) hnl
      obtain ⟨J, hJ⟩ : ∃ J, J = if 0 < I then I - 1 else I := ⟨_, rfl⟩
      rw [← hJ] at hmx y2 hap
      obtain ⟨A, hA⟩ : ∃ A, A = lvl V J cs.length := ⟨_, rfl⟩
      obtain ⟨B, hBB⟩ : ∃ B, B = lvl V I cs.length := ⟨_, rfl⟩
      rw [← hA] at y2 hap
      rw [← hBB] at y1 hap
      rw [show min A B = min2 A B from (min2_eq A B).symm, show max A B = max2 A B from (max2_eq A B).symm] at hap
      have hl1' : h.nx < H.nx := by omega
      have hl2' : h.nx + 1 < H.nx := by omega
      have hl3' : h.nx + 1 + 1 + 1 < H.nx := by omega
      simp [cimpl_GiveTubeOf_L0, t3, t4, t9, t11, t69, t70, t71, e1, e2, e3, e4, e7, hin2, hin3, q0, g1, g2, g3, g4, g5, g6, nl, hfl, hfl', eimpl_GiveTubeOf_impl_GiveTubeOf_1, y1, y2, hmx, w0, w1, ← hP, ← hQ, w2, w3, w4, w6, w7, w8, hwr, hap]
      refine ⟨hI, by omega, ?_, ?_, ?_, fp'', nw', ?_, ?_, ?_⟩
      · rw [hp' _ hl1' m0]; exact q0
      · rw [hp' _ hl2' m1]; exact q1
      · rw [hp' _ hl3' m3]; exact q3
      · intro hx; have := ge' _ hx; omega
      · intro hx; have := ge' _ hx; omega
      · intro hx; have := ge' _ hx; omega
    · rintro ⟨T, ⟨H, lc⟩⟩ ⟨t3, t4, t11, t69, t70, t71, hnx, q0, q1, q3, c9, fp, t9, nw, m0, m1, m3⟩
      simp only at t3 t4 t9 t11 t69 t70 t71 hnx q0 q1 q3 nw
      by_cases hq : cs.length ≤ 40
      · have hm : min cs.length 40 = cs.length := by omega
        rw [hm] at t71 nw
        simp [cimpl_GiveTubeOf_L0, t9, t70, t71, nw.own.noLoc, hm]
        exact ⟨fp, nw⟩
      · have hm : min cs.length 40 = 40 := by omega
        have hq' : 40 < cs.length := by omega
        obtain ⟨eb, ep, er, g1, _, g2, g3, g4, g5, g6⟩ := (hri0.keep ho nw.fr).cell hq'
        have g1' : wc.eltAt 2 40 = some (.inr eb, ep) := g1
        rw [hm] at t71 nw
        simp [cimpl_GiveTubeOf_L0, t9, t69, t70, t71, nw.own.noLoc, hri0.noLoc, show (40 : Int) < cs.length by omega, hq', hm, g1', g2, g3, g4]
        exact ⟨fp, nw⟩)
  exact ⟨c', h', fp, h1, h2⟩
end Go.Abs

/-
  A list that grows in a loop; the kept choices.
-/

namespace Go.Abs
set_option linter.unusedSimpArgs false
set_option linter.unusedVariables false
attribute [local simp] AW_skip AW_exit AW_ret AW_seq AW_block AW_cond CW_ite AW_reg AW_regD AW_regDc RD_nil RD_cons keyEq hasP hasH hasL chkL chkH recK recH inRange lightKey BookC.len BookC.take WishC.len WishC.take RW_nil RW_cons RW_guard GW_t GW_f GW_gt GW_gf GW_tup GY_some GY_tt GY_ff gd_t gd_f pk_t pk_f pk_and pk_or pk_andc pk_orc pk_bool gd_gd SW_some ThenQ_normal ThenQ_exit ThenQ_ret BlockQ_normal BlockQ_exit BlockQ_ret kill_nil kill_cons killT_at killL_at upo_some upo_none ev_t ev_k FinQ_ret FinQ_normal upd_eq upd_ne argsT_zero argsT_succ aop.eq_1 aop_pick aop.eq_3 aop.eq_4 aop.eq_5 aop.eq_6 aop.eq_7 aop.eq_8 aop.eq_9 aop.eq_10 aop.eq_11 aop.eq_12 aop.eq_13 aop.eq_14 aop.eq_15 aop.eq_16 aop.eq_17 aop.eq_18 aop.eq_19 aop.eq_20 aop.eq_21 aop_slice_hi aop_slice_lo aop.eq_23 aop.eq_24 aop.eq_26 aop.eq_27 aop.eq_28 aop.eq_29 aop.eq_31 aop.eq_32 aop_maxs2 aop_mins2 aop_mins3 aop_len aop_iaddr Av.bool? Av.ptr? Av.int? Av.int64? Av.str? Av.agg? ressA resA resOf noLoc_int noLoc_bool noLoc_str noLoc_nils noLoc_nilp noLoc_ptrl noLoc_ptrr noLoc_sll noLoc_slr noLoc_fn noLoc_tc noLoc_tagg noLoc_av noLoc_atup ce_c tv_v cells_c cells_agg noLocs keyLoc evs callA St.set St.get unAv binCe killV_int killV_bool killV_str killV_nils killV_nilp killV_agg killV_no killV_tup killV_ptrl killV_ptrr killV_sll killV_slr killV_fn killV_noLoc fillA repl ptrs List.map
attribute [local congr] GY_congr

structure Growing {α β : Type} (F : Fl β) (R : Heap → β → α → List Nat → Prop) (h0 H : Heap) (c : Ce) (l : List α) (fp : List Nat) : Prop where
  fr : Fr h0 H
  own : OwnS F R H c l fp
  ge : ∀ x, x ∈ fp → h0.nx ≤ x
section
variable {α β : Type} {F : Fl β} {R : Heap → β → α → List Nat → Prop} {h0 H H' : Heap} {c : Ce} {l : List α} {fp : List Nat}
theorem Growing.keep (g : Growing F R h0 H c l fp) (k : OkR R) (f : Fr H H') : Growing F R h0 H' c l fp :=
  ⟨g.fr.trans f, g.own.frame k fun x hx => f.hp x (g.own.lt k g.fr.ok hx), g.ge⟩
theorem Growing.add (g : Growing F R h0 H c l fp) (k : OkR R) (f : Fr H H') {b : β} {a : α} {q : List Nat} (hb : R H' b a q) (nd : q.Nodup) (hq : ∀ x, x ∈ q → H.nx ≤ x) (hn : l.length + 1 ≤ lim) :
    ∃ c' H'' fp', Growing F R h0 H'' c' (l ++ [a]) fp' ∧ ∀ lc t m, lc t = some ⟨F.ces b, F.sz, true⟩ → appendA ⟨H', lc⟩ F.sz c (.sl (.inl t) 0 1 m) = some (c', ⟨H'', lc⟩) := by
  obtain ⟨c', H'', fp', g1, g2, g3, g4, g5, g6⟩ := OwnS.append1 k g.own g.fr.ok f f.nx hb nd hq hn
  have fr : Fr h0 H'' := ⟨Nat.le_trans g.fr.nx (Nat.le_trans f.nx g2), fun x hx => by
    have hxH := Nat.lt_of_lt_of_le hx g.fr.nx
    rw [g4 x (Nat.lt_of_lt_of_le hxH f.nx) (fun hn => by have := g.ge x hn; omega), f.hp x hxH]
    exact g.fr.hp x hx, g3⟩
  refine ⟨c', H'', fp', ⟨fr, g1, fun x hx => ?_⟩, g6⟩
  rcases g5 x hx with hx | hx | hx
  · exact g.ge x hx
  · exact Nat.le_trans g.fr.nx (hq x hx)
  · exact Nat.le_trans g.fr.nx (Nat.le_trans f.nx hx)
end

structure KeptC where
  way : Int
  level : Int
  bar : Ce
  tin : Int
structure Kept where
  way : Nat
  level : Nat
  bars : List Bool
  tin : Int
def fKept : Fl KeptC := ⟨4, fun f => [.int .i64 f.way, .int .i64 f.level, f.bar, .int .i64 f.tin], fun _ => rfl, by decide⟩
structure OwnKept (h : Heap) (c : KeptC) (a : Kept) (f : List Nat) : Prop where
  way : c.way = a.way
  level : c.level = a.level
  tin : c.tin = a.tin
  bar : OwnF fBool h c.bar a.bars f
theorem okKept : OkR OwnKept := ⟨fun hf o => ⟨o.way, o.level, o.tin, o.bar.frame hf⟩, fun ho o _ hx => OwnF.lt o.bar ho hx⟩

def keptO (b : Book) (w : Wish) (L wa le : Nat) : Option Kept :=
  if tubeOkB b.fields (tubeOfB w wa le 0) then some ⟨wa, le, boolL L (barredF b w.name (tubeOfB w wa le 0)), ((tubeOfB w wa le 0).getD 0 default).tin⟩ else none
def kRow (b : Book) (w : Wish) (L wa n : Nat) : List Kept := (List.range n).filterMap (keptO b w L wa)
def kWay (b : Book) (w : Wish) (L n nl : Nat) : List Kept := (List.range n).flatMap fun wa => kRow b w L wa nl
/-- Is a kept one taken at this delay? -/
def sel (now : Int) (la : Nat) (k : Kept) : Option Choice := if !(k.bars.getD la false) && decide (now ≤ k.tin + la) then some ⟨la, k.way, k.level⟩ else none
section
variable {b : Book} {w : Wish} {L la wa le n nl : Nat}
theorem kRow_succ : kRow b w L wa (n + 1) = kRow b w L wa n ++ (keptO b w L wa n).toList := by
  simp only [kRow, List.range_succ, List.filterMap_append]
  cases h : keptO b w L wa n <;> simp [h]
theorem kWay_succ : kWay b w L (n + 1) nl = kWay b w L n nl ++ kRow b w L n nl := by simp [kWay, List.range_succ]
theorem kRow_len : (kRow b w L wa n).length ≤ n := by
  have := List.length_filterMap_le (keptO b w L wa) (List.range n)
  rw [List.length_range] at this
  exact this
theorem kWay_len : (kWay b w L n nl).length ≤ n * nl := by
  induction n with
  | zero => simp [kWay]
  | succ n ih =>
    rw [kWay_succ, List.length_append, Nat.succ_mul]
    have := kRow_len (b := b) (w := w) (L := L) (wa := n) (n := nl)
    omega
theorem sel_kept (h : wishOkB b.fields w = true) (hwa : wa < w.ways.length) (hle : le < w.levels.length) (hL : L ≤ 300) (hla : la ≤ L) : (keptO b w L wa le).bind (sel b.now la) = chO b w la wa le := by
  have e := chB_eq h hwa hle (la := la) (by omega)
  unfold chO
  rw [e]
  unfold keptO
  cases hk : tubeOkB b.fields (tubeOfB w wa le 0)
  · simp
  · have hb : (boolL L (barredF b w.name (tubeOfB w wa le 0))).getD la false = barredF b w.name (tubeOfB w wa le 0) la := by
      simp [boolL, show la < L + 1 by omega]
    simp only [if_true, Option.bind_some, sel, hb, Bool.true_and]
theorem sel_row (h : wishOkB b.fields w = true) (hwa : wa < w.ways.length) (hn : n ≤ w.levels.length) (hL : L ≤ 300) (hla : la ≤ L) : (kRow b w L wa n).filterMap (sel b.now la) = rowL b w la wa n := by
  induction n with
  | zero => simp [kRow, rowL]
  | succ n ih =>
    rw [kRow_succ, rowL_succ, List.filterMap_append, ih (by omega), ← sel_kept h hwa (show n < w.levels.length by omega) hL hla]
    cases hk : keptO b w L wa n with
    | none => simp
    | some v => cases hs : sel b.now la v <;> simp [hs]
theorem sel_way (h : wishOkB b.fields w = true) (hn : n ≤ w.ways.length) (hL : L ≤ 300) (hla : la ≤ L) : (kWay b w L n w.levels.length).filterMap (sel b.now la) = wayL b w la n w.levels.length := by
  induction n with
  | zero => simp [kWay, wayL]
  | succ n ih => rw [kWay_succ, wayL_succ, List.filterMap_append, ih (by omega), sel_row h (by omega) (Nat.le_refl _) hL hla]
end
/-- One more, if there is room. -/
theorem take_room {α : Type} (l : List α) (x : α) (m : Nat) : (l ++ [x]).take m = if (l.take m).length < m then l.take m ++ [x] else l.take m := by
  by_cases h : l.length < m
  · rw [if_pos (by rw [List.length_take]; omega), List.take_of_length_le (by simp; omega), List.take_of_length_le (by omega)]
  · rw [if_neg (by rw [List.length_take]; omega), List.take_append_of_le_length (by omega)]
end Go.Abs

/-
  The choices of a wish, as the program finds them.
-/

namespace Go.Abs
set_option linter.unusedSimpArgs false
set_option linter.unusedVariables false
attribute [local simp] AW_skip AW_exit AW_ret AW_seq AW_block AW_cond CW_ite AW_reg AW_regD AW_regDc RD_nil RD_cons keyEq hasP hasH hasL chkL chkH recK recH inRange lightKey BookC.len BookC.take WishC.len WishC.take RW_nil RW_cons RW_guard GW_t GW_f GW_gt GW_gf GW_tup GY_some GY_tt GY_ff gd_t gd_f pk_t pk_f pk_and pk_or pk_andc pk_orc pk_bool gd_gd SW_some ThenQ_normal ThenQ_exit ThenQ_ret BlockQ_normal BlockQ_exit BlockQ_ret kill_nil kill_cons killT_at killL_at upo_some upo_none ev_t ev_k FinQ_ret FinQ_normal upd_eq upd_ne argsT_zero argsT_succ aop.eq_1 aop_pick aop.eq_3 aop.eq_4 aop.eq_5 aop.eq_6 aop.eq_7 aop.eq_8 aop.eq_9 aop.eq_10 aop.eq_11 aop.eq_12 aop.eq_13 aop.eq_14 aop.eq_15 aop.eq_16 aop.eq_17 aop.eq_18 aop.eq_19 aop.eq_20 aop.eq_21 aop_slice_hi aop_slice_lo aop.eq_23 aop.eq_24 aop.eq_26 aop.eq_27 aop.eq_28 aop.eq_29 aop.eq_31 aop.eq_32 aop_maxs2 aop_mins2 aop_mins3 aop_len aop_iaddr Av.bool? Av.ptr? Av.int? Av.int64? Av.str? Av.agg? ressA resA resOf noLoc_int noLoc_bool noLoc_str noLoc_nils noLoc_nilp noLoc_ptrl noLoc_ptrr noLoc_sll noLoc_slr noLoc_fn noLoc_tc noLoc_tagg noLoc_av noLoc_atup ce_c tv_v cells_c cells_agg noLocs keyLoc evs callA St.set St.get unAv binCe killV_int killV_bool killV_str killV_nils killV_nilp killV_agg killV_no killV_tup killV_ptrl killV_ptrr killV_sll killV_slr killV_fn killV_noLoc fillA repl ptrs List.map
attribute [local congr] GY_congr

/-- What stands in the slots while the kept ones are gathered. -/
def StK (h : Heap) (cb : BookC) (cw : WishC) (most : Int) (nw : Nat) (wa : Nat) (l : List Kept) (x : X) : Prop :=
  x.1 2 = .v (.c (.int .i64 most)) ∧ x.1 3 = .v (.c (.ptr (.inl 3) 0)) ∧ x.1 4 = .v (.c (.ptr (.inl 4) 0)) ∧ x.1 29 = .v (.c (.int .i64 nw)) ∧ x.1 30 = .v (.c (.int .i64 wa)) ∧ x.2.lc 3 = some ⟨cb.ces, 3, true⟩ ∧ x.2.lc 4 = some ⟨cw.ces, 8, true⟩ ∧ ∃ c7 f7, x.1 7 = .v (.c c7) ∧ Growing fKept OwnKept h x.2.h c7 l f7

theorem ichoices_L1 {S S' : Nat → Prop} {h : Heap} {cb : BookC} {b : Book} {cw : WishC} {w : Wish} {most : Int} {nw wa L : Nat} {pre : List Kept} (ho : HOk h) (hb : RdBook S h cb b) (hw : RdWish S' h cw w) (hL : w.late = L) (hL3 : L ≤ 300) (hp : pre.length ≤ 1000000) (hnl : w.levels.length ≤ 6) {x : X} (st : StK h cb cw most nw wa pre x) (t8 : x.1 8 = .v (.c (.int .i64 wa))) (t35 : x.1 35 = .v (.c (.int .i64 w.levels.length))) (t36 : x.1 36 = .v (.c (.int .i64 0))) :
    AW eimpl_choices (.loop cimpl_choices_L1) (fun e y => e = .exit 2 ∧ StK h cb cw most nw wa (pre ++ kRow b w L wa w.levels.length) y) x := by
  have e0 := hw.e0
  have e5 := hw.e5
  rw [hL] at e5
  have e1 : cb.ces[1]? = some cb.f := rfl
  have fl := hb.f.noLoc
  refine AW_each w.levels.length (fun i x => StK h cb cw most nw wa (pre ++ kRow b w L wa i) x ∧ x.1 8 = .v (.c (.int .i64 wa)) ∧ x.1 35 = .v (.c (.int .i64 w.levels.length)) ∧ x.1 36 = .v (.c (.int .i64 i))) ⟨by simpa [kRow] using st, t8, t35, t36⟩ ?_ ?_
  · rintro i ⟨T, ⟨H, lc⟩⟩ hin ⟨⟨t2, t3, t4, t29, t30, l3, l4, c7, f7, t7, gr⟩, t8, t35, t36⟩
    simp only at t2 t3 t4 t7 t8 t29 t30 t35 t36 l3 l4 gr
    have hwr := wrap1 (i := i) (by omega)
    have rl := kRow_len (b := b) (w := w) (L := L) (wa := wa) (n := i)
    have sl := kRow_succ (b := b) (w := w) (L := L) (wa := wa) (n := i)
    obtain ⟨ct, H1, fp, u1, n1⟩ := impl_GiveTubeOf H cw w wa i 0 gr.fr.ok (hw.keep ho gr.fr)
    obtain ⟨t, ht⟩ : ∃ t, t = tubeOfB w wa i 0 := ⟨_, rfl⟩
    have ll := tubeOfB_len w wa i 0
    rw [← ht] at n1 ll
    have hb1 := (hb.keep ho gr.fr).keep gr.fr.ok n1.fr
    have rt := n1.own.rd (S := fun _ => True) (by omega) (fun _ _ => trivial)
    have u2 := impl_GiveTubeOk H1 _ _ _ _ hb1.f rt
    cases hk : tubeOkB b.fields t
    · rw [hk] at u2
      rw [show keptO b w L wa i = none by simp [keptO, ← ht, hk]] at sl
      simp only [Option.toList, List.append_nil] at sl
      simp [StK, cimpl_choices_L1, t2, t3, t4, t7, t8, t29, t30, t35, t36, l3, l4, e1, fl, hin, eimpl_choices_impl_GiveTubeOf, eimpl_choices_impl_GiveTubeOk, u1, u2, hwr, gr.own.noLoc, n1.own.noLoc, sl]
      exact ⟨f7, gr.keep okKept n1.fr⟩
    · rw [hk] at u2
      obtain ⟨cr, H2, f2, u3, n2⟩ := impl_barred H1 cb b w.name ct t L n1.fr.ok hL3 hb1 rt (tubeOk_all hk)
      have hlen := tubeOk_len hk
      have h0 : 0 < t.length := by omega
      obtain ⟨eb, ep, er, g1, _, g2, g3, g4, g5, g6, g7, g8, g9, g10⟩ := rt.box h0
      simp at g1
      have k2 : H2.hp eb = some er := by rw [n2.fr.hp _ (n1.fr.ok.lt g2)]; exact g2
      have hf0 : t.getD 0 default = t[0] := by simp [h0]
      rw [show keptO b w L wa i = some ⟨wa, i, boolL L (barredF b w.name t), t[0].tin⟩ by simp only [keptO, ← ht, hf0, hk, if_true]] at sl
      simp only [Option.toList] at sl
      obtain ⟨c7', H3, f7', gr', hap⟩ := gr.add okKept (n1.fr.trans n2.fr) (b := ⟨wa, i, cr, t[0].tin⟩) (a := ⟨wa, i, boolL L (barredF b w.name t), t[0].tin⟩) (q := f2) ⟨rfl, rfl, rfl, n2.own⟩ n2.own.nodup (fun x hx => Nat.le_trans n1.fr.nx (n2.ge x hx)) (by rw [List.length_append]; simp only [lim]; omega)
      simp only [fKept] at hap
      rw [List.append_assoc, ← sl] at gr'
      simp [StK, cimpl_choices_L1, t2, t3, t4, t7, t8, t29, t30, t35, t36, l3, l4, e0, e1, e5, fl, hin, eimpl_choices_impl_GiveTubeOf, eimpl_choices_impl_GiveTubeOk, eimpl_choices_impl_GiveBook_barred, u1, u2, u3, hwr, gr.own.noLoc, gr'.own.noLoc, n1.own.noLoc, n2.own.noLoc, g1, g2, k2, g3, g5, g6, g7, g8, g9, g10, hap]
      exact ⟨f7', gr'⟩
  · rintro ⟨T, ⟨H, lc⟩⟩ ⟨⟨t2, t3, t4, t29, t30, l3, l4, c7, f7, t7, gr⟩, t8, t35, t36⟩
    simp only at t2 t3 t4 t7 t8 t29 t30 t35 t36 l3 l4 gr
    simp [StK, cimpl_choices_L1, t2, t3, t4, t7, t8, t29, t30, t35, t36, l3, l4]
    exact ⟨f7, gr⟩

theorem ichoices_L0 {S S' : Nat → Prop} {h : Heap} {cb : BookC} {b : Book} {cw : WishC} {w : Wish} {most : Int} {L : Nat} (ho : HOk h) (hb : RdBook S h cb b) (hw : RdWish S' h cw w) (hL : w.late = L) (hL3 : L ≤ 300) (hnl : w.levels.length ≤ 6) (hnw : w.ways.length ≤ 3) {x : X} (st : StK h cb cw most w.ways.length 0 [] x) :
    AW eimpl_choices (.loop cimpl_choices_L0) (fun e y => e = .exit 0 ∧ StK h cb cw most w.ways.length w.ways.length (kWay b w L w.ways.length w.levels.length) y) x := by
  have e7 := cw.e7
  have hls := hw.ls
  refine AW_each w.ways.length (fun i x => StK h cb cw most w.ways.length i (kWay b w L i w.levels.length) x) (by simpa [kWay] using st) ?_ ?_
  · rintro i ⟨T, ⟨H, lc⟩⟩ hin ⟨t2, t3, t4, t29, t30, l3, l4, c7, f7, t7, gr⟩
    simp only at t2 t3 t4 t7 t29 t30 l3 l4 gr
    have hwr := wrap1 (i := i) (by omega)
    have wl := kWay_len (b := b) (w := w) (L := L) (n := i) (nl := w.levels.length)
    have hm : i * w.levels.length ≤ 3 * 6 := Nat.mul_le_mul (by omega) hnl
    simp [cimpl_choices_L0, t2, t3, t4, t7, t29, t30, l3, l4, e7, hls.slen, hls.noLoc, hin]
    refine AW_mono (ichoices_L1 (most := most) (nw := w.ways.length) (wa := i) (pre := kWay b w L i w.levels.length) ho hb hw hL hL3 (by omega) hnl ?_ ?_ ?_ ?_) ?_
    · simp [StK, t2, t3, t4, t7, t29, t30, l3, l4]
      exact ⟨f7, gr⟩
    · simp
    · simp
    · simp
    · rintro e ⟨T, ⟨H2, lc2⟩⟩ ⟨rfl, t2, t3, t4, t29, t30, l3, l4, c7, f7, t7, gr⟩
      simp only at t2 t3 t4 t7 t29 t30 l3 l4 gr
      simp [StK, t2, t3, t4, t7, t29, t30, l3, l4, hwr]
      rw [kWay_succ]
      exact ⟨f7, gr⟩
  · rintro ⟨T, ⟨H, lc⟩⟩ ⟨t2, t3, t4, t29, t30, l3, l4, c7, f7, t7, gr⟩
    simp only at t2 t3 t4 t7 t29 t30 l3 l4 gr
    simp [StK, cimpl_choices_L0, t2, t3, t4, t7, t29, t30, l3, l4]
    exact ⟨f7, gr⟩

/-- The kept ones as they may be read. -/
structure RdKept (h : Heap) (c : Ce) (K : List Kept) (bs : List KeptC) : Prop where
  rd : RdF fKept (fun _ => True) h c bs
  len : bs.length = K.length
  el : ∀ i (hi : i < bs.length) (hi' : i < K.length), bs[i].way = K[i].way ∧ bs[i].level = K[i].level ∧ bs[i].tin = K[i].tin ∧ RdF fBool (fun _ => True) h bs[i].bar K[i].bars
theorem RdKept.keep {h h' : Heap} {c : Ce} {K : List Kept} {bs : List KeptC} (r : RdKept h c K bs) (ho : HOk h) (f : Fr h h') : RdKept h' c K bs :=
  ⟨r.rd.keep ho f, r.len, fun i hi hi' => ⟨(r.el i hi hi').1, (r.el i hi hi').2.1, (r.el i hi hi').2.2.1, (r.el i hi hi').2.2.2.keep ho f⟩⟩
theorem Growing.kept {h0 H : Heap} {c : Ce} {K : List Kept} {fp : List Nat} (g : Growing fKept OwnKept h0 H c K fp) (hn : K.length ≤ 1048576) (hb : ∀ k, k ∈ K → k.bars.length ≤ 1048576) : ∃ bs, RdKept H c K bs := by
  obtain ⟨bs, fps, q, h1, h2, h3, h4, rfl, h6⟩ := g.own
  refine ⟨bs, h1.rd (by omega) (fun _ _ => trivial), h2, fun i hi hi' => ?_⟩
  have k := h4 i bs[i] K[i] (fps[i]'(by omega)) (List.getElem?_eq_getElem hi) (List.getElem?_eq_getElem hi') (List.getElem?_eq_getElem (by omega))
  exact ⟨k.way, k.level, k.tin, k.bar.rd (by have := hb _ (List.getElem_mem hi'); omega) (fun _ _ => trivial)⟩
theorem RdF.kept {S : Nat → Prop} {h : Heap} {c : Ce} {l : List KeptC} (hr : RdF fKept S h c l) {i : Nat} (hi : i < l.length) :
    ∃ b p r, c.eltAt 4 i = some (.inr b, p) ∧ h.hp b = some r ∧ p + 4 ≤ r.cs.length ∧ (r.cs.drop p).take 4 = [.int .i64 l[i].way, .int .i64 l[i].level, l[i].bar, .int .i64 l[i].tin] := by
  obtain ⟨b, p, r, h1, h2, h3, h4, h5, h6⟩ := hr.at hi
  exact ⟨b, p, r, h1, h3, h4, h5⟩

/-- What stands in the slots while choices are picked. -/
def StO (H7 : Heap) (cb : BookC) (cw : WishC) (most : Int) (c7 : Ce) (la : Nat) (l : List Choice) (x : X) : Prop :=
  x.1 2 = .v (.c (.int .i64 most)) ∧ x.1 3 = .v (.c (.ptr (.inl 3) 0)) ∧ x.1 4 = .v (.c (.ptr (.inl 4) 0)) ∧ x.1 7 = .v (.c c7) ∧ x.1 13 = .v (.c (.int .i64 la)) ∧ x.2.lc 3 = some ⟨cb.ces, 3, true⟩ ∧ x.2.lc 4 = some ⟨cw.ces, 8, true⟩ ∧ ∃ c12 f12, x.1 12 = .v (.c c12) ∧ NewF fChoice H7 x.2.h c12 l f12

theorem ichoices_L3 {H7 : Heap} {cb : BookC} {cw : WishC} {now : Int} {m : Nat} {c7 : Ce} {la L : Nat} {K : List Kept} {bs : List KeptC} {P : List Choice} (ho : HOk H7) (hnow : cb.ces[0]? = some (.int .i64 now)) (hla : la ≤ L) (hL3 : L ≤ 300) (hm : m ≤ 1000000) (rk : RdKept H7 c7 K bs) (c7l : c7.noLoc = true) (hK : ∀ k, k ∈ K → k.bars.length = L + 1 ∧ 0 ≤ k.tin ∧ k.tin ≤ 100000) {x : X} (st : StO H7 cb cw m c7 la (P.take m) x) (t75 : x.1 75 = .v (.c c7)) (t76 : x.1 76 = .v (.c (.int .i64 K.length))) (t77 : x.1 77 = .v (.c (.int .i64 0))) :
    AW eimpl_choices (.loop cimpl_choices_L3) (fun e y => e = .exit 6 ∧ StO H7 cb cw m c7 la ((P ++ K.filterMap (sel now la)).take m) y) x := by
  have hbl := rk.rd.le
  have hlen := rk.len
  refine AW_each K.length (fun i x => StO H7 cb cw m c7 la ((P ++ (K.take i).filterMap (sel now la)).take m) x ∧ x.1 75 = .v (.c c7) ∧ x.1 76 = .v (.c (.int .i64 K.length)) ∧ x.1 77 = .v (.c (.int .i64 i))) ⟨by simpa using st, t75, t76, t77⟩ ?_ ?_
  · rintro i ⟨T, ⟨H, lc⟩⟩ hin ⟨⟨t2, t3, t4, t7, t13, l3, l4, c12, f12, t12, nw⟩, t75, t76, t77⟩
    simp only at t2 t3 t4 t7 t12 t13 t75 t76 t77 l3 l4 nw
    have hwr := wrap1 (i := i) (by omega)
    have rk1 := rk.keep ho nw.fr
    have hib : i < bs.length := by omega
    obtain ⟨eb, ep, er, g1, g2, g3, g4⟩ := rk1.rd.kept hib
    obtain ⟨a1, a2, a3, a4⟩ := rk1.el i hib hin
    rw [a1, a2, a3] at g4
    obtain ⟨k1, k2, k3⟩ := hK _ (List.getElem_mem hin)
    obtain ⟨qb, qp, qr, q1, _, q2, q3, q5⟩ := a4.bool1 (show la < K[i].bars.length by omega)
    have w1 : IntKind.i64.wrap (K[i].tin + la) = K[i].tin + la := wrap_i64 (by omega) (by omega)
    have sl : (K.take (i + 1)).filterMap (sel now la) = (K.take i).filterMap (sel now la) ++ (sel now la K[i]).toList := by
      rw [List.take_add_one, List.getElem?_eq_getElem hin, List.filterMap_append]
      cases hs : sel now la K[i] <;> simp [hs]
    have nolen := nw.own.noLoc
    have hgd : K[i].bars.getD la false = K[i].bars[la] := by simp [show la < K[i].bars.length by omega]
    obtain ⟨Q, hQ⟩ : ∃ Q, Q = P ++ (K.take i).filterMap (sel now la) := ⟨_, rfl⟩
    rw [← hQ] at nw
    have hsl := nw.own.slen
    have skip : sel now la K[i] = none → (P ++ (K.take (i + 1)).filterMap (sel now la)).take m = Q.take m := fun hs => by
      rw [sl, hs]; simp [hQ]
    cases hbar : K[i].bars[la]
    rotate_left
    · have hs := skip (by simp only [sel, hgd, hbar]; rfl)
      rw [hbar] at q5
      simp [StO, cimpl_choices_L3, t2, t3, t4, t7, t12, t13, t75, t76, t77, l3, l4, c7l, a4.noLoc, nolen, hin, g1, g2, g3, g4, q1, q2, q5, hwr, hs]
      exact ⟨f12, nw⟩
    rw [hbar] at q5
    by_cases hge : now ≤ K[i].tin + la
    rotate_left
    · have hs := skip (by simp only [sel, hgd, hbar, decide_eq_false hge]; rfl)
      simp [StO, cimpl_choices_L3, t2, t3, t4, t7, t12, t13, t75, t76, t77, l3, l4, c7l, a4.noLoc, nolen, hin, g1, g2, g3, g4, q1, q2, q5, hwr, w1, hnow, hge, hs]
      exact ⟨f12, nw⟩
    have hsel : sel now la K[i] = some ⟨la, K[i].way, K[i].level⟩ := by simp only [sel, hgd, hbar, hge, Bool.not_false, decide_true, Bool.and_self, if_true]
    have hres : (P ++ (K.take (i + 1)).filterMap (sel now la)).take m = if (Q.take m).length < m then Q.take m ++ [⟨la, K[i].way, K[i].level⟩] else Q.take m := by
      rw [sl, hsel, Option.toList, ← List.append_assoc, ← hQ, take_room]
    by_cases hroom : (Q.take m).length < m
    · rw [if_pos hroom] at hres
      obtain ⟨c'', h'', fp'', nw', _, _, _, hap⟩ := nw.append1 ⟨la, K[i].way, K[i].level⟩ (by simp only [lim]; omega)
      simp only [fChoice] at hap
      rw [← hres] at nw'
      have hroom' : ((Q.take m).length : Int) < m := by omega
      obtain ⟨R, hR⟩ : ∃ R, R = Q.take m := ⟨_, rfl⟩
      rw [← hR] at hsl hroom hroom'
      simp [StO, cimpl_choices_L3, t2, t3, t4, t7, t12, t13, t75, t76, t77, l3, l4, c7l, a4.noLoc, nolen, nw'.own.noLoc, hin, g1, g2, g3, g4, q1, q2, q5, hwr, w1, hnow, hge, hsl, hroom, hap]
      exact ⟨fp'', nw'⟩
    · rw [if_neg hroom] at hres
      obtain ⟨R, hR⟩ : ∃ R, R = Q.take m := ⟨_, rfl⟩
      rw [← hR] at hsl hroom
      simp [StO, cimpl_choices_L3, t2, t3, t4, t7, t12, t13, t75, t76, t77, l3, l4, c7l, a4.noLoc, nolen, hin, g1, g2, g3, g4, q1, q2, q5, hwr, w1, hnow, hge, hsl, hroom, hres]
      exact ⟨f12, nw⟩
  · rintro ⟨T, ⟨H, lc⟩⟩ ⟨⟨t2, t3, t4, t7, t13, l3, l4, c12, f12, t12, nw⟩, t75, t76, t77⟩
    simp only at t2 t3 t4 t7 t12 t13 t75 t76 t77 l3 l4 nw
    rw [List.take_length] at nw
    simp [StO, cimpl_choices_L3, t2, t3, t4, t7, t12, t13, t75, t76, t77, l3, l4]
    exact ⟨f12, nw⟩

theorem kWay_bars {b : Book} {w : Wish} {L n nl : Nat} (h : wishOkB b.fields w = true) (hn : n ≤ w.ways.length) (hnl : nl ≤ w.levels.length) : ∀ k, k ∈ kWay b w L n nl → k.bars.length = L + 1 ∧ 0 ≤ k.tin ∧ k.tin ≤ 100000 := by
  intro k hk
  simp only [kWay, List.mem_flatMap, List.mem_range, kRow, List.mem_filterMap] at hk
  obtain ⟨wa, h1, le, h2, h3⟩ := hk
  have e0 := tubeOf_eq h (show wa < w.ways.length by omega) (show le < w.levels.length by omega) (show 0 ≤ 300 by omega)
  simp only [show ((0 : Nat) : Int) = 0 from rfl] at e0
  unfold keptO at h3
  split at h3
  · rename_i hk
    cases h3
    refine ⟨by simp [boolL], ?_⟩
    have hlen := tubeOk_len hk
    have h0 : 0 < (tubeOfB w wa le 0).length := by omega
    have hf : (tubeOfB w wa le 0).getD 0 default = (tubeOfB w wa le 0)[0] := by simp [h0]
    simp only [hf]
    have hm : (tubeOfB w wa le 0)[0] ∈ tubeOfB w wa le 0 := List.getElem_mem h0
    obtain ⟨x, hx⟩ : ∃ x, x = (tubeOfB w wa le 0)[0] := ⟨_, rfl⟩
    rw [← hx] at hm ⊢
    rw [e0, List.mem_map] at hm
    obtain ⟨i, hi, rfl⟩ := hm
    rw [List.mem_range] at hi
    have := at_bounds h w.ways[wa] w.levels[le] (s := 0) (by omega) (i := i) (by omega)
    simp only [show ((0 : Nat) : Int) = 0 from rfl] at this
    omega
  · cases h3

theorem impl_choices {S S' : Nat → Prop} (h : Heap) (cb : BookC) (b : Book) (cw : WishC) (w : Wish) (m : Nat) (ho : HOk h) (hb : RdBook S h cb b) (hwb : BookWf b) (hw : RdWish S' h cw w) (hww : SzS w.name) (hm : m ≤ 1000000) :
    ∃ c' h' fp, Fimpl_choices [.v (.agg cb.ces), .v (.agg cw.ces), .v (.c (.int .i64 m))] h = some (.v (.c c'), h') ∧ NewF fChoice h h' c' ((choicesB b w).take m) fp := by
  unfold Fimpl_choices
  have u1 := impl_GiveBookOk _ cb b hb hwb
  have u2 := impl_GiveWishOk _ cb.f b.fields cw w hb.f hwb.f hw hww
  have e0 : cb.ces[0]? = some (.int .i64 b.now) := by rw [← hb.now]; rfl
  have e1 : cb.ces[1]? = some cb.f := rfl
  have e5 := hw.e5
  have e6 := cw.e6
  have fl := hb.f.noLoc
  obtain ⟨ws, hh, hlen, hel⟩ := hw.ws
  have sl1 := hh.slen
  rw [hlen] at sl1
  have f0 := Fr.push ho ⟨[], 4, true⟩
  have g0 : Growing fKept OwnKept h (h.push ⟨[], 4, true⟩) (.sl (.inr h.nx) 0 0 .own) [] [h.nx] :=
    ⟨f0, ⟨[], [], [h.nx], .inr ⟨h.nx, rfl, by simp [Heap.push, upd, Fl.all, fKept], rfl⟩, rfl, rfl, by simp, rfl, by simp⟩, by simp⟩
  obtain ⟨v, h', h1, c', fp, rfl, h2⟩ := runF_of (env := eimpl_choices) (code := cimpl_choices) (rs := [.t 6]) (args := [.v (.agg cb.ces), .v (.agg cw.ces), .v (.c (.int .i64 m))]) (h := h) (K := fun v h' => ∃ c' fp, v = .v (.c c') ∧ NewF fChoice h h' c' ((choicesB b w).take m) fp) (by
    cases k1 : bookOkB b
    · rw [k1] at u1
      simp [cimpl_choices, eimpl_choices_impl_GiveBookOk, u1, choicesB, k1]
      exact ⟨_, NewF.nil ho⟩
    rw [k1] at u1
    cases k2 : wishOkB b.fields w
    · rw [k2] at u2
      simp [cimpl_choices, eimpl_choices_impl_GiveBookOk, eimpl_choices_impl_GiveWishOk, u1, u2, e1, fl, choicesB, k1, k2]
      exact ⟨_, NewF.nil ho⟩
    rw [k2] at u2
    obtain ⟨y1, y2, y3, y4⟩ := wishOk_bounds k2
    rw [show choicesB b w = lateL b w (w.late.toNat + 1) w.ways.length w.levels.length by simp [choicesB, k1, k2]]
    obtain ⟨L, hL⟩ : ∃ L : Nat, w.late = L := ⟨w.late.toNat, by omega⟩
    rw [show w.late.toNat = L by omega]
    rw [hL] at e5
    simp [cimpl_choices, St.push, eimpl_choices_impl_GiveBookOk, eimpl_choices_impl_GiveWishOk, u1, u2, e1, e6, fl, sl1, hh.noLoc]
    refine AW_mono (ichoices_L0 (most := m) ho hb hw hL (by omega) y4 y3 ?_) ?_
    · simp [StK]
      exact ⟨_, g0⟩
    · rintro e ⟨T, ⟨H, lc⟩⟩ ⟨rfl, t2, t3, t4, t29, t30, l3, l4, c7, f7, t7, gr⟩
      simp only at t2 t3 t4 t7 t29 t30 l3 l4 gr
      have wl := kWay_len (b := b) (w := w) (L := L) (n := w.ways.length) (nl := w.levels.length)
      have hm2 : w.ways.length * w.levels.length ≤ 3 * 6 := Nat.mul_le_mul y3 y4
      have hK := kWay_bars (b := b) (w := w) (L := L) k2 (Nat.le_refl _) (Nat.le_refl _)
      obtain ⟨bs, rk⟩ := gr.kept (by omega) (fun k hk => by have := (hK k hk).1; omega)
      have c7l := gr.own.noLoc
      have n0 : NewF fChoice H (H.push ⟨[], 3, true⟩) (.sl (.inr H.nx) 0 0 .own) [] [H.nx] := NewF.push gr.fr.ok [] 0 rfl
      have slk := gr.own.slen
      simp [St.push, t2, t3, t4, t7, l3, l4, c7l]
      refine AW_each (L + 1) (fun i x => StO H cb cw m c7 i ((lateL b w i w.ways.length w.levels.length).take m) x) ?_ ?_ ?_
      · simp [StO, lateL, t2, t3, t4, t7, l3, l4, c7l]
        exact ⟨_, n0⟩
      · rintro i ⟨T, ⟨H1, lc⟩⟩ hin ⟨t2, t3, t4, t7, t13, l3, l4, c12, f12, t12, nw⟩
        simp only at t2 t3 t4 t7 t12 t13 l3 l4 nw
        have hwr := wrap1 (i := i) (by omega)
        have hil : i ≤ L := by omega
        simp [cimpl_choices_L2, t2, t3, t4, t7, t12, t13, l3, l4, e5, hil, slk, c7l]
        refine AW_mono (ichoices_L3 (cw := cw) (now := b.now) (m := m) (la := i) (L := L) (P := lateL b w i w.ways.length w.levels.length) gr.fr.ok e0 hil (by omega) hm rk c7l hK ?_ ?_ ?_ ?_) ?_
        · simp [StO, t2, t3, t4, t7, t12, t13, l3, l4, c7l]
          exact ⟨f12, nw⟩
        · simp [c7l]
        · simp
        · simp
        · rintro e ⟨T, ⟨H2, lc2⟩⟩ ⟨rfl, t2, t3, t4, t7, t13, l3, l4, c12, f12, t12, nw⟩
          simp only at t2 t3 t4 t7 t12 t13 l3 l4 nw
          rw [sel_way k2 (Nat.le_refl _) (by omega) hil, ← lateL_succ] at nw
          simp [StO, t2, t3, t4, t7, t12, t13, l3, l4, hwr]
          exact ⟨f12, nw⟩
      · rintro ⟨T, ⟨H1, lc⟩⟩ ⟨t2, t3, t4, t7, t13, l3, l4, c12, f12, t12, nw⟩
        simp only at t2 t3 t4 t7 t12 t13 l3 l4 nw
        simp [cimpl_choices_L2, t2, t3, t4, t7, t12, t13, l3, l4, e5, nw.own.noLoc, show ¬ ((L : Int) + 1 ≤ L) by omega]
        exact ⟨f12, nw.own, gr.fr.trans nw.fr, fun x hx => Nat.le_trans gr.fr.nx (nw.ge x hx)⟩)
  exact ⟨c', h', fp, h1, h2⟩
end Go.Abs

/-
  The helpers of the law for choices, and the two lists.
-/

namespace Go.Abs
set_option linter.unusedSimpArgs false
set_option linter.unusedVariables false
attribute [local simp] AW_skip AW_exit AW_ret AW_seq AW_block AW_cond CW_ite AW_reg AW_regD AW_regDc RD_nil RD_cons keyEq hasP hasH hasL chkL chkH recK recH inRange lightKey BookC.len BookC.take WishC.len WishC.take RW_nil RW_cons RW_guard GW_t GW_f GW_gt GW_gf GW_tup GY_some GY_tt GY_ff gd_t gd_f pk_t pk_f pk_and pk_or pk_andc pk_orc pk_bool gd_gd SW_some ThenQ_normal ThenQ_exit ThenQ_ret BlockQ_normal BlockQ_exit BlockQ_ret kill_nil kill_cons killT_at killL_at upo_some upo_none ev_t ev_k FinQ_ret FinQ_normal upd_eq upd_ne argsT_zero argsT_succ aop.eq_1 aop_pick aop.eq_3 aop.eq_4 aop.eq_5 aop.eq_6 aop.eq_7 aop.eq_8 aop.eq_9 aop.eq_10 aop.eq_11 aop.eq_12 aop.eq_13 aop.eq_14 aop.eq_15 aop.eq_16 aop.eq_17 aop.eq_18 aop.eq_19 aop.eq_20 aop.eq_21 aop_slice_hi aop_slice_lo aop.eq_23 aop.eq_24 aop.eq_26 aop.eq_27 aop.eq_28 aop.eq_29 aop.eq_31 aop.eq_32 aop_maxs2 aop_mins2 aop_mins3 aop_len aop_iaddr Av.bool? Av.ptr? Av.int? Av.int64? Av.str? Av.agg? ressA resA resOf noLoc_int noLoc_bool noLoc_str noLoc_nils noLoc_nilp noLoc_ptrl noLoc_ptrr noLoc_sll noLoc_slr noLoc_fn noLoc_tc noLoc_tagg noLoc_av noLoc_atup ce_c tv_v cells_c cells_agg noLocs keyLoc evs callA St.set St.get unAv binCe killV_int killV_bool killV_str killV_nils killV_nilp killV_agg killV_no killV_tup killV_ptrl killV_ptrr killV_sll killV_slr killV_fn killV_noLoc fillA repl ptrs List.map
attribute [local congr] GY_congr

def eqChoice (a b : Choice) : Bool := a.late == b.late && a.way == b.way && a.level == b.level
theorem eqChoice_iff (a b : Choice) : eqChoice a b = true ↔ a = b := by
  cases a; cases b
  simp [eqChoice, and_assoc]
theorem laws_eqGiveChoice (h : Heap) (a b : Choice) : Flaws_eqGiveChoice [.v (.agg (fChoice.ces a)), .v (.agg (fChoice.ces b))] h = some (.v (.c (.bool (eqChoice a b))), h) := by
  unfold Flaws_eqGiveChoice eqChoice
  refine runF_eq ?_
  simp +contextual [claws_eqGiveChoice, fChoice]
def zChoice : Choice := ⟨0, 0, 0⟩
instance : Inhabited Choice := ⟨zChoice⟩

theorem laws_eqGiveChoiceS {S S' : Nat → Prop} (h : Heap) (c c' : Ce) (l l' : List Choice) (hc : RdF fChoice S h c l) (hc' : RdF fChoice S' h c' l') :
    ∃ r, Flaws_eqGiveChoiceS [.v (.c c), .v (.c c')] h = some (.v (.c (.bool r)), h) ∧ (r = true ↔ l = l') := by
  unfold Flaws_eqGiveChoiceS
  have hl := hc.le
  have A := laws_eqGiveChoice
  simp only [fChoice] at A
  obtain ⟨v, h', h1, r, rfl, rfl, h2⟩ := runF_of (env := elaws_eqGiveChoiceS) (code := claws_eqGiveChoiceS) (rs := [.t 4]) (args := [.v (.c c), .v (.c c')]) (h := h) (K := fun v h' => ∃ r, v = .v (.c (.bool r)) ∧ h' = h ∧ (r = true ↔ l = l')) (by
    by_cases hlen : l.length = l'.length
    · simp [claws_eqGiveChoiceS, hc.slen, hc'.slen, hc.noLoc, hlen]
      refine AW_for1 l.length (fun i => !eqChoice (l.getD i default) (l'.getD i default)) (fun i x => x.1 0 = .v (.c c) ∧ x.1 1 = .v (.c c') ∧ x.1 5 = .v (.c (.int .i64 i)) ∧ x.2 = ⟨h, nol⟩) (by simp) ?_ ?_
      · rintro i ⟨T, s⟩ hin _ ⟨h0, h1, h5, rfl⟩
        simp only at h0 h1 h5
        have hin' : i < l'.length := by omega
        obtain ⟨eb, ep, er, e1, _, e2, e3, e4, e5, e6, e7⟩ := hc.choice hin
        obtain ⟨fb, fp, fr, f1, _, f2, f3, f4, f5, f6, f7⟩ := hc'.choice hin'
        have hw := wrap1 (i := i) (by omega)
        simp +contextual [claws_eqGiveChoiceS_L0, h0, h1, h5, hc.slen, hin, hin', e1, e2, e3, e4, f1, f2, f3, f4, elaws_eqGiveChoiceS_laws_eqGiveChoice, A, hw]
        rintro hb rfl
        rw [(eqChoice_iff _ _).2 rfl] at hb
        cases hb
      · rintro ⟨T, s⟩ hno ⟨h0, h1, h5, rfl⟩
        simp only at h0 h1 h5
        have hll : l = l' := by
          apply List.ext_getElem hlen
          intro j hj hj'
          exact (eqChoice_iff _ _).1 (by simpa [hj, hj'] using hno j hj)
        simp [claws_eqGiveChoiceS_L0, h0, h1, h5, hc.slen, hll]
    · have hne : l ≠ l' := fun e => hlen (by rw [e])
      have : ¬ (l.length : Int) = l'.length := by omega
      simp [claws_eqGiveChoiceS, hc.slen, hc'.slen, hlen, this, hne])
  exact ⟨r, h1, h2⟩

/-- What the marks write. -/
def mkChoice (k : Int) (i : Nat) : Choice := ⟨k + 3 * i, k + 3 * i + 1, k + 3 * i + 2⟩
def marksChoice (k : Int) (n : Nat) : List Choice := (List.range n).map (mkChoice k)
theorem marksChoice_length (k : Int) (n : Nat) : (marksChoice k n).length = n := by simp [marksChoice]
theorem marksChoice_at (k : Int) (n i : Nat) (h : i < (marksChoice k n).length) : (marksChoice k n)[i] = mkChoice k i := by simp [marksChoice]
theorem laws_markGiveChoiceS (h : Heap) (c : Ce) (l : List Choice) (fp : List Nat) (k : Int) (ho : HOk h) (hc : OwnF fChoice h c l fp) (hl : l.length ≤ 1048576) (hk : 0 ≤ k ∧ k ≤ 1152921504606846976) :
    ∃ h', Flaws_markGiveChoiceS [.v (.c c), .v (.c (.int .i64 k))] h = some (.v (.c (.int .i64 (k + 3 * l.length))), h') ∧ OwnF fChoice h' c (marksChoice k l.length) fp ∧ Chg fp h h' := by
  unfold Flaws_markGiveChoiceS
  rcases hc with ⟨rfl, rfl, rfl⟩ | ⟨b, rfl, hb, rfl⟩
  · refine ⟨h, runF_eq ?_, .inl ⟨rfl, rfl, rfl⟩, Chg.refl ho⟩
    simp [claws_markGiveChoiceS]
    refine AW_each 0 (fun i x => x.1 0 = .v (.c .nils) ∧ x.1 1 = .v (.c (.int .i64 k)) ∧ x.1 5 = .v (.c (.int .i64 0)) ∧ x.2 = ⟨h, nol⟩) (by simp) (by intros; omega) ?_
    rintro ⟨T, s⟩ ⟨h0, h1, h5, rfl⟩
    simp only at h0 h1 h5
    simp [claws_markGiveChoiceS_L0, h0, h1, h5, Ce.slen]
  · refine ⟨⟨h.nx, upd h.hp b (some ⟨fChoice.all (marksChoice k l.length), 3, true⟩)⟩, runF_eq ?_, .inr ⟨b, by rw [marksChoice_length], by simp [upd, fChoice], rfl⟩, Chg.one ho (ho.lt hb) _⟩
    simp [claws_markGiveChoiceS]
    refine AW_each l.length (fun i x => x.1 0 = .v (.c (.sl (.inr b) 0 l.length .own)) ∧ x.1 1 = .v (.c (.int .i64 (k + 3 * i))) ∧ x.1 5 = .v (.c (.int .i64 i)) ∧ x.2 = ⟨⟨h.nx, upd h.hp b (some ⟨fChoice.all ((marksChoice k l.length).take i ++ l.drop i), 3, true⟩)⟩, nol⟩) ?_ ?_ ?_
    · have := upd_same hb
      simp only [show fChoice.sz = 3 from rfl] at this
      simp [this]
    · rintro i ⟨T, s⟩ hin ⟨h0, h1, h5, rfl⟩
      simp only at h0 h1 h5
      obtain ⟨K0, k0⟩ : ∃ K, K = k + 3 * (i : Int) := ⟨_, rfl⟩
      rw [← k0] at h1
      obtain ⟨K1, k1⟩ : ∃ K, K = K0 + 1 := ⟨_, rfl⟩
      have w0 : IntKind.i64.wrap (K0 + 1) = K1 := by rw [k1]; exact wrap_i64 (by omega) (by omega)
      obtain ⟨K2, k2⟩ : ∃ K, K = K1 + 1 := ⟨_, rfl⟩
      have w1 : IntKind.i64.wrap (K1 + 1) = K2 := by rw [k2]; exact wrap_i64 (by omega) (by omega)
      obtain ⟨K3, k3⟩ : ∃ K, K = K2 + 1 := ⟨_, rfl⟩
      have w2 : IntKind.i64.wrap (K2 + 1) = K3 := by rw [k3]; exact wrap_i64 (by omega) (by omega)
      obtain ⟨L, hL⟩ : ∃ L, L = (marksChoice k l.length).take i ++ l.drop i := ⟨_, rfl⟩
      rw [← hL]
      have hiL : i < L.length := by rw [hL]; simp [marksChoice]; omega
      have hLi : L[i] = l[i] := by
        simp only [hL]
        rw [List.getElem_append_right (by simp; omega)]
        simp [marksChoice, Nat.min_eq_left (Nat.le_of_lt hin)]
      have hlen : (fChoice.all L).length = l.length * 3 := by rw [fChoice.all_length, hL]; simp [fChoice, marksChoice]; omega
      have hlenS : ∀ B, (fChoice.all (L.set i B)).length = l.length * 3 := by intro B; rw [fChoice.all_length, List.length_set, ← fChoice.all_length, hlen]
      have s0 := fChoice.all_set L (i := i) (k := 0) (by simpa using hiL) (by decide) (b := ⟨K0, l[i].way, l[i].level⟩) (v := .int .i64 K0) (by simp [fChoice, hLi])
      simp only [show fChoice.sz = 3 from rfl, Nat.add_zero, Nat.add_assoc, Nat.reduceAdd] at s0
      have s1 := fChoice.all_set (L.set i ⟨K0, l[i].way, l[i].level⟩) (i := i) (k := 1) (by simpa using hiL) (by decide) (b := ⟨K0, K1, l[i].level⟩) (v := .int .i64 K1) (by simp [fChoice])
      rw [List.set_set] at s1
      simp only [show fChoice.sz = 3 from rfl, Nat.add_zero, Nat.add_assoc, Nat.reduceAdd] at s1
      have s2 := fChoice.all_set (L.set i ⟨K0, K1, l[i].level⟩) (i := i) (k := 2) (by simpa using hiL) (by decide) (b := ⟨K0, K1, K2⟩) (v := .int .i64 K2) (by simp [fChoice])
      rw [List.set_set] at s2
      simp only [show fChoice.sz = 3 from rfl, Nat.add_zero, Nat.add_assoc, Nat.reduceAdd] at s2
      have q1 : i * 3 + 1 ≤ l.length * 3 := by omega
      have q2 : i * 3 + 2 ≤ l.length * 3 := by omega
      have q3 : i * 3 + 3 ≤ l.length * 3 := by omega
      have g1 : (fChoice.all (L.set i ⟨K0, l[i].way, l[i].level⟩)).length = l.length * 3 := hlenS _
      have g2 : (fChoice.all (L.set i ⟨K0, K1, l[i].level⟩)).length = l.length * 3 := hlenS _
      have g3 : (fChoice.all (L.set i ⟨K0, K1, K2⟩)).length = l.length * 3 := hlenS _
      have hw := wrap1 (i := i) (by omega)
      have he2 : (Ce.sl (Sum.inr b) 0 l.length .own).eltAt 3 i = some (.inr b, i * 3) := by simp [Ce.eltAt, hin]
      have hend : L.set i ⟨K0, K1, K2⟩ = (marksChoice k l.length).take (i + 1) ++ l.drop (i + 1) := by
        rw [hL, ← take_drop_set _ _ hin (by rw [marksChoice_length]; omega), marksChoice_at]
        simp only [mkChoice]
        congr 2 <;> omega
      have hK : K3 = k + 3 * ((i : Int) + 1) := by omega
      simp [claws_markGiveChoiceS_L0, h0, h1, h5, Ce.slen, hin, he2, upd_upd, hlen, s0, w0, q1, g1, s1, w1, q2, g2, s2, w2, q3, g3, hw]
      exact ⟨hK, by rw [hend]⟩
    · rintro ⟨T, s⟩ ⟨h0, h1, h5, rfl⟩
      simp only at h0 h1 h5
      have e1 : (marksChoice k l.length).take l.length = marksChoice k l.length := by
        apply List.take_of_length_le
        rw [marksChoice_length]; omega
      simp [claws_markGiveChoiceS_L0, h0, h1, h5, Ce.slen, e1]

theorem laws_heldGiveChoiceS {S : Nat → Prop} (h : Heap) (c : Ce) (n : Nat) (k : Int) (hc : RdF fChoice S h c (marksChoice k n)) (hl : n ≤ 1048576) (hk : 0 ≤ k ∧ k ≤ 1152921504606846976) :
    Flaws_heldGiveChoiceS [.v (.c c), .v (.c (.int .i64 k))] h = some (.v (.c (.int .i64 (k + 3 * n))), h) := by
  unfold Flaws_heldGiveChoiceS
  refine runF_eq ?_
  have hsl := hc.slen
  rw [marksChoice_length] at hsl
  simp [claws_heldGiveChoiceS]
  refine AW_each n (fun i x => x.1 0 = .v (.c c) ∧ x.1 1 = .v (.c (.int .i64 (k + 3 * i))) ∧ x.1 5 = .v (.c (.int .i64 i)) ∧ x.2 = ⟨h, nol⟩) (by simp) ?_ ?_
  · rintro i ⟨T, s⟩ hin ⟨h0, h1, h5, rfl⟩
    simp only at h0 h1 h5
    obtain ⟨eb, ep, er, e1, _, e2, e3, e4, e5, e6, e7⟩ := hc.choice (show i < (marksChoice k n).length by rw [marksChoice_length]; exact hin)
    rw [marksChoice_at] at e5 e6 e7
    simp only [mkChoice] at e5 e6 e7
    obtain ⟨K0, k0⟩ : ∃ K, K = k + 3 * (i : Int) := ⟨_, rfl⟩
    obtain ⟨K1, k1⟩ : ∃ K, K = K0 + 1 := ⟨_, rfl⟩
    have w0 : IntKind.i64.wrap (K0 + 1) = K1 := by rw [k1]; exact wrap_i64 (by omega) (by omega)
    obtain ⟨K2, k2⟩ : ∃ K, K = K1 + 1 := ⟨_, rfl⟩
    have w1 : IntKind.i64.wrap (K1 + 1) = K2 := by rw [k2]; exact wrap_i64 (by omega) (by omega)
    obtain ⟨K3, k3⟩ : ∃ K, K = K2 + 1 := ⟨_, rfl⟩
    have w2 : IntKind.i64.wrap (K2 + 1) = K3 := by rw [k3]; exact wrap_i64 (by omega) (by omega)
    simp only [← k0] at h1 e5 e6 e7
    rw [show K0 + 1 = K1 by omega] at e6
    rw [show K0 + 2 = K2 by omega] at e7
    have hw := wrap1 (i := i) (by omega)
    have hK : K3 = k + 3 * ((i : Int) + 1) := by omega
    simp [claws_heldGiveChoiceS_L0, h0, h1, h5, hsl, hin, e1, e2, e5, e6, e7, w0, w1, w2, hw]
    exact hK
  · rintro ⟨T, s⟩ ⟨h0, h1, h5, rfl⟩
    simp only at h0 h1 h5
    simp [claws_heldGiveChoiceS_L0, h0, h1, h5, hsl]

theorem choicesB_len (b : Book) (w : Wish) : (choicesB b w).length ≤ 5418 := by
  unfold choicesB
  split
  · rename_i h
    simp only [Bool.and_eq_true] at h
    obtain ⟨y1, y2, y3, y4⟩ := wishOk_bounds h.2
    have l := lateL_len (b := b) (w := w) (n := w.late.toNat + 1) (nw := w.ways.length) (nl := w.levels.length)
    have m1 : w.ways.length * w.levels.length ≤ 3 * 6 := Nat.mul_le_mul y3 y4
    have m2 : (w.late.toNat + 1) * (w.ways.length * w.levels.length) ≤ 301 * 18 := Nat.mul_le_mul (by omega) (by omega)
    omega
  · simp
theorem impl_GiveChoices {S S' : Nat → Prop} (h : Heap) (cb : BookC) (b : Book) (cw : WishC) (w : Wish) (ho : HOk h) (hb : RdBook S h cb b) (hwb : BookWf b) (hw : RdWish S' h cw w) (hww : SzS w.name) :
    ∃ c' h' fp, Fimpl_GiveChoices [.v (.agg cb.ces), .v (.agg cw.ces)] h = some (.v (.c c'), h') ∧ NewF fChoice h h' c' (choicesB b w) fp := by
  unfold Fimpl_GiveChoices
  obtain ⟨c', h', fp, u, n⟩ := impl_choices h cb b cw w 5418 ho hb hwb hw hww (by omega)
  rw [List.take_of_length_le (choicesB_len b w)] at n
  refine ⟨c', h', fp, runF_eq ?_, n⟩
  have u' : Fimpl_choices [.v (.agg cb.ces), .v (.agg cw.ces), .v (.c (.int .i64 5418))] h = some (.v (.c c'), h') := u
  simp [cimpl_GiveChoices, eimpl_GiveChoices_impl_choices, u', n.own.noLoc]
end Go.Abs

/-
  The best choice.
-/

namespace Go.Abs
set_option linter.unusedSimpArgs false
set_option linter.unusedVariables false
attribute [local simp] AW_skip AW_exit AW_ret AW_seq AW_block AW_cond CW_ite AW_reg AW_regD AW_regDc RD_nil RD_cons keyEq hasP hasH hasL chkL chkH recK recH inRange lightKey BookC.len BookC.take WishC.len WishC.take RW_nil RW_cons RW_guard GW_t GW_f GW_gt GW_gf GW_tup GY_some GY_tt GY_ff gd_t gd_f pk_t pk_f pk_and pk_or pk_andc pk_orc pk_bool gd_gd SW_some ThenQ_normal ThenQ_exit ThenQ_ret BlockQ_normal BlockQ_exit BlockQ_ret kill_nil kill_cons killT_at killL_at upo_some upo_none ev_t ev_k FinQ_ret FinQ_normal upd_eq upd_ne argsT_zero argsT_succ aop.eq_1 aop_pick aop.eq_3 aop.eq_4 aop.eq_5 aop.eq_6 aop.eq_7 aop.eq_8 aop.eq_9 aop.eq_10 aop.eq_11 aop.eq_12 aop.eq_13 aop.eq_14 aop.eq_15 aop.eq_16 aop.eq_17 aop.eq_18 aop.eq_19 aop.eq_20 aop.eq_21 aop_slice_hi aop_slice_lo aop.eq_23 aop.eq_24 aop.eq_26 aop.eq_27 aop.eq_28 aop.eq_29 aop.eq_31 aop.eq_32 aop_maxs2 aop_mins2 aop_mins3 aop_len aop_iaddr Av.bool? Av.ptr? Av.int? Av.int64? Av.str? Av.agg? ressA resA resOf noLoc_int noLoc_bool noLoc_str noLoc_nils noLoc_nilp noLoc_ptrl noLoc_ptrr noLoc_sll noLoc_slr noLoc_fn noLoc_tc noLoc_tagg noLoc_av noLoc_atup ce_c tv_v cells_c cells_agg noLocs keyLoc evs callA St.set St.get unAv binCe killV_int killV_bool killV_str killV_nils killV_nilp killV_agg killV_no killV_tup killV_ptrl killV_ptrr killV_sll killV_slr killV_fn killV_noLoc fillA repl ptrs List.map
attribute [local congr] GY_congr

def bestB (b : Book) (w : Wish) : Choice := (choicesB b w).headD ⟨0, 0, 0⟩
def hasB (b : Book) (w : Wish) : Bool := !(choicesB b w).isEmpty
theorem best_row {S S' : Nat → Prop} {h : Heap} {c : Ce} {l : List Choice} (n : RdF fChoice S h c l) (hl : l ≠ []) :
    ∃ e p r, c.eltAt 3 0 = some (.inr e, p) ∧ h.hp e = some r ∧ p + 3 ≤ r.cs.length ∧ (r.cs.drop p).take 3 = fChoice.ces (l.headD ⟨0, 0, 0⟩) := by
  have h0 : 0 < l.length := List.length_pos_iff.2 hl
  obtain ⟨e, p, r, g1, _, g2, g3, g4, _⟩ := n.choice h0
  refine ⟨e, p, r, by simpa using g1, g2, g3, ?_⟩
  rw [g4]
  cases l with
  | nil => exact absurd rfl hl
  | cons a r => rfl

theorem spec_GiveBest {S S' : Nat → Prop} (h : Heap) (cb : BookC) (b : Book) (cw : WishC) (w : Wish) (ho : HOk h) (hb : RdBook S h cb b) (hwb : BookWf b) (hw : RdWish S' h cw w) (hww : SzS w.name) :
    ∃ h', Fspec_GiveBest [.v (.agg cb.ces), .v (.agg cw.ces)] h = some (.tup [.agg (fChoice.ces (bestB b w)), .c (.bool (hasB b w))], h') ∧ Fr h h' := by
  unfold Fspec_GiveBest
  obtain ⟨c', h', fp, u, n⟩ := spec_GiveChoices h cb b cw w ho hb hwb hw hww
  have hsl := n.own.slen
  refine ⟨h', runF_eq ?_, n.fr⟩
  by_cases hl : choicesB b w = []
  · simp [cspec_GiveBest, espec_GiveBest_spec_GiveChoices, u, n.own.noLoc, hsl, hl, bestB, hasB, fChoice]
  · have hlen := choicesB_len b w
    obtain ⟨e, p, r, g1, g2, g3, g4⟩ := best_row (S := fun _ => True) (S' := fun _ => True) (n.own.rd (S := fun _ => True) (by omega) (fun _ _ => trivial)) hl
    have g4' : List.take 3 (List.drop p r.cs) = fChoice.ces (bestB b w) := g4
    simp only [fChoice] at g4' ⊢
    simp [cspec_GiveBest, espec_GiveBest_spec_GiveChoices, u, n.own.noLoc, hsl, hl, g1, g2, g3, g4', hasB]
theorem impl_GiveBest {S S' : Nat → Prop} (h : Heap) (cb : BookC) (b : Book) (cw : WishC) (w : Wish) (ho : HOk h) (hb : RdBook S h cb b) (hwb : BookWf b) (hw : RdWish S' h cw w) (hww : SzS w.name) :
    ∃ h', Fimpl_GiveBest [.v (.agg cb.ces), .v (.agg cw.ces)] h = some (.tup [.agg (fChoice.ces (bestB b w)), .c (.bool (hasB b w))], h') ∧ Fr h h' := by
  unfold Fimpl_GiveBest
  obtain ⟨c', h', fp, u, n⟩ := impl_choices h cb b cw w 1 ho hb hwb hw hww (by omega)
  have u' : Fimpl_choices [.v (.agg cb.ces), .v (.agg cw.ces), .v (.c (.int .i64 1))] h = some (.v (.c c'), h') := u
  have hsl := n.own.slen
  refine ⟨h', runF_eq ?_, n.fr⟩
  by_cases hl : choicesB b w = []
  · rw [hl] at hsl
    simp at hsl
    simp [cimpl_GiveBest, eimpl_GiveBest_impl_choices, u', n.own.noLoc, hsl, hl, bestB, hasB, fChoice]
  · have hne : (choicesB b w).take 1 ≠ [] := by simp [hl]
    have hl1 : ((choicesB b w).take 1).length = 1 := by
      rw [List.length_take]
      have := List.length_pos_iff.2 hl
      omega
    rw [hl1] at hsl
    obtain ⟨e, p, r, g1, g2, g3, g4⟩ := best_row (S := fun _ => True) (S' := fun _ => True) (n.own.rd (S := fun _ => True) (by omega) (fun _ _ => trivial)) hne
    have g4' : List.take 3 (List.drop p r.cs) = fChoice.ces (bestB b w) := by
      rw [g4]
      unfold bestB
      cases choicesB b w <;> rfl
    simp only [fChoice] at g4' ⊢
    simp [cimpl_GiveBest, eimpl_GiveBest_impl_choices, u', n.own.noLoc, hsl, hl, g1, g2, g3, g4', hasB]
end Go.Abs

/-
  The exact law of GiveBest, over what its functions compute.
-/

namespace Go.Abs
set_option linter.unusedSimpArgs false
set_option linter.unusedVariables false
attribute [local simp] AW_skip AW_exit AW_ret AW_seq AW_block AW_cond CW_ite AW_reg AW_regD AW_regDc RD_nil RD_cons keyEq hasP hasH hasL chkL chkH recK recH inRange lightKey BookC.len BookC.take WishC.len WishC.take RW_nil RW_cons RW_guard GW_t GW_f GW_gt GW_gf GW_tup GY_some GY_tt GY_ff gd_t gd_f pk_t pk_f pk_and pk_or pk_andc pk_orc pk_bool gd_gd SW_some ThenQ_normal ThenQ_exit ThenQ_ret BlockQ_normal BlockQ_exit BlockQ_ret kill_nil kill_cons killT_at killL_at upo_some upo_none ev_t ev_k FinQ_ret FinQ_normal upd_eq upd_ne argsT_zero argsT_succ aop.eq_1 aop_pick aop.eq_3 aop.eq_4 aop.eq_5 aop.eq_6 aop.eq_7 aop.eq_8 aop.eq_9 aop.eq_10 aop.eq_11 aop.eq_12 aop.eq_13 aop.eq_14 aop.eq_15 aop.eq_16 aop.eq_17 aop.eq_18 aop.eq_19 aop.eq_20 aop.eq_21 aop_slice_hi aop_slice_lo aop.eq_23 aop.eq_24 aop.eq_26 aop.eq_27 aop.eq_28 aop.eq_29 aop.eq_31 aop.eq_32 aop_maxs2 aop_mins2 aop_mins3 aop_len aop_iaddr Av.bool? Av.ptr? Av.int? Av.int64? Av.str? Av.agg? ressA resA resOf noLoc_int noLoc_bool noLoc_str noLoc_nils noLoc_nilp noLoc_ptrl noLoc_ptrr noLoc_sll noLoc_slr noLoc_fn noLoc_tc noLoc_tagg noLoc_av noLoc_atup ce_c tv_v cells_c cells_agg noLocs keyLoc evs callA St.set St.get unAv binCe killV_int killV_bool killV_str killV_nils killV_nilp killV_agg killV_no killV_tup killV_ptrl killV_ptrr killV_sll killV_slr killV_fn killV_noLoc fillA repl ptrs List.map
attribute [local congr] GY_congr


set_option maxRecDepth 100000 in
theorem laws_FnExactGiveBest (h : Heap) (cb : BookC) (b : Book) (cu : WishC) (u : Wish) (ho : HOk h) (rb : RdBook (fun b => b < h.nx) h cb b ∧ BookWf b) (ru : RdWish (fun b => b < h.nx) h cu u ∧ SzS u.name) :
    ∃ h', Flaws_FnExactGiveBest [.v (.agg cb.ces), .v (.agg cu.ces)] h = some (.v (.c (.bool true)), h') := by
  unfold Flaws_FnExactGiveBest
  obtain ⟨rb, wb⟩ := rb
  obtain ⟨ru, wu⟩ := ru
  obtain ⟨qb, sb, leb, smb⟩ := laws_szGiveBook h cb b 1048576 rb wb (by omega)
  rcases leb with rfl | leb
  · refine ⟨_, runF_eq (h' := h) ?_⟩
    simp [claws_FnExactGiveBest, elaws_FnExactGiveBest_laws_szGiveBook, sb]
  have nb : ¬ qb < 0 := by omega
  replace smb := smb leb.1
  obtain ⟨qu, su, leu, smu⟩ := laws_szGiveWish h cu u qb ru wu (by omega)
  rcases leu with rfl | leu
  · refine ⟨_, runF_eq (h' := h) ?_⟩
    simp [claws_FnExactGiveBest, sb, nb, elaws_FnExactGiveBest_laws_szGiveBook, elaws_FnExactGiveBest_laws_szGiveWish, su]
  have nu : ¬ qu < 0 := by omega
  replace smu := smu leu.1
  obtain ⟨c1, h2, fpc1, t3, m4⟩ := toBook' h cb b ho rb smb
  have f5 := m4.fr
  have nx1 := f5.nx
  have gec1 : ∀ x0, x0 ∈ fpc1 → h.nx ≤ x0 := m4.ge
  have ltc1 : ∀ x0, x0 ∈ fpc1 → x0 < h2.nx := fun x0 hb => OwnBook.lt (m4.own : OwnBook h2 c1 b fpc1) f5.ok hb
  have o6 : OwnBook h2 c1 b fpc1 := m4.own
  have b7 := ru.keep ho f5
  obtain ⟨c8, h9, fpc8, t10, m11⟩ := toWish' h2 cu u f5.ok b7 smu
  have f12 := m11.fr
  have nx2 := f12.nx
  have gec8 : ∀ x0, x0 ∈ fpc8 → h2.nx ≤ x0 := m11.ge
  have ltc8 : ∀ x0, x0 ∈ fpc8 → x0 < h9.nx := fun x0 hb => OwnWish.lt (m11.own : OwnWish h9 c8 u fpc8) f12.ok hb
  have o13 : OwnWish h9 c8 u fpc8 := m11.own
  have b14 := o6.chg f5.ok (Fr.chg (fp := []) f12) (by simp)
  obtain ⟨h16, u15, f17⟩ := spec_GiveBest h9 _ _ _ _ f12.ok (b14.rd (S := fun x0 => x0 ∈ fpc1) smb (fun x0 hb => hb)) wb (o13.rd (S := fun x0 => x0 ∈ fpc8) smu (fun x0 hb => hb)) wu
  have nx3 := f17.nx
  have b18 := rb.keep ho f5
  have b19 := b18.keep f5.ok f12
  have b20 := b19.keep f12.ok f17
  obtain ⟨c21, h22, fpc21, t23, m24⟩ := toBook' h16 cb b f17.ok b20 smb
  have f25 := m24.fr
  have nx4 := f25.nx
  have gec21 : ∀ x0, x0 ∈ fpc21 → h16.nx ≤ x0 := m24.ge
  have ltc21 : ∀ x0, x0 ∈ fpc21 → x0 < h22.nx := fun x0 hb => OwnBook.lt (m24.own : OwnBook h22 c21 b fpc21) f25.ok hb
  have o26 : OwnBook h22 c21 b fpc21 := m24.own
  have b27 := b7.keep f5.ok f12
  have b28 := b27.keep f12.ok f17
  have b29 := b28.keep f17.ok f25
  obtain ⟨c30, h31, fpc30, t32, m33⟩ := toWish' h22 cu u f25.ok b29 smu
  have f34 := m33.fr
  have nx5 := f34.nx
  have gec30 : ∀ x0, x0 ∈ fpc30 → h22.nx ≤ x0 := m33.ge
  have ltc30 : ∀ x0, x0 ∈ fpc30 → x0 < h31.nx := fun x0 hb => OwnWish.lt (m33.own : OwnWish h31 c30 u fpc30) f34.ok hb
  have o35 : OwnWish h31 c30 u fpc30 := m33.own
  have b36 := o26.chg f25.ok (Fr.chg (fp := []) f34) (by simp)
  obtain ⟨h38, u37, f39⟩ := impl_GiveBest h31 _ _ _ _ f34.ok (b36.rd (S := fun x0 => x0 ∈ fpc21) smb (fun x0 hb => hb)) wb (o35.rd (S := fun x0 => x0 ∈ fpc30) smu (fun x0 hb => hb)) wu
  have nx6 := f39.nx
  have b40 := b20.keep f17.ok f25
  have b41 := b40.keep f25.ok f34
  have b42 := b41.keep f34.ok f39
  obtain ⟨c43, h44, fpc43, t45, m46⟩ := toBook' h38 cb b f39.ok b42 smb
  have f47 := m46.fr
  have nx7 := f47.nx
  have gec43 : ∀ x0, x0 ∈ fpc43 → h38.nx ≤ x0 := m46.ge
  have ltc43 : ∀ x0, x0 ∈ fpc43 → x0 < h44.nx := fun x0 hb => OwnBook.lt (m46.own : OwnBook h44 c43 b fpc43) f47.ok hb
  have o48 : OwnBook h44 c43 b fpc43 := m46.own
  have b49 := b36.chg f34.ok (Fr.chg (fp := []) f39) (by simp)
  have b50 := b49.chg f39.ok (Fr.chg (fp := []) f47) (by simp)
  obtain ⟨q52, e51, z53⟩ := laws_eqGiveBook h44 c21 c43 _ _ (b50.rd (S := fun x0 => x0 ∈ fpc21) smb (fun x0 hb => hb)) (o48.rd (S := fun x0 => x0 ∈ fpc43) smb (fun x0 hb => hb))
  obtain rfl := z53.2 rfl
  have b54 := b29.keep f25.ok f34
  have b55 := b54.keep f34.ok f39
  have b56 := b55.keep f39.ok f47
  obtain ⟨c57, h58, fpc57, t59, m60⟩ := toWish' h44 cu u f47.ok b56 smu
  have f61 := m60.fr
  have nx8 := f61.nx
  have gec57 : ∀ x0, x0 ∈ fpc57 → h44.nx ≤ x0 := m60.ge
  have ltc57 : ∀ x0, x0 ∈ fpc57 → x0 < h58.nx := fun x0 hb => OwnWish.lt (m60.own : OwnWish h58 c57 u fpc57) f61.ok hb
  have o62 : OwnWish h58 c57 u fpc57 := m60.own
  have b63 := o35.chg f34.ok (Fr.chg (fp := []) f39) (by simp)
  have b64 := b63.chg f39.ok (Fr.chg (fp := []) f47) (by simp)
  have b65 := b64.chg f47.ok (Fr.chg (fp := []) f61) (by simp)
  obtain ⟨q67, e66, z68⟩ := laws_eqGiveWish h58 c30 c57 _ _ (b65.rd (S := fun x0 => x0 ∈ fpc30) smu (fun x0 hb => hb)) (o62.rd (S := fun x0 => x0 ∈ fpc57) smu (fun x0 hb => hb))
  obtain rfl := z68.2 rfl
  have A := laws_eqGiveChoice
  have eqr : eqChoice (bestB b u) (bestB b u) = true := (eqChoice_iff _ _).2 rfl
  simp only [fChoice] at A u15 u37
  refine ⟨_, runF_eq (h' := h58) ?_⟩
  simp [claws_FnExactGiveBest, A, eqr, elaws_FnExactGiveBest_laws_eqGiveChoice, sb, nb, su, nu, t3, t10, u15, t23, t32, u37, t45, e51, t59, e66, elaws_FnExactGiveBest_impl_GiveBest, elaws_FnExactGiveBest_laws_eqGiveBook, elaws_FnExactGiveBest_laws_eqGiveWish, elaws_FnExactGiveBest_laws_szGiveBook, elaws_FnExactGiveBest_laws_szGiveWish, elaws_FnExactGiveBest_laws_toGiveBook, elaws_FnExactGiveBest_laws_toGiveWish, elaws_FnExactGiveBest_spec_GiveBest]
end Go.Abs
