/-
  What is heard: the next tube of a held thing taken or left.
-/
import Derived.Test.YtenccnpdaldkfaaB9cc67
set_option linter.unusedSimpArgs false
set_option linter.unusedVariables false
namespace Go.Abs
set_option linter.unusedSimpArgs false
set_option linter.unusedVariables false
attribute [local simp] AW_skip AW_exit AW_ret AW_seq AW_block AW_cond CW_ite AW_reg AW_regD AW_regDc RD_nil RD_cons keyEq hasP hasH hasL chkL chkH recK recH inRange lightKey BookC.len BookC.take WishC.len WishC.take RW_nil RW_cons RW_guard GW_t GW_f GW_gt GW_gf GW_tup GY_some GY_tt GY_ff gd_t gd_f pk_t pk_f pk_and pk_or pk_andc pk_orc pk_bool gd_gd SW_some ThenQ_normal ThenQ_exit ThenQ_ret BlockQ_normal BlockQ_exit BlockQ_ret kill_nil kill_cons killT_at killL_at upo_some upo_none ev_t ev_k FinQ_ret FinQ_normal upd_eq upd_ne argsT_zero argsT_succ aop.eq_1 aop_pick aop.eq_3 aop.eq_4 aop.eq_5 aop.eq_6 aop.eq_7 aop.eq_8 aop.eq_9 aop.eq_10 aop.eq_11 aop.eq_12 aop.eq_13 aop.eq_14 aop.eq_15 aop.eq_16 aop.eq_17 aop.eq_18 aop.eq_19 aop.eq_20 aop.eq_21 aop_slice_hi aop_slice_lo aop.eq_23 aop.eq_24 aop.eq_26 aop.eq_27 aop.eq_28 aop.eq_29 aop.eq_31 aop.eq_32 aop_maxs2 aop_mins2 aop_mins3 aop_len aop_iaddr Av.bool? Av.ptr? Av.int? Av.int64? Av.str? Av.agg? ressA resA resOf noLoc_int noLoc_bool noLoc_str noLoc_nils noLoc_nilp noLoc_ptrl noLoc_ptrr noLoc_sll noLoc_slr noLoc_fn noLoc_tc noLoc_tagg noLoc_av noLoc_atup ce_c tv_v cells_c cells_agg noLocs keyLoc evs callA St.set St.get unAv binCe killV_int killV_bool killV_str killV_nils killV_nilp killV_agg killV_no killV_tup killV_ptrl killV_ptrr killV_sll killV_slr killV_fn killV_noLoc fillA repl ptrs List.map
attribute [local congr] GY_congr

def zBook : Book := ⟨0, [], []⟩
def hearH (yes : Bool) (a : Held) : Held := ⟨a.name, if yes = true then a.next else a.tube, []⟩
def putB (b : Book) (k : Int) (a : Held) : Book := ⟨b.now, b.fields, b.held.set k.toNat a⟩
def heldAt (b : Book) (k : Int) : Held := b.held.getD k.toNat default
def hearB (b : Book) (n : ByteArray) (yes : Bool) : Book × Int :=
  if bookOkB b = false then (zBook, 1) else
  if atB b.held n = -1 then (b, 6) else
  if (heldAt b (atB b.held n)).next = [] then (b, 8) else (putB b (atB b.held n) (hearH yes (heldAt b (atB b.held n))), 0)

theorem OwnBook.nl {h : Heap} {c : BookC} {b : Book} {fp : List Nat} (o : OwnBook h c b fp) : c.f.noLoc = true ∧ c.hd.noLoc = true := by
  obtain ⟨_, f1, f2, o1, o2, _, _⟩ := o
  exact ⟨o1.noLoc, o2.noLoc⟩
theorem New.zBook {h : Heap} (ho : HOk h) : New (fun h fp => OwnBook h ⟨0, .nils, .nils⟩ Go.Abs.zBook fp) h h [] :=
  ⟨⟨rfl, [], [], OwnF.nil, OwnS.nil, rfl, by simp⟩, Fr.refl ho, by simp⟩
theorem zBook_ces : [Ce.int .i64 0, .nils, .nils] = (⟨0, .nils, .nils⟩ : BookC).ces := rfl

theorem spec_GiveHear {S : Nat → Prop} (h : Heap) (c : BookC) (b : Book) (n : ByteArray) (yes : Bool) (ho : HOk h) (hr : RdBook S h c b) (hw : BookWf b) (sm : SmallBook b) :
    ∃ (c' : BookC) (h' : Heap) (fp : List Nat), Fspec_GiveHear [.v (.agg c.ces), .v (.c (.str n)), .v (.c (.bool yes))] h = some (.tup [.agg c'.ces, .c (.int .i64 (hearB b n yes).2)], h') ∧ New (fun h fp => OwnBook h c' (hearB b n yes).1 fp) h h' fp := by
  unfold Fspec_GiveHear
  have B := spec_GiveBookOk h c b hr hw
  have hfl := hr.f.noLoc
  cases hb : bookOkB b
  · rw [hb] at B
    obtain ⟨v, h', h1, rfl, rfl⟩ := runF_of (env := espec_GiveHear) (code := cspec_GiveHear) (rs := [.cellN 6 3, .t 7]) (args := [.v (.agg c.ces), .v (.c (.str n)), .v (.c (.bool yes))]) (h := h) (K := fun v h' => v = .tup [.agg (⟨0, .nils, .nils⟩ : BookC).ces, .c (.int .i64 1)] ∧ h' = h) (by
      simp [cspec_GiveHear, espec_GiveHear_spec_GiveBookOk, B]
      rfl)
    simp only [hearB, hb, if_pos]
    exact ⟨_, _, _, h1, New.zBook ho⟩
  rw [hb] at B
  obtain ⟨c', H, fp, u1, nw⟩ := spec_l2Copy h c b ho hr sm
  have hr1 := hr.keep ho nw.fr
  have u2 := spec_l2At H c b n hr1
  obtain ⟨nl1, nl2⟩ := nw.own.nl
  have e2 : c.ces[2]? = some c.hd := rfl
  have e2' : c'.ces[2]? = some c'.hd := rfl
  obtain ⟨hnow, hf, hs, hh, hlen, hel⟩ := hr1
  rcases atB_cases b.held n with ha | ⟨i, hi, ha⟩
  · rw [ha] at u2
    obtain ⟨v, h', h1, rfl, rfl⟩ := runF_of (env := espec_GiveHear) (code := cspec_GiveHear) (rs := [.cellN 6 3, .t 7]) (args := [.v (.agg c.ces), .v (.c (.str n)), .v (.c (.bool yes))]) (h := h) (K := fun v h' => v = .tup [.agg c'.ces, .c (.int .i64 6)] ∧ h' = H) (by
      simp [cspec_GiveHear, espec_GiveHear_spec_GiveBookOk, espec_GiveHear_spec_l2Copy, espec_GiveHear_spec_l2At, B, u1, u2])
    rw [show hearB b n yes = (b, 6) by simp [hearB, hb, ha]]
    exact ⟨_, _, _, h1, nw⟩
  rw [ha] at u2
  have hin : i < hs.length := by omega
  obtain ⟨eb, ep, er, e1, _, e3, e4, e5, e6, e7, e8⟩ := hh.heldc hin
  have hri := hel i hin hi
  have hAt : heldAt b (i : Int) = b.held[i] := by simp [heldAt, hi]
  have hneg : ¬ (i : Int) = -1 := by omega
  by_cases hx : b.held[i].next = []
  · obtain ⟨v, h', h1, rfl, rfl⟩ := runF_of (env := espec_GiveHear) (code := cspec_GiveHear) (rs := [.cellN 6 3, .t 7]) (args := [.v (.agg c.ces), .v (.c (.str n)), .v (.c (.bool yes))]) (h := h) (K := fun v h' => v = .tup [.agg c'.ces, .c (.int .i64 8)] ∧ h' = H) (by
      simp [cspec_GiveHear, espec_GiveHear_spec_GiveBookOk, espec_GiveHear_spec_l2Copy, espec_GiveHear_spec_l2At, B, u1, u2, e2, e1, e3, e8, hri.x.slen, hri.x.noLoc, hh.noLoc, hx])
    rw [show hearB b n yes = (b, 8) by simp [hearB, hb, ha, hneg, hAt, hx]]
    exact ⟨_, _, _, h1, nw⟩
  obtain ⟨qb, bs, f1, f2, hib, a1, a2, a3, a4, a4', a5, a6, a7, a8, a9, a10, put⟩ := nw.held hi
  have s1 := fHeld.all_set bs (i := i) (k := 1) hib (by decide) (b := ⟨bs[i].name, bs[i].x, bs[i].x⟩) (v := bs[i].x) (by simp [fHeld])
  have s2 := fHeld.all_set (bs.set i ⟨bs[i].name, bs[i].x, bs[i].x⟩) (i := i) (k := 2) (by simpa using hib) (by decide) (b := ⟨bs[i].name, bs[i].x, .sl (.inr H.nx) 0 0 .own⟩) (v := .sl (.inr H.nx) 0 0 .own) (by simp [fHeld])
  have s3 := fHeld.all_set bs (i := i) (k := 2) hib (by decide) (b := ⟨bs[i].name, bs[i].t, .sl (.inr H.nx) 0 0 .own⟩) (v := .sl (.inr H.nx) 0 0 .own) (by simp [fHeld])
  have c2 := fHeld.all_cell bs (i := i) (k := 2) hib (by decide)
  simp only [show fHeld.sz = 3 from rfl] at s1 s2 s3 c2
  replace c2 : (fHeld.all bs)[i * 3 + 2]? = some bs[i].x := c2
  have hlen1 : (fHeld.all bs).length = b.held.length * 3 := by rw [fHeld.all_length, a2]; rfl
  have hlen2 : ∀ z, (fHeld.all (bs.set i z)).length = b.held.length * 3 := fun z => by rw [fHeld.all_length, List.length_set, a2]; rfl
  have q1 : i * 3 + 1 ≤ b.held.length * 3 := by omega
  have q2 : i * 3 + 2 ≤ b.held.length * 3 := by omega
  have q3 : i * 3 + 3 ≤ b.held.length * 3 := by omega
  have he2 : (Ce.sl (Sum.inr qb) 0 b.held.length .own).eltAt 3 i = some (.inr qb, i * 3) := by simp [Ce.eltAt, hi]
  have hqn : ¬ qb = H.nx := by omega
  have hxl : ¬ (b.held[i].next.length : Int) = 0 := by
    intro e
    exact hx (List.length_eq_zero_iff.1 (by omega))
  have hE : hearB b n yes = (⟨b.now, b.fields, b.held.set i (hearH yes b.held[i])⟩, 0) := by simp [hearB, hb, ha, hneg, hAt, hx, putB]
  have hnx : ∀ x, x ∈ f1 ++ f2 → x < H.nx := a10
  have nd := List.nodup_append.1 a8
  cases yes
  · obtain ⟨h1, hh1⟩ : ∃ h1 : Heap, h1 = ⟨H.nx + 1, upd (H.push ⟨[], 6, true⟩).hp qb (some ⟨fHeld.all (bs.set i ⟨bs[i].name, bs[i].t, .sl (.inr H.nx) 0 0 .own⟩), 3, true⟩)⟩ := ⟨_, rfl⟩
    obtain ⟨v, h', h1', rfl, e'⟩ := runF_of (env := espec_GiveHear) (code := cspec_GiveHear) (rs := [.cellN 6 3, .t 7]) (args := [.v (.agg c.ces), .v (.c (.str n)), .v (.c (.bool false))]) (h := h) (K := fun v h' => v = .tup [.agg c'.ces, .c (.int .i64 0)] ∧ h' = h1) (by
      simp [cspec_GiveHear, espec_GiveHear_spec_GiveBookOk, espec_GiveHear_spec_l2Copy, espec_GiveHear_spec_l2At, B, u1, u2, e2, e2', e1, e3, e8, hri.x.slen, hri.x.noLoc, hh.noLoc, hx, a1, he2, a3, hlen1, hlen2, q1, q2, q3, s3, c2, hqn, hh1, St.push, Heap.push])
    rw [e'] at h1'
    have hp1 : ∀ x, x < H.nx → x ≠ qb → h1.hp x = H.hp x := fun x hx hne => by rw [hh1]; simp [upd, Heap.push, hne, Nat.ne_of_lt hx]
    have hnq : h1.hp H.nx = some ⟨[], 6, true⟩ := by rw [hh1]; simp [upd, Heap.push, show ¬ H.nx = qb by omega]
    obtain ⟨fp', nw'⟩ := put h1 ⟨bs[i].name, bs[i].t, .sl (.inr H.nx) 0 0 .own⟩ (hearH false b.held[i]) (f1 ++ [H.nx]) (by rw [hh1]; exact (Chg.one (Fr.push nw.fr.ok ⟨[], 6, true⟩).ok (b := qb) (by simp only [Heap.push]; omega) _).ok) (by rw [hh1]; exact Nat.le_succ _) (by rw [hh1]; simp [upd]) hp1
      ⟨a5, f1, [H.nx], a6.frame fun x hx => hp1 x (hnx x (by simp [hx])) (fun e => a9 (by rw [← e]; simp [hx])), .inr ⟨H.nx, rfl, hnq, rfl⟩, rfl⟩
      (List.nodup_append.2 ⟨nd.1, by simp, fun x hx y hy e => by
        simp at hy
        have := hnx x (by simp [hx])
        omega⟩) (fun x hx => by
        rw [List.mem_append] at hx
        rcases hx with hx | hx
        · exact .inl (by simp [hx])
        · simp at hx; exact .inr (by omega))
    rw [hE]
    exact ⟨_, _, _, h1', nw'⟩
  · obtain ⟨h1, hh1⟩ : ∃ h1 : Heap, h1 = ⟨H.nx + 1, upd (upd (upd H.hp qb (some ⟨fHeld.all (bs.set i ⟨bs[i].name, bs[i].x, bs[i].x⟩), 3, true⟩)) H.nx (some ⟨[], 6, true⟩)) qb (some ⟨fHeld.all (bs.set i ⟨bs[i].name, bs[i].x, .sl (.inr H.nx) 0 0 .own⟩), 3, true⟩)⟩ := ⟨_, rfl⟩
    obtain ⟨v, h', h1', rfl, e'⟩ := runF_of (env := espec_GiveHear) (code := cspec_GiveHear) (rs := [.cellN 6 3, .t 7]) (args := [.v (.agg c.ces), .v (.c (.str n)), .v (.c (.bool true))]) (h := h) (K := fun v h' => v = .tup [.agg c'.ces, .c (.int .i64 0)] ∧ h' = h1) (by
      simp [cspec_GiveHear, espec_GiveHear_spec_GiveBookOk, espec_GiveHear_spec_l2Copy, espec_GiveHear_spec_l2At, B, u1, u2, e2, e2', e1, e3, e8, hri.x.slen, hri.x.noLoc, hh.noLoc, hx, a1, he2, a3, a7.noLoc, hlen1, hlen2, q1, q2, q3, s1, s2, c2, hqn, hh1, St.push, Heap.push])
    rw [e'] at h1'
    have hp1 : ∀ x, x < H.nx → x ≠ qb → h1.hp x = H.hp x := fun x hx hne => by rw [hh1]; simp [upd, hne, Nat.ne_of_lt hx]
    have hnq : h1.hp H.nx = some ⟨[], 6, true⟩ := by rw [hh1]; simp [upd, show ¬ H.nx = qb by omega]
    have cg1 := Chg.one nw.fr.ok (b := qb) a4 (some ⟨fHeld.all (bs.set i ⟨bs[i].name, bs[i].x, bs[i].x⟩), 3, true⟩)
    obtain ⟨fp', nw'⟩ := put h1 ⟨bs[i].name, bs[i].x, .sl (.inr H.nx) 0 0 .own⟩ (hearH true b.held[i]) (f2 ++ [H.nx]) (by rw [hh1]; exact (Chg.one (Fr.push cg1.ok ⟨[], 6, true⟩).ok (b := qb) (by simp only [Heap.push]; omega) _).ok) (by rw [hh1]; exact Nat.le_succ _) (by rw [hh1]; simp [upd]) hp1
      ⟨a5, f2, [H.nx], a7.frame fun x hx => hp1 x (hnx x (by simp [hx])) (fun e => a9 (by rw [← e]; simp [hx])), .inr ⟨H.nx, rfl, hnq, rfl⟩, rfl⟩
      (List.nodup_append.2 ⟨nd.2.1, by simp, fun x hx y hy e => by
        simp at hy
        have := hnx x (by simp [hx])
        omega⟩) (fun x hx => by
        rw [List.mem_append] at hx
        rcases hx with hx | hx
        · exact .inl (by simp [hx])
        · simp at hx; exact .inr (by omega))
    rw [hE]
    exact ⟨_, _, _, h1', nw'⟩
theorem impl_GiveHear {S : Nat → Prop} (h : Heap) (c : BookC) (b : Book) (n : ByteArray) (yes : Bool) (ho : HOk h) (hr : RdBook S h c b) (hw : BookWf b) (sm : SmallBook b) :
    ∃ (c' : BookC) (h' : Heap) (fp : List Nat), Fimpl_GiveHear [.v (.agg c.ces), .v (.c (.str n)), .v (.c (.bool yes))] h = some (.tup [.agg c'.ces, .c (.int .i64 (hearB b n yes).2)], h') ∧ New (fun h fp => OwnBook h c' (hearB b n yes).1 fp) h h' fp := by
  unfold Fimpl_GiveHear
  have B := impl_GiveBookOk h c b hr hw
  have hfl := hr.f.noLoc
  cases hb : bookOkB b
  · rw [hb] at B
    obtain ⟨v, h', h1, rfl, rfl⟩ := runF_of (env := eimpl_GiveHear) (code := cimpl_GiveHear) (rs := [.cellN 6 3, .t 7]) (args := [.v (.agg c.ces), .v (.c (.str n)), .v (.c (.bool yes))]) (h := h) (K := fun v h' => v = .tup [.agg (⟨0, .nils, .nils⟩ : BookC).ces, .c (.int .i64 1)] ∧ h' = h) (by
      simp [cimpl_GiveHear, eimpl_GiveHear_impl_GiveBookOk, B]
      rfl)
    simp only [hearB, hb, if_pos]
    exact ⟨_, _, _, h1, New.zBook ho⟩
  rw [hb] at B
  obtain ⟨c', H, fp, u1, nw⟩ := impl_copyBook h c b ho hr sm
  have hr1 := hr.keep ho nw.fr
  have u2 := impl_GiveBook_at H c b n hr1
  obtain ⟨nl1, nl2⟩ := nw.own.nl
  have e2 : c.ces[2]? = some c.hd := rfl
  have e2' : c'.ces[2]? = some c'.hd := rfl
  obtain ⟨hnow, hf, hs, hh, hlen, hel⟩ := hr1
  rcases atB_cases b.held n with ha | ⟨i, hi, ha⟩
  · rw [ha] at u2
    obtain ⟨v, h', h1, rfl, rfl⟩ := runF_of (env := eimpl_GiveHear) (code := cimpl_GiveHear) (rs := [.cellN 6 3, .t 7]) (args := [.v (.agg c.ces), .v (.c (.str n)), .v (.c (.bool yes))]) (h := h) (K := fun v h' => v = .tup [.agg c'.ces, .c (.int .i64 6)] ∧ h' = H) (by
      simp [cimpl_GiveHear, eimpl_GiveHear_impl_GiveBookOk, eimpl_GiveHear_impl_copyBook, eimpl_GiveHear_impl_GiveBook_at, B, u1, u2])
    rw [show hearB b n yes = (b, 6) by simp [hearB, hb, ha]]
    exact ⟨_, _, _, h1, nw⟩
  rw [ha] at u2
  have hin : i < hs.length := by omega
  obtain ⟨eb, ep, er, e1, _, e3, e4, e5, e6, e7, e8⟩ := hh.heldc hin
  have hri := hel i hin hi
  have hAt : heldAt b (i : Int) = b.held[i] := by simp [heldAt, hi]
  have hneg : ¬ (i : Int) = -1 := by omega
  by_cases hx : b.held[i].next = []
  · obtain ⟨v, h', h1, rfl, rfl⟩ := runF_of (env := eimpl_GiveHear) (code := cimpl_GiveHear) (rs := [.cellN 6 3, .t 7]) (args := [.v (.agg c.ces), .v (.c (.str n)), .v (.c (.bool yes))]) (h := h) (K := fun v h' => v = .tup [.agg c'.ces, .c (.int .i64 8)] ∧ h' = H) (by
      simp [cimpl_GiveHear, eimpl_GiveHear_impl_GiveBookOk, eimpl_GiveHear_impl_copyBook, eimpl_GiveHear_impl_GiveBook_at, B, u1, u2, e2, e1, e3, e8, hri.x.slen, hri.x.noLoc, hh.noLoc, hx])
    rw [show hearB b n yes = (b, 8) by simp [hearB, hb, ha, hneg, hAt, hx]]
    exact ⟨_, _, _, h1, nw⟩
  obtain ⟨qb, bs, f1, f2, hib, a1, a2, a3, a4, a4', a5, a6, a7, a8, a9, a10, put⟩ := nw.held hi
  have s1 := fHeld.all_set bs (i := i) (k := 1) hib (by decide) (b := ⟨bs[i].name, bs[i].x, bs[i].x⟩) (v := bs[i].x) (by simp [fHeld])
  have s2 := fHeld.all_set (bs.set i ⟨bs[i].name, bs[i].x, bs[i].x⟩) (i := i) (k := 2) (by simpa using hib) (by decide) (b := ⟨bs[i].name, bs[i].x, .nils⟩) (v := .nils) (by simp [fHeld])
  have s3 := fHeld.all_set bs (i := i) (k := 2) hib (by decide) (b := ⟨bs[i].name, bs[i].t, .nils⟩) (v := .nils) (by simp [fHeld])
  have c2 := fHeld.all_cell bs (i := i) (k := 2) hib (by decide)
  simp only [show fHeld.sz = 3 from rfl] at s1 s2 s3 c2
  replace c2 : (fHeld.all bs)[i * 3 + 2]? = some bs[i].x := c2
  have hlen1 : (fHeld.all bs).length = b.held.length * 3 := by rw [fHeld.all_length, a2]; rfl
  have hlen2 : ∀ z, (fHeld.all (bs.set i z)).length = b.held.length * 3 := fun z => by rw [fHeld.all_length, List.length_set, a2]; rfl
  have q1 : i * 3 + 1 ≤ b.held.length * 3 := by omega
  have q2 : i * 3 + 2 ≤ b.held.length * 3 := by omega
  have q3 : i * 3 + 3 ≤ b.held.length * 3 := by omega
  have he2 : (Ce.sl (Sum.inr qb) 0 b.held.length .own).eltAt 3 i = some (.inr qb, i * 3) := by simp [Ce.eltAt, hi]
  have hqn : ¬ qb = H.nx := by omega
  have hxl : ¬ (b.held[i].next.length : Int) = 0 := by
    intro e
    exact hx (List.length_eq_zero_iff.1 (by omega))
  have hE : hearB b n yes = (⟨b.now, b.fields, b.held.set i (hearH yes b.held[i])⟩, 0) := by simp [hearB, hb, ha, hneg, hAt, hx, putB]
  have hnx : ∀ x, x ∈ f1 ++ f2 → x < H.nx := a10
  have nd := List.nodup_append.1 a8
  cases yes
  · obtain ⟨h1, hh1⟩ : ∃ h1 : Heap, h1 = ⟨H.nx, upd H.hp qb (some ⟨fHeld.all (bs.set i ⟨bs[i].name, bs[i].t, .nils⟩), 3, true⟩)⟩ := ⟨_, rfl⟩
    obtain ⟨v, h', h1', rfl, e'⟩ := runF_of (env := eimpl_GiveHear) (code := cimpl_GiveHear) (rs := [.cellN 6 3, .t 7]) (args := [.v (.agg c.ces), .v (.c (.str n)), .v (.c (.bool false))]) (h := h) (K := fun v h' => v = .tup [.agg c'.ces, .c (.int .i64 0)] ∧ h' = h1) (by
      simp [cimpl_GiveHear, eimpl_GiveHear_impl_GiveBookOk, eimpl_GiveHear_impl_copyBook, eimpl_GiveHear_impl_GiveBook_at, B, u1, u2, e2, e2', e1, e3, e8, hri.x.slen, hri.x.noLoc, hh.noLoc, hx, a1, he2, a3, hlen1, hlen2, q1, q2, q3, s3, c2, hqn, hh1, St.push, Heap.push])
    rw [e'] at h1'
    have hp1 : ∀ x, x < H.nx → x ≠ qb → h1.hp x = H.hp x := fun x hx hne => by rw [hh1]; simp [upd, hne]
    obtain ⟨fp', nw'⟩ := put h1 ⟨bs[i].name, bs[i].t, .nils⟩ (hearH false b.held[i]) f1 (by rw [hh1]; exact (Chg.one nw.fr.ok (b := qb) a4 _).ok) (by rw [hh1]; exact Nat.le_refl _) (by rw [hh1]; simp [upd]) hp1
      ⟨a5, f1, [], a6.frame fun x hx => hp1 x (hnx x (by simp [hx])) (fun e => a9 (by rw [← e]; simp [hx])), OwnF.nil, by simp⟩
      nd.1 (fun x hx => .inl (by simp [hx]))
    rw [hE]
    exact ⟨_, _, _, h1', nw'⟩
  · obtain ⟨h1, hh1⟩ : ∃ h1 : Heap, h1 = ⟨H.nx, upd (upd H.hp qb (some ⟨fHeld.all (bs.set i ⟨bs[i].name, bs[i].x, bs[i].x⟩), 3, true⟩)) qb (some ⟨fHeld.all (bs.set i ⟨bs[i].name, bs[i].x, .nils⟩), 3, true⟩)⟩ := ⟨_, rfl⟩
    obtain ⟨v, h', h1', rfl, e'⟩ := runF_of (env := eimpl_GiveHear) (code := cimpl_GiveHear) (rs := [.cellN 6 3, .t 7]) (args := [.v (.agg c.ces), .v (.c (.str n)), .v (.c (.bool true))]) (h := h) (K := fun v h' => v = .tup [.agg c'.ces, .c (.int .i64 0)] ∧ h' = h1) (by
      simp [cimpl_GiveHear, eimpl_GiveHear_impl_GiveBookOk, eimpl_GiveHear_impl_copyBook, eimpl_GiveHear_impl_GiveBook_at, B, u1, u2, e2, e2', e1, e3, e8, hri.x.slen, hri.x.noLoc, hh.noLoc, hx, a1, he2, a3, a7.noLoc, hlen1, hlen2, q1, q2, q3, s1, s2, c2, hqn, hh1, St.push, Heap.push])
    rw [e'] at h1'
    have hp1 : ∀ x, x < H.nx → x ≠ qb → h1.hp x = H.hp x := fun x hx hne => by rw [hh1]; simp [upd, hne]
    have cg1 := Chg.one nw.fr.ok (b := qb) a4 (some ⟨fHeld.all (bs.set i ⟨bs[i].name, bs[i].x, bs[i].x⟩), 3, true⟩)
    obtain ⟨fp', nw'⟩ := put h1 ⟨bs[i].name, bs[i].x, .nils⟩ (hearH true b.held[i]) f2 (by rw [hh1]; exact (Chg.one cg1.ok (b := qb) a4 _).ok) (by rw [hh1]; exact Nat.le_refl _) (by rw [hh1]; simp [upd]) hp1
      ⟨a5, f2, [], a7.frame fun x hx => hp1 x (hnx x (by simp [hx])) (fun e => a9 (by rw [← e]; simp [hx])), OwnF.nil, by simp⟩
      nd.2.1 (fun x hx => .inl (by simp [hx]))
    rw [hE]
    exact ⟨_, _, _, h1', nw'⟩

theorem zBook_small : SmallBook zBook := ⟨by simp [zBook], by simp [zBook], by simp [zBook]⟩
theorem SmallBook.put {b : Book} (sm : SmallBook b) (k : Int) {a : Held} (ha : a.tube.length ≤ 1048576 ∧ a.next.length ≤ 1048576) : SmallBook (putB b k a) := by
  refine ⟨sm.f, by simpa [putB] using sm.h, fun x hx => ?_⟩
  rcases List.mem_or_eq_of_mem_set hx with hx | rfl
  · exact sm.t x hx
  · exact ha
theorem SmallBook.at {b : Book} (sm : SmallBook b) (k : Int) : (heldAt b k).tube.length ≤ 1048576 ∧ (heldAt b k).next.length ≤ 1048576 := by
  simp only [heldAt]
  by_cases hk : k.toNat < b.held.length
  · have : b.held.getD k.toNat default = b.held[k.toNat] := by simp [hk]
    rw [this]
    exact sm.t _ (List.getElem_mem hk)
  · have : b.held.getD k.toNat default = default := by simp [hk]
    rw [this]
    exact ⟨by decide, by decide⟩
theorem hearB_small {b : Book} (sm : SmallBook b) (n : ByteArray) (yes : Bool) : SmallBook (hearB b n yes).1 := by
  have s2 := sm.at (atB b.held n)
  simp only [hearB]
  split
  · exact zBook_small
  split
  · exact sm
  split
  · exact sm
  · refine sm.put _ ⟨?_, by simp [hearH]⟩
    simp only [hearH]
    split
    · exact s2.2
    · exact s2.1
end Go.Abs

/-
  A tube asked for in place of a held one.
-/

namespace Go.Abs
set_option linter.unusedSimpArgs false
set_option linter.unusedVariables false
attribute [local simp] AW_skip AW_exit AW_ret AW_seq AW_block AW_cond CW_ite AW_reg AW_regD AW_regDc RD_nil RD_cons keyEq hasP hasH hasL chkL chkH recK recH inRange lightKey BookC.len BookC.take WishC.len WishC.take RW_nil RW_cons RW_guard GW_t GW_f GW_gt GW_gf GW_tup GY_some GY_tt GY_ff gd_t gd_f pk_t pk_f pk_and pk_or pk_andc pk_orc pk_bool gd_gd SW_some ThenQ_normal ThenQ_exit ThenQ_ret BlockQ_normal BlockQ_exit BlockQ_ret kill_nil kill_cons killT_at killL_at upo_some upo_none ev_t ev_k FinQ_ret FinQ_normal upd_eq upd_ne argsT_zero argsT_succ aop.eq_1 aop_pick aop.eq_3 aop.eq_4 aop.eq_5 aop.eq_6 aop.eq_7 aop.eq_8 aop.eq_9 aop.eq_10 aop.eq_11 aop.eq_12 aop.eq_13 aop.eq_14 aop.eq_15 aop.eq_16 aop.eq_17 aop.eq_18 aop.eq_19 aop.eq_20 aop.eq_21 aop_slice_hi aop_slice_lo aop.eq_23 aop.eq_24 aop.eq_26 aop.eq_27 aop.eq_28 aop.eq_29 aop.eq_31 aop.eq_32 aop_maxs2 aop_mins2 aop_mins3 aop_len aop_iaddr Av.bool? Av.ptr? Av.int? Av.int64? Av.str? Av.agg? ressA resA resOf noLoc_int noLoc_bool noLoc_str noLoc_nils noLoc_nilp noLoc_ptrl noLoc_ptrr noLoc_sll noLoc_slr noLoc_fn noLoc_tc noLoc_tagg noLoc_av noLoc_atup ce_c tv_v cells_c cells_agg noLocs keyLoc evs callA St.set St.get unAv binCe killV_int killV_bool killV_str killV_nils killV_nilp killV_agg killV_no killV_tup killV_ptrl killV_ptrr killV_sll killV_slr killV_fn killV_noLoc fillA repl ptrs List.map
attribute [local congr] GY_congr

def amendB (b : Book) (n : ByteArray) (t : List Box) : Book × Int :=
  if bookOkB b = false then (zBook, 1) else
  if tubeOkB b.fields t = false ∨ fromB t b.now = false then (b, 2) else
  if atB b.held n = -1 then (b, 6) else
  if (heldAt b (atB b.held n)).next ≠ [] then (b, 7) else
  if freeB b n t = false then (b, 5) else
  (putB b (atB b.held n) ⟨(heldAt b (atB b.held n)).name, (heldAt b (atB b.held n)).tube, t⟩, 0)

theorem spec_GiveAmend {S S' : Nat → Prop} (h : Heap) (c : BookC) (b : Book) (n : ByteArray) (ct : Ce) (t : List Box) (ho : HOk h) (hr : RdBook S h c b) (hw : BookWf b) (ht : RdF fBox S' h ct t) (sm : SmallBook b) (smt : t.length ≤ 1048576) :
    ∃ (c' : BookC) (h' : Heap) (fp : List Nat), Fspec_GiveAmend [.v (.agg c.ces), .v (.c (.str n)), .v (.c ct)] h = some (.tup [.agg c'.ces, .c (.int .i64 (amendB b n t).2)], h') ∧ New (fun h fp => OwnBook h c' (amendB b n t).1 fp) h h' fp := by
  unfold Fspec_GiveAmend
  have B := spec_GiveBookOk h c b hr hw
  have hfl := hr.f.noLoc
  have htl := ht.noLoc
  cases hb : bookOkB b
  · rw [hb] at B
    obtain ⟨v, h', h1, rfl, rfl⟩ := runF_of (env := espec_GiveAmend) (code := cspec_GiveAmend) (rs := [.cellN 6 3, .t 7]) (args := [.v (.agg c.ces), .v (.c (.str n)), .v (.c ct)]) (h := h) (K := fun v h' => v = .tup [.agg (⟨0, .nils, .nils⟩ : BookC).ces, .c (.int .i64 1)] ∧ h' = h) (by
      simp [cspec_GiveAmend, htl, espec_GiveAmend_spec_GiveBookOk, B]
      rfl)
    simp only [amendB, hb, if_pos]
    exact ⟨_, _, _, h1, New.zBook ho⟩
  rw [hb] at B
  obtain ⟨c', H, fp, u1, nw⟩ := spec_l2Copy h c b ho hr sm
  have hr1 := hr.keep ho nw.fr
  have ht1 := ht.keep ho nw.fr
  have u2 := spec_l2At H c b n hr1
  have u3 := spec_GiveTubeOk H _ _ _ _ hr1.f ht1
  have u4 := spec_l2From H _ _ b.now ht1
  have u5 := spec_l3Free H c b n ct t hr1 ht1
  obtain ⟨nl1, nl2⟩ := nw.own.nl
  have e0 : c.ces[0]? = some (.int .i64 b.now) := by rw [← hr.now]; rfl
  have e1' : c.ces[1]? = some c.f := rfl
  have e2 : c.ces[2]? = some c.hd := rfl
  have e2' : c'.ces[2]? = some c'.hd := rfl
  obtain ⟨hnow, hf, hs, hh, hlen, hel⟩ := hr1
  by_cases tok : tubeOkB b.fields t = false ∨ fromB t b.now = false
  · obtain ⟨v, h', h1, rfl, rfl⟩ := runF_of (env := espec_GiveAmend) (code := cspec_GiveAmend) (rs := [.cellN 6 3, .t 7]) (args := [.v (.agg c.ces), .v (.c (.str n)), .v (.c ct)]) (h := h) (K := fun v h' => v = .tup [.agg c'.ces, .c (.int .i64 2)] ∧ h' = H) (by
      cases k1 : tubeOkB b.fields t <;> cases k2 : fromB t b.now <;> rw [k1] at u3 <;> rw [k2] at u4 <;> simp [k1, k2] at tok <;>
      simp [cspec_GiveAmend, htl, hfl, espec_GiveAmend_spec_GiveBookOk, espec_GiveAmend_spec_l2Copy, espec_GiveAmend_spec_l2At, espec_GiveAmend_spec_GiveTubeOk, espec_GiveAmend_spec_l2From, B, u1, u2, u3, u4, e0, e1', e2])
    rw [show amendB b n t = (b, 2) by simp [amendB, hb, tok]]
    exact ⟨_, _, _, h1, nw⟩
  have tk1 : tubeOkB b.fields t = true := by cases k : tubeOkB b.fields t <;> simp_all
  have tk2 : fromB t b.now = true := by cases k : fromB t b.now <;> simp_all
  rw [tk1] at u3
  rw [tk2] at u4
  rcases atB_cases b.held n with ha | ⟨i, hi, ha⟩
  · rw [ha] at u2
    obtain ⟨v, h', h1, rfl, rfl⟩ := runF_of (env := espec_GiveAmend) (code := cspec_GiveAmend) (rs := [.cellN 6 3, .t 7]) (args := [.v (.agg c.ces), .v (.c (.str n)), .v (.c ct)]) (h := h) (K := fun v h' => v = .tup [.agg c'.ces, .c (.int .i64 6)] ∧ h' = H) (by
      simp [cspec_GiveAmend, htl, hfl, espec_GiveAmend_spec_GiveBookOk, espec_GiveAmend_spec_l2Copy, espec_GiveAmend_spec_l2At, espec_GiveAmend_spec_GiveTubeOk, espec_GiveAmend_spec_l2From, B, u1, u2, u3, u4, e0, e1', e2])
    rw [show amendB b n t = (b, 6) by simp [amendB, hb, tk1, tk2, ha]]
    exact ⟨_, _, _, h1, nw⟩
  rw [ha] at u2
  have hin : i < hs.length := by omega
  obtain ⟨eb, ep, er, e1, _, e3, e4, e5, e6, e7, e8⟩ := hh.heldc hin
  have hri := hel i hin hi
  have hAt : heldAt b (i : Int) = b.held[i] := by simp [heldAt, hi]
  have hneg : ¬ (i : Int) = -1 := by omega
  by_cases hx : b.held[i].next = []
  rotate_left
  · obtain ⟨v, h', h1, rfl, rfl⟩ := runF_of (env := espec_GiveAmend) (code := cspec_GiveAmend) (rs := [.cellN 6 3, .t 7]) (args := [.v (.agg c.ces), .v (.c (.str n)), .v (.c ct)]) (h := h) (K := fun v h' => v = .tup [.agg c'.ces, .c (.int .i64 7)] ∧ h' = H) (by
      have hxl : 0 < b.held[i].next.length := List.length_pos_iff.2 hx
      simp [cspec_GiveAmend, htl, hfl, espec_GiveAmend_spec_GiveBookOk, espec_GiveAmend_spec_l2Copy, espec_GiveAmend_spec_l2At, espec_GiveAmend_spec_GiveTubeOk, espec_GiveAmend_spec_l2From, B, u1, u2, u3, u4, e0, e1', e2, e1, e3, e8, hri.x.slen, hri.x.noLoc, hh.noLoc, hx, hxl])
    rw [show amendB b n t = (b, 7) by simp [amendB, hb, tk1, tk2, ha, hneg, hAt, hx]]
    exact ⟨_, _, _, h1, nw⟩
  cases hfr : freeB b n t
  · rw [hfr] at u5
    obtain ⟨v, h', h1, rfl, rfl⟩ := runF_of (env := espec_GiveAmend) (code := cspec_GiveAmend) (rs := [.cellN 6 3, .t 7]) (args := [.v (.agg c.ces), .v (.c (.str n)), .v (.c ct)]) (h := h) (K := fun v h' => v = .tup [.agg c'.ces, .c (.int .i64 5)] ∧ h' = H) (by
      simp [cspec_GiveAmend, htl, hfl, espec_GiveAmend_spec_GiveBookOk, espec_GiveAmend_spec_l2Copy, espec_GiveAmend_spec_l2At, espec_GiveAmend_spec_GiveTubeOk, espec_GiveAmend_spec_l2From, espec_GiveAmend_spec_l3Free, B, u1, u2, u3, u4, u5, e0, e1', e2, e1, e3, e8, hri.x.slen, hri.x.noLoc, hh.noLoc, hx])
    rw [show amendB b n t = (b, 5) by simp [amendB, hb, tk1, tk2, ha, hneg, hAt, hx, hfr]]
    exact ⟨_, _, _, h1, nw⟩
  rw [hfr] at u5
  obtain ⟨qb, bs, f1, f2, hib, a1, a2, a3, a4, a4', a5, a6, a7, a8, a9, a10, put⟩ := nw.held hi
  obtain ⟨x', H1, ft, u6, n6⟩ := spec_l2Tube H ct t nw.fr.ok ht1 smt
  have s3 := fHeld.all_set bs (i := i) (k := 2) hib (by decide) (b := ⟨bs[i].name, bs[i].t, x'⟩) (v := x') (by simp [fHeld])
  simp only [show fHeld.sz = 3 from rfl] at s3
  have hlen1 : (fHeld.all bs).length = b.held.length * 3 := by rw [fHeld.all_length, a2]; rfl
  have q3 : i * 3 + 3 ≤ b.held.length * 3 := by omega
  have he2 : (Ce.sl (Sum.inr qb) 0 b.held.length .own).eltAt 3 i = some (.inr qb, i * 3) := by simp [Ce.eltAt, hi]
  have a3' : H1.hp qb = some ⟨fHeld.all bs, 3, true⟩ := by rw [n6.fr.hp _ a4]; exact a3
  have hE : amendB b n t = (⟨b.now, b.fields, b.held.set i ⟨b.held[i].name, b.held[i].tube, t⟩⟩, 0) := by simp [amendB, hb, tk1, tk2, ha, hneg, hAt, hx, hfr, putB]
  have nd := List.nodup_append.1 a8
  have nx1 := n6.fr.nx
  obtain ⟨h1, hh1⟩ : ∃ h1 : Heap, h1 = ⟨H1.nx, upd H1.hp qb (some ⟨fHeld.all (bs.set i ⟨bs[i].name, bs[i].t, x'⟩), 3, true⟩)⟩ := ⟨_, rfl⟩
  obtain ⟨v, h', h1', rfl, e'⟩ := runF_of (env := espec_GiveAmend) (code := cspec_GiveAmend) (rs := [.cellN 6 3, .t 7]) (args := [.v (.agg c.ces), .v (.c (.str n)), .v (.c ct)]) (h := h) (K := fun v h' => v = .tup [.agg c'.ces, .c (.int .i64 0)] ∧ h' = h1) (by
    simp [cspec_GiveAmend, htl, hfl, espec_GiveAmend_spec_GiveBookOk, espec_GiveAmend_spec_l2Copy, espec_GiveAmend_spec_l2At, espec_GiveAmend_spec_GiveTubeOk, espec_GiveAmend_spec_l2From, espec_GiveAmend_spec_l3Free, espec_GiveAmend_spec_l2Tube, B, u1, u2, u3, u4, u5, u6, e0, e1', e2, e2', e1, e3, e8, hri.x.slen, hri.x.noLoc, hh.noLoc, hx, a1, he2, a3', hlen1, q3, s3, hh1, n6.own.noLoc])
  rw [e'] at h1'
  have hp1 : ∀ x, x < H.nx → x ≠ qb → h1.hp x = H.hp x := fun x hx hne => by rw [hh1]; simp [upd, hne]; exact n6.fr.hp x hx
  have cg := Chg.one n6.fr.ok (b := qb) (by omega) (some ⟨fHeld.all (bs.set i ⟨bs[i].name, bs[i].t, x'⟩), 3, true⟩)
  have hft : ∀ x, x ∈ ft → H.nx ≤ x := n6.ge
  obtain ⟨fp', nw'⟩ := put h1 ⟨bs[i].name, bs[i].t, x'⟩ ⟨b.held[i].name, b.held[i].tube, t⟩ (f1 ++ ft) (by rw [hh1]; exact cg.ok) (by rw [hh1]; exact nx1) (by rw [hh1]; simp [upd]) hp1
    ⟨a5, f1, ft, a6.frame fun x hx => hp1 x (a10 x (by simp [hx])) (fun e => a9 (by rw [← e]; simp [hx])), (by rw [hh1]; exact n6.own.chg n6.fr.ok cg (fun x hx hq => by simp at hq; have := hft x hx; omega)), rfl⟩
    (List.nodup_append.2 ⟨nd.1, n6.own.nodup, fun x hx y hy e => by
      have := hft y hy
      have := a10 x (by simp [hx])
      omega⟩) (fun x hx => by
      rw [List.mem_append] at hx
      rcases hx with hx | hx
      · exact .inl (by simp [hx])
      · exact .inr (hft x hx))
  rw [hE]
  exact ⟨_, _, _, h1', nw'⟩
theorem impl_GiveAmend {S S' : Nat → Prop} (h : Heap) (c : BookC) (b : Book) (n : ByteArray) (ct : Ce) (t : List Box) (ho : HOk h) (hr : RdBook S h c b) (hw : BookWf b) (ht : RdF fBox S' h ct t) (sm : SmallBook b) (smt : t.length ≤ 1048576) :
    ∃ (c' : BookC) (h' : Heap) (fp : List Nat), Fimpl_GiveAmend [.v (.agg c.ces), .v (.c (.str n)), .v (.c ct)] h = some (.tup [.agg c'.ces, .c (.int .i64 (amendB b n t).2)], h') ∧ New (fun h fp => OwnBook h c' (amendB b n t).1 fp) h h' fp := by
  unfold Fimpl_GiveAmend
  have B := impl_GiveBookOk h c b hr hw
  have hfl := hr.f.noLoc
  have htl := ht.noLoc
  cases hb : bookOkB b
  · rw [hb] at B
    obtain ⟨v, h', h1, rfl, rfl⟩ := runF_of (env := eimpl_GiveAmend) (code := cimpl_GiveAmend) (rs := [.cellN 6 3, .t 7]) (args := [.v (.agg c.ces), .v (.c (.str n)), .v (.c ct)]) (h := h) (K := fun v h' => v = .tup [.agg (⟨0, .nils, .nils⟩ : BookC).ces, .c (.int .i64 1)] ∧ h' = h) (by
      simp [cimpl_GiveAmend, htl, eimpl_GiveAmend_impl_GiveBookOk, B]
      rfl)
    simp only [amendB, hb, if_pos]
    exact ⟨_, _, _, h1, New.zBook ho⟩
  rw [hb] at B
  obtain ⟨c', H, fp, u1, nw⟩ := impl_copyBook h c b ho hr sm
  have hr1 := hr.keep ho nw.fr
  have ht1 := ht.keep ho nw.fr
  have u2 := impl_GiveBook_at H c b n hr1
  have u3 := impl_GiveTubeOk H _ _ _ _ hr1.f ht1
  have u4 := impl_from H _ _ b.now ht1
  have u5 := impl_GiveBook_free H c b n ct t hr1 ht1
  obtain ⟨nl1, nl2⟩ := nw.own.nl
  have e0 : c.ces[0]? = some (.int .i64 b.now) := by rw [← hr.now]; rfl
  have e1' : c.ces[1]? = some c.f := rfl
  have e2 : c.ces[2]? = some c.hd := rfl
  have e2' : c'.ces[2]? = some c'.hd := rfl
  obtain ⟨hnow, hf, hs, hh, hlen, hel⟩ := hr1
  by_cases tok : tubeOkB b.fields t = false ∨ fromB t b.now = false
  · obtain ⟨v, h', h1, rfl, rfl⟩ := runF_of (env := eimpl_GiveAmend) (code := cimpl_GiveAmend) (rs := [.cellN 6 3, .t 7]) (args := [.v (.agg c.ces), .v (.c (.str n)), .v (.c ct)]) (h := h) (K := fun v h' => v = .tup [.agg c'.ces, .c (.int .i64 2)] ∧ h' = H) (by
      cases k1 : tubeOkB b.fields t <;> cases k2 : fromB t b.now <;> rw [k1] at u3 <;> rw [k2] at u4 <;> simp [k1, k2] at tok <;>
      simp [cimpl_GiveAmend, htl, hfl, eimpl_GiveAmend_impl_GiveBookOk, eimpl_GiveAmend_impl_copyBook, eimpl_GiveAmend_impl_GiveBook_at, eimpl_GiveAmend_impl_GiveTubeOk, eimpl_GiveAmend_impl_from, B, u1, u2, u3, u4, e0, e1', e2])
    rw [show amendB b n t = (b, 2) by simp [amendB, hb, tok]]
    exact ⟨_, _, _, h1, nw⟩
  have tk1 : tubeOkB b.fields t = true := by cases k : tubeOkB b.fields t <;> simp_all
  have tk2 : fromB t b.now = true := by cases k : fromB t b.now <;> simp_all
  rw [tk1] at u3
  rw [tk2] at u4
  rcases atB_cases b.held n with ha | ⟨i, hi, ha⟩
  · rw [ha] at u2
    obtain ⟨v, h', h1, rfl, rfl⟩ := runF_of (env := eimpl_GiveAmend) (code := cimpl_GiveAmend) (rs := [.cellN 6 3, .t 7]) (args := [.v (.agg c.ces), .v (.c (.str n)), .v (.c ct)]) (h := h) (K := fun v h' => v = .tup [.agg c'.ces, .c (.int .i64 6)] ∧ h' = H) (by
      simp [cimpl_GiveAmend, htl, hfl, eimpl_GiveAmend_impl_GiveBookOk, eimpl_GiveAmend_impl_copyBook, eimpl_GiveAmend_impl_GiveBook_at, eimpl_GiveAmend_impl_GiveTubeOk, eimpl_GiveAmend_impl_from, B, u1, u2, u3, u4, e0, e1', e2])
    rw [show amendB b n t = (b, 6) by simp [amendB, hb, tk1, tk2, ha]]
    exact ⟨_, _, _, h1, nw⟩
  rw [ha] at u2
  have hin : i < hs.length := by omega
  obtain ⟨eb, ep, er, e1, _, e3, e4, e5, e6, e7, e8⟩ := hh.heldc hin
  have hri := hel i hin hi
  have hAt : heldAt b (i : Int) = b.held[i] := by simp [heldAt, hi]
  have hneg : ¬ (i : Int) = -1 := by omega
  by_cases hx : b.held[i].next = []
  rotate_left
  · obtain ⟨v, h', h1, rfl, rfl⟩ := runF_of (env := eimpl_GiveAmend) (code := cimpl_GiveAmend) (rs := [.cellN 6 3, .t 7]) (args := [.v (.agg c.ces), .v (.c (.str n)), .v (.c ct)]) (h := h) (K := fun v h' => v = .tup [.agg c'.ces, .c (.int .i64 7)] ∧ h' = H) (by
      have hxl : 0 < b.held[i].next.length := List.length_pos_iff.2 hx
      simp [cimpl_GiveAmend, htl, hfl, eimpl_GiveAmend_impl_GiveBookOk, eimpl_GiveAmend_impl_copyBook, eimpl_GiveAmend_impl_GiveBook_at, eimpl_GiveAmend_impl_GiveTubeOk, eimpl_GiveAmend_impl_from, B, u1, u2, u3, u4, e0, e1', e2, e1, e3, e8, hri.x.slen, hri.x.noLoc, hh.noLoc, hx, hxl])
    rw [show amendB b n t = (b, 7) by simp [amendB, hb, tk1, tk2, ha, hneg, hAt, hx]]
    exact ⟨_, _, _, h1, nw⟩
  cases hfr : freeB b n t
  · rw [hfr] at u5
    obtain ⟨v, h', h1, rfl, rfl⟩ := runF_of (env := eimpl_GiveAmend) (code := cimpl_GiveAmend) (rs := [.cellN 6 3, .t 7]) (args := [.v (.agg c.ces), .v (.c (.str n)), .v (.c ct)]) (h := h) (K := fun v h' => v = .tup [.agg c'.ces, .c (.int .i64 5)] ∧ h' = H) (by
      simp [cimpl_GiveAmend, htl, hfl, eimpl_GiveAmend_impl_GiveBookOk, eimpl_GiveAmend_impl_copyBook, eimpl_GiveAmend_impl_GiveBook_at, eimpl_GiveAmend_impl_GiveTubeOk, eimpl_GiveAmend_impl_from, eimpl_GiveAmend_impl_GiveBook_free, B, u1, u2, u3, u4, u5, e0, e1', e2, e1, e3, e8, hri.x.slen, hri.x.noLoc, hh.noLoc, hx])
    rw [show amendB b n t = (b, 5) by simp [amendB, hb, tk1, tk2, ha, hneg, hAt, hx, hfr]]
    exact ⟨_, _, _, h1, nw⟩
  rw [hfr] at u5
  obtain ⟨qb, bs, f1, f2, hib, a1, a2, a3, a4, a4', a5, a6, a7, a8, a9, a10, put⟩ := nw.held hi
  obtain ⟨x', H1, ft, u6, n6⟩ := impl_copyTube H ct t nw.fr.ok ht1 smt
  have s3 := fHeld.all_set bs (i := i) (k := 2) hib (by decide) (b := ⟨bs[i].name, bs[i].t, x'⟩) (v := x') (by simp [fHeld])
  simp only [show fHeld.sz = 3 from rfl] at s3
  have hlen1 : (fHeld.all bs).length = b.held.length * 3 := by rw [fHeld.all_length, a2]; rfl
  have q3 : i * 3 + 3 ≤ b.held.length * 3 := by omega
  have he2 : (Ce.sl (Sum.inr qb) 0 b.held.length .own).eltAt 3 i = some (.inr qb, i * 3) := by simp [Ce.eltAt, hi]
  have a3' : H1.hp qb = some ⟨fHeld.all bs, 3, true⟩ := by rw [n6.fr.hp _ a4]; exact a3
  have hE : amendB b n t = (⟨b.now, b.fields, b.held.set i ⟨b.held[i].name, b.held[i].tube, t⟩⟩, 0) := by simp [amendB, hb, tk1, tk2, ha, hneg, hAt, hx, hfr, putB]
  have nd := List.nodup_append.1 a8
  have nx1 := n6.fr.nx
  obtain ⟨h1, hh1⟩ : ∃ h1 : Heap, h1 = ⟨H1.nx, upd H1.hp qb (some ⟨fHeld.all (bs.set i ⟨bs[i].name, bs[i].t, x'⟩), 3, true⟩)⟩ := ⟨_, rfl⟩
  obtain ⟨v, h', h1', rfl, e'⟩ := runF_of (env := eimpl_GiveAmend) (code := cimpl_GiveAmend) (rs := [.cellN 6 3, .t 7]) (args := [.v (.agg c.ces), .v (.c (.str n)), .v (.c ct)]) (h := h) (K := fun v h' => v = .tup [.agg c'.ces, .c (.int .i64 0)] ∧ h' = h1) (by
    simp [cimpl_GiveAmend, htl, hfl, eimpl_GiveAmend_impl_GiveBookOk, eimpl_GiveAmend_impl_copyBook, eimpl_GiveAmend_impl_GiveBook_at, eimpl_GiveAmend_impl_GiveTubeOk, eimpl_GiveAmend_impl_from, eimpl_GiveAmend_impl_GiveBook_free, eimpl_GiveAmend_impl_copyTube, B, u1, u2, u3, u4, u5, u6, e0, e1', e2, e2', e1, e3, e8, hri.x.slen, hri.x.noLoc, hh.noLoc, hx, a1, he2, a3', hlen1, q3, s3, hh1, n6.own.noLoc])
  rw [e'] at h1'
  have hp1 : ∀ x, x < H.nx → x ≠ qb → h1.hp x = H.hp x := fun x hx hne => by rw [hh1]; simp [upd, hne]; exact n6.fr.hp x hx
  have cg := Chg.one n6.fr.ok (b := qb) (by omega) (some ⟨fHeld.all (bs.set i ⟨bs[i].name, bs[i].t, x'⟩), 3, true⟩)
  have hft : ∀ x, x ∈ ft → H.nx ≤ x := n6.ge
  obtain ⟨fp', nw'⟩ := put h1 ⟨bs[i].name, bs[i].t, x'⟩ ⟨b.held[i].name, b.held[i].tube, t⟩ (f1 ++ ft) (by rw [hh1]; exact cg.ok) (by rw [hh1]; exact nx1) (by rw [hh1]; simp [upd]) hp1
    ⟨a5, f1, ft, a6.frame fun x hx => hp1 x (a10 x (by simp [hx])) (fun e => a9 (by rw [← e]; simp [hx])), (by rw [hh1]; exact n6.own.chg n6.fr.ok cg (fun x hx hq => by simp at hq; have := hft x hx; omega)), rfl⟩
    (List.nodup_append.2 ⟨nd.1, n6.own.nodup, fun x hx y hy e => by
      have := hft y hy
      have := a10 x (by simp [hx])
      omega⟩) (fun x hx => by
      rw [List.mem_append] at hx
      rcases hx with hx | hx
      · exact .inl (by simp [hx])
      · exact .inr (hft x hx))
  rw [hE]
  exact ⟨_, _, _, h1', nw'⟩

theorem amendB_small {b : Book} (sm : SmallBook b) (n : ByteArray) {t : List Box} (smt : t.length ≤ 1048576) : SmallBook (amendB b n t).1 := by
  have s2 := sm.at (atB b.held n)
  simp only [amendB]
  split
  · exact zBook_small
  split
  · exact sm
  split
  · exact sm
  split
  · exact sm
  split
  · exact sm
  · exact sm.put _ ⟨s2.1, smt⟩
end Go.Abs

/-
  The exact law of GiveAmend, over what its functions compute.
-/

namespace Go.Abs
set_option linter.unusedSimpArgs false
set_option linter.unusedVariables false
attribute [local simp] AW_skip AW_exit AW_ret AW_seq AW_block AW_cond CW_ite AW_reg AW_regD AW_regDc RD_nil RD_cons keyEq hasP hasH hasL chkL chkH recK recH inRange lightKey BookC.len BookC.take WishC.len WishC.take RW_nil RW_cons RW_guard GW_t GW_f GW_gt GW_gf GW_tup GY_some GY_tt GY_ff gd_t gd_f pk_t pk_f pk_and pk_or pk_andc pk_orc pk_bool gd_gd SW_some ThenQ_normal ThenQ_exit ThenQ_ret BlockQ_normal BlockQ_exit BlockQ_ret kill_nil kill_cons killT_at killL_at upo_some upo_none ev_t ev_k FinQ_ret FinQ_normal upd_eq upd_ne argsT_zero argsT_succ aop.eq_1 aop_pick aop.eq_3 aop.eq_4 aop.eq_5 aop.eq_6 aop.eq_7 aop.eq_8 aop.eq_9 aop.eq_10 aop.eq_11 aop.eq_12 aop.eq_13 aop.eq_14 aop.eq_15 aop.eq_16 aop.eq_17 aop.eq_18 aop.eq_19 aop.eq_20 aop.eq_21 aop_slice_hi aop_slice_lo aop.eq_23 aop.eq_24 aop.eq_26 aop.eq_27 aop.eq_28 aop.eq_29 aop.eq_31 aop.eq_32 aop_maxs2 aop_mins2 aop_mins3 aop_len aop_iaddr Av.bool? Av.ptr? Av.int? Av.int64? Av.str? Av.agg? ressA resA resOf noLoc_int noLoc_bool noLoc_str noLoc_nils noLoc_nilp noLoc_ptrl noLoc_ptrr noLoc_sll noLoc_slr noLoc_fn noLoc_tc noLoc_tagg noLoc_av noLoc_atup ce_c tv_v cells_c cells_agg noLocs keyLoc evs callA St.set St.get unAv binCe killV_int killV_bool killV_str killV_nils killV_nilp killV_agg killV_no killV_tup killV_ptrl killV_ptrr killV_sll killV_slr killV_fn killV_noLoc fillA repl ptrs List.map
attribute [local congr] GY_congr


set_option maxRecDepth 100000 in
theorem laws_FnExactGiveAmend (h : Heap) (cb : BookC) (b : Book) (n : ByteArray) (ct : Ce) (t : List Box) (ho : HOk h) (rb : RdBook (fun b => b < h.nx) h cb b ∧ BookWf b) (kn : n.size ≤ 9223372036854775807) (rt : RdF fBox (fun b => b < h.nx) h ct t) :
    ∃ h', Flaws_FnExactGiveAmend [.v (.agg cb.ces), .v (.c (.str n)), .v (.c ct)] h = some (.v (.c (.bool true)), h') := by
  unfold Flaws_FnExactGiveAmend
  obtain ⟨rb, wb⟩ := rb
  by_cases hbn : (1048576 : Int) < n.size
  · refine ⟨_, runF_eq (h' := h) ?_⟩
    simp [claws_FnExactGiveAmend, hbn]
  obtain ⟨qb, sb, leb, smb⟩ := laws_szGiveBook h cb b 1048576 rb wb (by omega)
  rcases leb with rfl | leb
  · refine ⟨_, runF_eq (h' := h) ?_⟩
    simp [claws_FnExactGiveAmend, hbn, elaws_FnExactGiveAmend_laws_szGiveBook, rt.noLoc, sb]
  have nb : ¬ qb < 0 := by omega
  replace smb := smb leb.1
  have st := laws_szGiveBoxS h ct t qb rt (by omega)
  by_cases hbt : qb < (t.length : Int)
  · rw [if_pos hbt] at st
    refine ⟨_, runF_eq (h' := h) ?_⟩
    simp [claws_FnExactGiveAmend, hbn, sb, nb, elaws_FnExactGiveAmend_laws_szGiveBook, elaws_FnExactGiveAmend_laws_szGiveBoxS, rt.noLoc, st]
  rw [if_neg hbt] at st
  have nt : ¬ (qb - (t.length : Int)) < 0 := by omega
  have smt : t.length ≤ 1048576 := by omega
  obtain ⟨c1, h2, fpc1, t3, m4⟩ := toBook' h cb b ho rb smb
  have f5 := m4.fr
  have nx1 := f5.nx
  have gec1 : ∀ x0, x0 ∈ fpc1 → h.nx ≤ x0 := m4.ge
  have ltc1 : ∀ x0, x0 ∈ fpc1 → x0 < h2.nx := fun x0 hb => OwnBook.lt (m4.own : OwnBook h2 c1 b fpc1) f5.ok hb
  have o6 : OwnBook h2 c1 b fpc1 := m4.own
  have b7 := rt.keep ho f5
  obtain ⟨c8, h9, fpc8, t10, m11⟩ := toBoxes' h2 ct t f5.ok b7 smt
  have f12 := m11.fr
  have nx2 := f12.nx
  have gec8 : ∀ x0, x0 ∈ fpc8 → h2.nx ≤ x0 := m11.ge
  have ltc8 : ∀ x0, x0 ∈ fpc8 → x0 < h9.nx := fun x0 hb => OwnF.lt (m11.own : OwnF fBox h9 c8 t fpc8) f12.ok hb
  have o13 : OwnF fBox h9 c8 t fpc8 := m11.own
  have b14 := o6.chg f5.ok (Fr.chg (fp := []) f12) (by simp)
  have bnd := (amendB_small smb n smt)
  obtain ⟨w, h16, fpw, t17, m18⟩ := spec_GiveAmend h9 _ _ n _ _ f12.ok (b14.rd (S := fun x0 => x0 ∈ fpc1) smb (fun x0 hb => hb)) wb (o13.rd (S := fun x0 => x0 ∈ fpc8) (by omega) (fun x0 hb => hb)) smb smt
  have f19 := m18.fr
  have nx3 := f19.nx
  have o20 : OwnBook h16 w (amendB b n t).1 fpw := m18.own
  have gew : ∀ x0, x0 ∈ fpw → h9.nx ≤ x0 := m18.ge
  have ltw : ∀ x0, x0 ∈ fpw → x0 < h16.nx := fun x0 hb => OwnBook.lt o20 f19.ok hb
  have b21 := rb.keep ho f5
  have b22 := b21.keep f5.ok f12
  have b23 := b22.keep f12.ok f19
  obtain ⟨c24, h25, fpc24, t26, m27⟩ := toBook' h16 cb b f19.ok b23 smb
  have f28 := m27.fr
  have nx4 := f28.nx
  have gec24 : ∀ x0, x0 ∈ fpc24 → h16.nx ≤ x0 := m27.ge
  have ltc24 : ∀ x0, x0 ∈ fpc24 → x0 < h25.nx := fun x0 hb => OwnBook.lt (m27.own : OwnBook h25 c24 b fpc24) f28.ok hb
  have o29 : OwnBook h25 c24 b fpc24 := m27.own
  have b30 := b7.keep f5.ok f12
  have b31 := b30.keep f12.ok f19
  have b32 := b31.keep f19.ok f28
  obtain ⟨c33, h34, fpc33, t35, m36⟩ := toBoxes' h25 ct t f28.ok b32 smt
  have f37 := m36.fr
  have nx5 := f37.nx
  have gec33 : ∀ x0, x0 ∈ fpc33 → h25.nx ≤ x0 := m36.ge
  have ltc33 : ∀ x0, x0 ∈ fpc33 → x0 < h34.nx := fun x0 hb => OwnF.lt (m36.own : OwnF fBox h34 c33 t fpc33) f37.ok hb
  have o38 : OwnF fBox h34 c33 t fpc33 := m36.own
  have b39 := o29.chg f28.ok (Fr.chg (fp := []) f37) (by simp)
  obtain ⟨g, h41, fpg, t42, m43⟩ := impl_GiveAmend h34 _ _ n _ _ f37.ok (b39.rd (S := fun x0 => x0 ∈ fpc24) smb (fun x0 hb => hb)) wb (o38.rd (S := fun x0 => x0 ∈ fpc33) (by omega) (fun x0 hb => hb)) smb smt
  have f44 := m43.fr
  have nx6 := f44.nx
  have o45 : OwnBook h41 g (amendB b n t).1 fpg := m43.own
  have geg : ∀ x0, x0 ∈ fpg → h34.nx ≤ x0 := m43.ge
  have ltg : ∀ x0, x0 ∈ fpg → x0 < h41.nx := fun x0 hb => OwnBook.lt o45 f44.ok hb
  have b46 := o20.chg f19.ok (Fr.chg (fp := []) f28) (by simp)
  have b47 := b46.chg f28.ok (Fr.chg (fp := []) f37) (by simp)
  have b48 := b47.chg f37.ok (Fr.chg (fp := []) f44) (by simp)
  obtain ⟨q50, e49, z51⟩ := laws_eqGiveBook h41 g w _ _ (o45.rd (S := fun x0 => x0 ∈ fpg) bnd (fun x0 hb => hb)) (b48.rd (S := fun x0 => x0 ∈ fpw) bnd (fun x0 hb => hb))
  obtain rfl := z51.2 rfl
  have b52 := b23.keep f19.ok f28
  have b53 := b52.keep f28.ok f37
  have b54 := b53.keep f37.ok f44
  obtain ⟨c55, h56, fpc55, t57, m58⟩ := toBook' h41 cb b f44.ok b54 smb
  have f59 := m58.fr
  have nx7 := f59.nx
  have gec55 : ∀ x0, x0 ∈ fpc55 → h41.nx ≤ x0 := m58.ge
  have ltc55 : ∀ x0, x0 ∈ fpc55 → x0 < h56.nx := fun x0 hb => OwnBook.lt (m58.own : OwnBook h56 c55 b fpc55) f59.ok hb
  have o60 : OwnBook h56 c55 b fpc55 := m58.own
  have b61 := b39.chg f37.ok (Fr.chg (fp := []) f44) (by simp)
  have b62 := b61.chg f44.ok (Fr.chg (fp := []) f59) (by simp)
  obtain ⟨q64, e63, z65⟩ := laws_eqGiveBook h56 c24 c55 _ _ (b62.rd (S := fun x0 => x0 ∈ fpc24) smb (fun x0 hb => hb)) (o60.rd (S := fun x0 => x0 ∈ fpc55) smb (fun x0 hb => hb))
  obtain rfl := z65.2 rfl
  have b66 := b32.keep f28.ok f37
  have b67 := b66.keep f37.ok f44
  have b68 := b67.keep f44.ok f59
  obtain ⟨c69, h70, fpc69, t71, m72⟩ := toBoxes' h56 ct t f59.ok b68 smt
  have f73 := m72.fr
  have nx8 := f73.nx
  have gec69 : ∀ x0, x0 ∈ fpc69 → h56.nx ≤ x0 := m72.ge
  have ltc69 : ∀ x0, x0 ∈ fpc69 → x0 < h70.nx := fun x0 hb => OwnF.lt (m72.own : OwnF fBox h70 c69 t fpc69) f73.ok hb
  have o74 : OwnF fBox h70 c69 t fpc69 := m72.own
  have b75 := o38.chg f37.ok (Fr.chg (fp := []) f44) (by simp)
  have b76 := b75.chg f44.ok (Fr.chg (fp := []) f59) (by simp)
  have b77 := b76.chg f59.ok (Fr.chg (fp := []) f73) (by simp)
  obtain ⟨q79, e78, z80⟩ := laws_eqGiveBoxS h70 c33 c69 _ _ (b77.rd (S := fun x0 => x0 ∈ fpc33) (by omega) (fun x0 hb => hb)) (o74.rd (S := fun x0 => x0 ∈ fpc69) (by omega) (fun x0 hb => hb))
  obtain rfl := z80.2 rfl
  have b81 := b62.chg f59.ok (Fr.chg (fp := []) f73) (by simp)
  have cbb := cntBook_le smb
  obtain ⟨h85, t82, o83, d84⟩ := laws_markGiveBook h70 c24 b fpc24 (1) f73.ok b81 smb (by omega)
  have nx9 := d84.nx
  have b86 := b77.chg f73.ok d84 (by
    intro x0 hb hn
    have i1 := gec24 x0 hn
    have i2 := ltc24 x0 hn
    have i3 := gec33 x0 hb
    have i4 := ltc33 x0 hb
    omega)
  obtain ⟨h90, t87, o88, d89⟩ := laws_markGiveBoxS h85 c33 t fpc33 (1 + cntBook b) d84.ok b86 smt (by omega)
  have nx10 := d89.nx
  have nk : ¬ (1 + cntBook b + 6 * (t.length : Int)) < 0 := by omega
  have b91 := o45.chg f44.ok (Fr.chg (fp := []) f59) (by simp)
  have b92 := b91.chg f59.ok (Fr.chg (fp := []) f73) (by simp)
  have b93 := b92.chg f73.ok d84 (by
    intro x0 hb hn
    have i1 := gec24 x0 hn
    have i2 := ltc24 x0 hn
    have i3 := geg x0 hb
    have i4 := ltg x0 hb
    omega)
  have b94 := b93.chg d84.ok d89 (by
    intro x0 hb hn
    have i1 := gec33 x0 hn
    have i2 := ltc33 x0 hn
    have i3 := geg x0 hb
    have i4 := ltg x0 hb
    omega)
  have b95 := b48.chg f44.ok (Fr.chg (fp := []) f59) (by simp)
  have b96 := b95.chg f59.ok (Fr.chg (fp := []) f73) (by simp)
  have b97 := b96.chg f73.ok d84 (by
    intro x0 hb hn
    have i1 := gec24 x0 hn
    have i2 := ltc24 x0 hn
    have i3 := gew x0 hb
    have i4 := ltw x0 hb
    omega)
  have b98 := b97.chg d84.ok d89 (by
    intro x0 hb hn
    have i1 := gec33 x0 hn
    have i2 := ltc33 x0 hn
    have i3 := gew x0 hb
    have i4 := ltw x0 hb
    omega)
  obtain ⟨q100, e99, z101⟩ := laws_eqGiveBook h90 g w _ _ (b94.rd (S := fun x0 => x0 ∈ fpg) bnd (fun x0 hb => hb)) (b98.rd (S := fun x0 => x0 ∈ fpw) bnd (fun x0 hb => hb))
  obtain rfl := z101.2 rfl
  have cmp1 := ()
  have cg := cntBook_le bnd
  obtain ⟨h105, t102, o103, d104⟩ := laws_markGiveBook h90 g (amendB b n t).1 fpg 1 d89.ok b94 bnd (by omega)
  have nx11 := d104.nx
  have nm : ¬ (1 + cntBook (amendB b n t).1) < 0 := by omega
  obtain ⟨h107, u106, f108⟩ := laws_heldGiveBook h105 g (amendB b n t).1 1 d104.ok (o103.rd (S := fun x0 => x0 ∈ fpg) (marksBook_small bnd) (fun x0 hb => hb)) bnd (by omega)
  have nx12 := f108.nx
  have b109 := b54.keep f44.ok f59
  have b110 := b109.keep f59.ok f73
  have b111 := b110.chg f73.ok d84 (by
    intro x0 hb hn
    have i1 := gec24 x0 hn
    have i2 := ltc24 x0 hn
    replace hb : x0 < h.nx := hb
    omega)
  have b112 := b111.chg d84.ok d89 (by
    intro x0 hb hn
    have i1 := gec33 x0 hn
    have i2 := ltc33 x0 hn
    replace hb : x0 < h.nx := hb
    omega)
  have b113 := b112.chg d89.ok d104 (by
    intro x0 hb hn
    have i1 := geg x0 hn
    have i2 := ltg x0 hn
    replace hb : x0 < h.nx := hb
    omega)
  have b114 := b113.keep d104.ok f108
  obtain ⟨c115, h116, fpc115, t117, m118⟩ := toBook' h107 cb b f108.ok b114 smb
  have f119 := m118.fr
  have nx13 := f119.nx
  have gec115 : ∀ x0, x0 ∈ fpc115 → h107.nx ≤ x0 := m118.ge
  have ltc115 : ∀ x0, x0 ∈ fpc115 → x0 < h116.nx := fun x0 hb => OwnBook.lt (m118.own : OwnBook h116 c115 b fpc115) f119.ok hb
  have o120 : OwnBook h116 c115 b fpc115 := m118.own
  have b121 := b68.keep f59.ok f73
  have b122 := b121.chg f73.ok d84 (by
    intro x0 hb hn
    have i1 := gec24 x0 hn
    have i2 := ltc24 x0 hn
    replace hb : x0 < h.nx := hb
    omega)
  have b123 := b122.chg d84.ok d89 (by
    intro x0 hb hn
    have i1 := gec33 x0 hn
    have i2 := ltc33 x0 hn
    replace hb : x0 < h.nx := hb
    omega)
  have b124 := b123.chg d89.ok d104 (by
    intro x0 hb hn
    have i1 := geg x0 hn
    have i2 := ltg x0 hn
    replace hb : x0 < h.nx := hb
    omega)
  have b125 := b124.keep d104.ok f108
  have b126 := b125.keep f108.ok f119
  obtain ⟨c127, h128, fpc127, t129, m130⟩ := toBoxes' h116 ct t f119.ok b126 smt
  have f131 := m130.fr
  have nx14 := f131.nx
  have gec127 : ∀ x0, x0 ∈ fpc127 → h116.nx ≤ x0 := m130.ge
  have ltc127 : ∀ x0, x0 ∈ fpc127 → x0 < h128.nx := fun x0 hb => OwnF.lt (m130.own : OwnF fBox h128 c127 t fpc127) f131.ok hb
  have o132 : OwnF fBox h128 c127 t fpc127 := m130.own
  have b133 := o120.chg f119.ok (Fr.chg (fp := []) f131) (by simp)
  obtain ⟨v, h134, fpv, t135, m136⟩ := impl_GiveAmend h128 _ _ n _ _ f131.ok (b133.rd (S := fun x0 => x0 ∈ fpc115) smb (fun x0 hb => hb)) wb (o132.rd (S := fun x0 => x0 ∈ fpc127) (by omega) (fun x0 hb => hb)) smb smt
  have f137 := m136.fr
  have nx15 := f137.nx
  have o138 : OwnBook h134 v (amendB b n t).1 fpv := m136.own
  have gev : ∀ x0, x0 ∈ fpv → h128.nx ≤ x0 := m136.ge
  have ltv : ∀ x0, x0 ∈ fpv → x0 < h134.nx := fun x0 hb => OwnBook.lt o138 f137.ok hb
  have b139 := b98.chg d89.ok d104 (by
    intro x0 hb hn
    have i1 := geg x0 hn
    have i2 := ltg x0 hn
    have i3 := gew x0 hb
    have i4 := ltw x0 hb
    omega)
  have b140 := b139.chg d104.ok (Fr.chg (fp := []) f108) (by simp)
  have b141 := b140.chg f108.ok (Fr.chg (fp := []) f119) (by simp)
  have b142 := b141.chg f119.ok (Fr.chg (fp := []) f131) (by simp)
  have b143 := b142.chg f131.ok (Fr.chg (fp := []) f137) (by simp)
  obtain ⟨q145, e144, z146⟩ := laws_eqGiveBook h134 v w _ _ (o138.rd (S := fun x0 => x0 ∈ fpv) bnd (fun x0 hb => hb)) (b143.rd (S := fun x0 => x0 ∈ fpw) bnd (fun x0 hb => hb))
  obtain rfl := z146.2 rfl
  have b147 := o103.chg d104.ok (Fr.chg (fp := []) f108) (by simp)
  have b148 := b147.chg f108.ok (Fr.chg (fp := []) f119) (by simp)
  have b149 := b148.chg f119.ok (Fr.chg (fp := []) f131) (by simp)
  have b150 := b149.chg f131.ok (Fr.chg (fp := []) f137) (by simp)
  obtain ⟨h152, u151, f153⟩ := laws_heldGiveBook h134 g (amendB b n t).1 1 f137.ok (b150.rd (S := fun x0 => x0 ∈ fpg) (marksBook_small bnd) (fun x0 hb => hb)) bnd (by omega)
  have nx16 := f153.nx
  refine ⟨_, runF_eq (h' := h152) ?_⟩
  simp [claws_FnExactGiveAmend, hbn, sb, nb, st, nt, rt.noLoc, t3, t10, m11.own.noLoc, t17, t26, t35, m36.own.noLoc, t42, e49, t57, e63, t71, m72.own.noLoc, e78, t82, t87, nk, e99, t102, nm, u106, t117, t129, m130.own.noLoc, t135, e144, u151, elaws_FnExactGiveAmend_impl_GiveAmend, elaws_FnExactGiveAmend_laws_eqGiveBook, elaws_FnExactGiveAmend_laws_eqGiveBoxS, elaws_FnExactGiveAmend_laws_heldGiveBook, elaws_FnExactGiveAmend_laws_markGiveBook, elaws_FnExactGiveAmend_laws_markGiveBoxS, elaws_FnExactGiveAmend_laws_szGiveBook, elaws_FnExactGiveAmend_laws_szGiveBoxS, elaws_FnExactGiveAmend_laws_toGiveBook, elaws_FnExactGiveAmend_laws_toGiveBoxS, elaws_FnExactGiveAmend_spec_GiveAmend]
end Go.Abs
