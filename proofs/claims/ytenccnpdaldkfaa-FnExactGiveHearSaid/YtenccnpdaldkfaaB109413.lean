/-
  What is heard: the next tube of a held thing taken or left.
-/
import Derived.Test.YtenccnpdaldkfaaB9cc67
set_option linter.unusedSimpArgs false
set_option linter.unusedVariables false
namespace Go.Abs
set_option linter.unusedSimpArgs false
set_option linter.unusedVariables false
attribute [local simp] AW_skip AW_exit AW_ret AW_seq AW_block AW_cond CW_ite AW_reg AW_regD AW_regDc RD_nil RD_cons keyEq hasP hasH hasL chkL chkH recK recH inRange lightKey BookC.len BookC.take WishC.len WishC.take RW_nil RW_cons RW_guard GW_t GW_f GW_gt GW_gf GW_tup GY_some GY_tt GY_ff gd_t gd_f pk_t pk_f pk_and pk_or pk_andc pk_orc pk_bool gd_gd SW_some ThenQ_normal ThenQ_exit ThenQ_ret BlockQ_normal BlockQ_exit BlockQ_ret kill_nil kill_cons killT_at killL_at upo_some upo_none ev_t ev_k FinQ_ret FinQ_normal upd_eq upd_ne argsT_zero argsT_succ aop.eq_1 aop_pick aop.eq_3 aop.eq_4 aop.eq_5 aop.eq_6 aop.eq_7 aop.eq_8 aop.eq_9 aop.eq_10 aop.eq_11 aop.eq_12 aop.eq_13 aop.eq_14 aop.eq_15 aop.eq_16 aop.eq_17 aop.eq_18 aop.eq_19 aop.eq_20 aop.eq_21 aop_slice_hi aop_slice_lo aop.eq_23 aop.eq_24 aop.eq_26 aop.eq_27 aop.eq_28 aop.eq_29 aop.eq_31 aop.eq_32 aop_maxs2 aop_mins2 aop_mins3 aop_len aop_iaddr Av.bool? Av.ptr? Av.int? Av.int64? Av.str? Av.agg? ressA resA resOf noLoc_int noLoc_bool noLoc_str noLoc_nils noLoc_nilp noLoc_ptrl noLoc_ptrr noLoc_sll noLoc_slr noLoc_fn noLoc_tc noLoc_tagg noLoc_av noLoc_atup ce_c tv_v cells_c cells_agg noLocs keyLoc evs callA St.set St.get unAv binCe killV_int killV_bool killV_str killV_nils killV_nilp killV_agg killV_no killV_tup killV_ptrl killV_ptrr killV_sll killV_slr killV_fn killV_noLoc fillA repl ptrs List.map
attribute [local congr] GY_congr

def zBook : Book := ⟨0, [], []⟩
def hearH (yes : Bool) (a : Held) : Held := ⟨a.name, if yes = true then a.next else a.tube, []⟩
def putB (b : Book) (k : Int) (a : Held) : Book := ⟨b.now, b.fields, b.held.set k.toNat a⟩
def heldAt (b : Book) (k : Int) : Held := b.held.getD k.toNat default
def hearB (b : Book) (n : ByteArray) (yes : Bool) : Book × Int :=
  if bookOkB b = false then (zBook, 1) else
  if atB b.held n = -1 then (b, 6) else
  if (heldAt b (atB b.held n)).next = [] then (b, 8) else (putB b (atB b.held n) (hearH yes (heldAt b (atB b.held n))), 0)

theorem OwnBook.nl {h : Heap} {c : BookC} {b : Book} {fp : List Nat} (o : OwnBook h c b fp) : c.f.noLoc = true ∧ c.hd.noLoc = true := by
  obtain ⟨_, f1, f2, o1, o2, _, _⟩ := o
  exact ⟨o1.noLoc, o2.noLoc⟩
theorem New.zBook {h : Heap} (ho : HOk h) : New (fun h fp => OwnBook h ⟨0, .nils, .nils⟩ Go.Abs.zBook fp) h h [] :=
  ⟨⟨rfl, [], [], OwnF.nil, OwnS.nil, rfl, by simp⟩, Fr.refl ho, by simp⟩
theorem zBook_ces : [Ce.int .i64 0, .nils, .nils] = (⟨0, .nils, .nils⟩ : BookC).ces := rfl

theorem spec_GiveHear {S : Nat → Prop} (h : Heap) (c : BookC) (b : Book) (n : ByteArray) (yes : Bool) (ho : HOk h) (hr : RdBook S h c b) (hw : BookWf b) (sm : SmallBook b) :
    ∃ (c' : BookC) (h' : Heap) (fp : List Nat), Fspec_GiveHear [.v (.agg c.ces), .v (.c (.str n)), .v (.c (.bool yes))] h = some (.tup [.agg c'.ces, .c (.int .i64 (hearB b n yes).2)], h') ∧ New (fun h fp => OwnBook h c' (hearB b n yes).1 fp) h h' fp := by
  unfold Fspec_GiveHear
  have B := spec_GiveBookOk h c b hr hw
  have hfl := hr.f.noLoc
  cases hb : bookOkB b
  · rw [hb] at B
    obtain ⟨v, h', h1, rfl, rfl⟩ := runF_of (env := espec_GiveHear) (code := cspec_GiveHear) (rs := [.cellN 6 3, .t 7]) (args := [.v (.agg c.ces), .v (.c (.str n)), .v (.c (.bool yes))]) (h := h) (K := fun v h' => v = .tup [.agg (⟨0, .nils, .nils⟩ : BookC).ces, .c (.int .i64 1)] ∧ h' = h) (by
      simp [cspec_GiveHear, espec_GiveHear_spec_GiveBookOk, B]
      rfl)
    simp only [hearB, hb, if_pos]
    exact ⟨_, _, _, h1, New.zBook ho⟩
  rw [hb] at B
  obtain ⟨c', H, fp, u1, nw⟩ := spec_l2Copy h c b ho hr sm
  have hr1 := hr.keep ho nw.fr
  have u2 := spec_l2At H c b n hr1
  obtain ⟨nl1, nl2⟩ := nw.own.nl
  have e2 : c.ces[2]? = some c.hd := rfl
  have e2' : c'.ces[2]? = some c'.hd := rfl
  obtain ⟨hnow, hf, hs, hh, hlen, hel⟩ := hr1
  rcases atB_cases b.held n with ha | ⟨i, hi, ha⟩
  · rw [ha] at u2
    obtain ⟨v, h', h1, rfl, rfl⟩ := runF_of (env := espec_GiveHear) (code := cspec_GiveHear) (rs := [.cellN 6 3, .t 7]) (args := [.v (.agg c.ces), .v (.c (.str n)), .v (.c (.bool yes))]) (h := h) (K := fun v h' => v = .tup [.agg c'.ces, .c (.int .i64 6)] ∧ h' = H) (by
      simp [cspec_GiveHear, espec_GiveHear_spec_GiveBookOk, espec_GiveHear_spec_l2Copy, espec_GiveHear_spec_l2At, B, u1, u2])
    rw [show hearB b n yes = (b, 6) by simp [hearB, hb, ha]]
    exact ⟨_, _, _, h1, nw⟩
  rw [ha] at u2
  have hin : i < hs.length := by omega
  obtain ⟨eb, ep, er, e1, _, e3, e4, e5, e6, e7, e8⟩ := hh.heldc hin
  have hri := hel i hin hi
  have hAt : heldAt b (i : Int) = b.held[i] := by simp [heldAt, hi]
  have hneg : ¬ (i : Int) = -1 := by omega
  by_cases hx : b.held[i].next = []
  · obtain ⟨v, h', h1, rfl, rfl⟩ := runF_of (env := espec_GiveHear) (code := cspec_GiveHear) (rs := [.cellN 6 3, .t 7]) (args := [.v (.agg c.ces), .v (.c (.str n)), .v (.c (.bool yes))]) (h := h) (K := fun v h' => v = .tup [.agg c'.ces, .c (.int .i64 8)] ∧ h' = H) (by
      simp [cspec_GiveHear, espec_GiveHear_spec_GiveBookOk, espec_GiveHear_spec_l2Copy, espec_GiveHear_spec_l2At, B, u1, u2, e2, e1, e3, e8, hri.x.slen, hri.x.noLoc, hh.noLoc, hx])
    rw [show hearB b n yes = (b, 8) by simp [hearB, hb, ha, hneg, hAt, hx]]
    exact ⟨_, _, _, h1, nw⟩
  obtain ⟨qb, bs, f1, f2, hib, a1, a2, a3, a4, a4', a5, a6, a7, a8, a9, a10, put⟩ := nw.held hi
  have s1 := fHeld.all_set bs (i := i) (k := 1) hib (by decide) (b := ⟨bs[i].name, bs[i].x, bs[i].x⟩) (v := bs[i].x) (by simp [fHeld])
  have s2 := fHeld.all_set (bs.set i ⟨bs[i].name, bs[i].x, bs[i].x⟩) (i := i) (k := 2) (by simpa using hib) (by decide) (b := ⟨bs[i].name, bs[i].x, .sl (.inr H.nx) 0 0 .own⟩) (v := .sl (.inr H.nx) 0 0 .own) (by simp [fHeld])
  have s3 := fHeld.all_set bs (i := i) (k := 2) hib (by decide) (b := ⟨bs[i].name, bs[i].t, .sl (.inr H.nx) 0 0 .own⟩) (v := .sl (.inr H.nx) 0 0 .own) (by simp [fHeld])
  have c2 := fHeld.all_cell bs (i := i) (k := 2) hib (by decide)
  simp only [show fHeld.sz = 3 from rfl] at s1 s2 s3 c2
  replace c2 : (fHeld.all bs)[i * 3 + 2]? = some bs[i].x := c2
  have hlen1 : (fHeld.all bs).length = b.held.length * 3 := by rw [fHeld.all_length, a2]; rfl
  have hlen2 : ∀ z, (fHeld.all (bs.set i z)).length = b.held.length * 3 := fun z => by rw [fHeld.all_length, List.length_set, a2]; rfl
  have q1 : i * 3 + 1 ≤ b.held.length * 3 := by omega
  have q2 : i * 3 + 2 ≤ b.held.length * 3 := by omega
  have q3 : i * 3 + 3 ≤ b.held.length * 3 := by omega
  have he2 : (Ce.sl (Sum.inr qb) 0 b.held.length .own).eltAt 3 i = some (.inr qb, i * 3) := by simp [Ce.eltAt, hi]
  have hqn : ¬ qb = H.nx := by omega
  have hxl : ¬ (b.held[i].next.length : Int) = 0 := by
    intro e
    exact hx (List.length_eq_zero_iff.1 (by omega))
  have hE : hearB b n yes = (⟨b.now, b.fields, b.held.set i (hearH yes b.held[i])⟩, 0) := by simp [hearB, hb, ha, hneg, hAt, hx, putB]
  have hnx : ∀ x, x ∈ f1 ++ f2 → x < H.nx := a10
  have nd := List.nodup_append.1 a8
  cases yes
  · obtain ⟨h1, hh1⟩ : ∃ h1 : Heap, h1 = ⟨H.nx + 1, upd (H.push ⟨[], 6, true⟩).hp qb (some ⟨fHeld.all (bs.set i ⟨bs[i].name, bs[i].t, .sl (.inr H.nx) 0 0 .own⟩), 3, true⟩)⟩ := ⟨_, rfl⟩
    obtain ⟨v, h', h1', rfl, e'⟩ := runF_of (env := espec_GiveHear) (code := cspec_GiveHear) (rs := [.cellN 6 3, .t 7]) (args := [.v (.agg c.ces), .v (.c (.str n)), .v (.c (.bool false))]) (h := h) (K := fun v h' => v = .tup [.agg c'.ces, .c (.int .i64 0)] ∧ h' = h1) (by
      simp [cspec_GiveHear, espec_GiveHear_spec_GiveBookOk, espec_GiveHear_spec_l2Copy, espec_GiveHear_spec_l2At, B, u1, u2, e2, e2', e1, e3, e8, hri.x.slen, hri.x.noLoc, hh.noLoc, hx, a1, he2, a3, hlen1, hlen2, q1, q2, q3, s3, c2, hqn, hh1, St.push, Heap.push])
    rw [e'] at h1'
    have hp1 : ∀ x, x < H.nx → x ≠ qb → h1.hp x = H.hp x := fun x hx hne => by rw [hh1]; simp [upd, Heap.push, hne, Nat.ne_of_lt hx]
    have hnq : h1.hp H.nx = some ⟨[], 6, true⟩ := by rw [hh1]; simp [upd, Heap.push, show ¬ H.nx = qb by omega]
    obtain ⟨fp', nw'⟩ := put h1 ⟨bs[i].name, bs[i].t, .sl (.inr H.nx) 0 0 .own⟩ (hearH false b.held[i]) (f1 ++ [H.nx]) (by rw [hh1]; exact (Chg.one (Fr.push nw.fr.ok ⟨[], 6, true⟩).ok (b := qb) (by simp only [Heap.push]; omega) _).ok) (by rw [hh1]; exact Nat.le_succ _) (by rw [hh1]; simp [upd]) hp1
      ⟨a5, f1, [H.nx], a6.frame fun x hx => hp1 x (hnx x (by simp [hx])) (fun e => a9 (by rw [← e]; simp [hx])), .inr ⟨H.nx, rfl, hnq, rfl⟩, rfl⟩
      (List.nodup_append.2 ⟨nd.1, by simp, fun x hx y hy e => by
        simp at hy
        have := hnx x (by simp [hx])
        omega⟩) (fun x hx => by
        rw [List.mem_append] at hx
        rcases hx with hx | hx
        · exact .inl (by simp [hx])
        · simp at hx; exact .inr (by omega))
    rw [hE]
    exact ⟨_, _, _, h1', nw'⟩
  · obtain ⟨h1, hh1⟩ : ∃ h1 : Heap, h1 = ⟨H.nx + 1, upd (upd (upd H.hp qb (some ⟨fHeld.all (bs.set i ⟨bs[i].name, bs[i].x, bs[i].x⟩), 3, true⟩)) H.nx (some ⟨[], 6, true⟩)) qb (some ⟨fHeld.all (bs.set i ⟨bs[i].name, bs[i].x, .sl (.inr H.nx) 0 0 .own⟩), 3, true⟩)⟩ := ⟨_, rfl⟩
    obtain ⟨v, h', h1', rfl, e'⟩ := runF_of (env := espec_GiveHear) (code := cspec_GiveHear) (rs := [.cellN 6 3, .t 7]) (args := [.v (.agg c.ces), .v (.c (.str n)), .v (.c (.bool true))]) (h := h) (K := fun v h' => v = .tup [.agg c'.ces, .c (.int .i64 0)] ∧ h' = h1) (by
      simp [cspec_GiveHear, espec_GiveHear_spec_GiveBookOk, espec_GiveHear_spec_l2Copy, espec_GiveHear_spec_l2At, B, u1, u2, e2, e2', e1, e3, e8, hri.x.slen, hri.x.noLoc, hh.noLoc, hx, a1, he2, a3, a7.noLoc, hlen1, hlen2, q1, q2, q3, s1, s2, c2, hqn, hh1, St.push, Heap.push])
    rw [e'] at h1'
    have hp1 : ∀ x, x < H.nx → x ≠ qb → h1.hp x = H.hp x := fun x hx hne => by rw [hh1]; simp [upd, hne, Nat.ne_of_lt hx]
    have hnq : h1.hp H.nx = some ⟨[], 6, true⟩ := by rw [hh1]; simp [upd, show ¬ H.nx = qb by omega]
    have cg1 := Chg.one nw.fr.ok (b := qb) a4 (some ⟨fHeld.all (bs.set i ⟨bs[i].name, bs[i].x, bs[i].x⟩), 3, true⟩)
    obtain ⟨fp', nw'⟩ := put h1 ⟨bs[i].name, bs[i].x, .sl (.inr H.nx) 0 0 .own⟩ (hearH true b.held[i]) (f2 ++ [H.nx]) (by rw [hh1]; exact (Chg.one (Fr.push cg1.ok ⟨[], 6, true⟩).ok (b := qb) (by simp only [Heap.push]; omega) _).ok) (by rw [hh1]; exact Nat.le_succ _) (by rw [hh1]; simp [upd]) hp1
      ⟨a5, f2, [H.nx], a7.frame fun x hx => hp1 x (hnx x (by simp [hx])) (fun e => a9 (by rw [← e]; simp [hx])), .inr ⟨H.nx, rfl, hnq, rfl⟩, rfl⟩
      (List.nodup_append.2 ⟨nd.2.1, by simp, fun x hx y hy e => by
        simp at hy
        have := hnx x (by simp [hx])
        omega⟩) (fun x hx => by
        rw [List.mem_append] at hx
        rcases hx with hx | hx
        · exact .inl (by simp [hx])
        · simp at hx; exact .inr (by omega))
    rw [hE]
    exact ⟨_, _, _, h1', nw'⟩
theorem impl_GiveHear {S : Nat → Prop} (h : Heap) (c : BookC) (b : Book) (n : ByteArray) (yes : Bool) (ho : HOk h) (hr : RdBook S h c b) (hw : BookWf b) (sm : SmallBook b) :
    ∃ (c' : BookC) (h' : Heap) (fp : List Nat), Fimpl_GiveHear [.v (.agg c.ces), .v (.c (.str n)), .v (.c (.bool yes))] h = some (.tup [.agg c'.ces, .c (.int .i64 (hearB b n yes).2)], h') ∧ New (fun h fp => OwnBook h c' (hearB b n yes).1 fp) h h' fp := by
  unfold Fimpl_GiveHear
  have B := impl_GiveBookOk h c b hr hw
  have hfl := hr.f.noLoc
  cases hb : bookOkB b
  · rw [hb] at B
    obtain ⟨v, h', h1, rfl, rfl⟩ := runF_of (env := eimpl_GiveHear) (code := cimpl_GiveHear) (rs := [.cellN 6 3, .t 7]) (args := [.v (.agg c.ces), .v (.c (.str n)), .v (.c (.bool yes))]) (h := h) (K := fun v h' => v = .tup [.agg (⟨0, .nils, .nils⟩ : BookC).ces, .c (.int .i64 1)] ∧ h' = h) (by
      simp [cimpl_GiveHear, eimpl_GiveHear_impl_GiveBookOk, B]
      rfl)
    simp only [hearB, hb, if_pos]
    exact ⟨_, _, _, h1, New.zBook ho⟩
  rw [hb] at B
  obtain ⟨c', H, fp, u1, nw⟩ := impl_copyBook h c b ho hr sm
  have hr1 := hr.keep ho nw.fr
  have u2 := impl_GiveBook_at H c b n hr1
  obtain ⟨nl1, nl2⟩ := nw.own.nl
  have e2 : c.ces[2]? = some c.hd := rfl
  have e2' : c'.ces[2]? = some c'.hd := rfl
  obtain ⟨hnow, hf, hs, hh, hlen, hel⟩ := hr1
  rcases atB_cases b.held n with ha | ⟨i, hi, ha⟩
  · rw [ha] at u2
    obtain ⟨v, h', h1, rfl, rfl⟩ := runF_of (env := eimpl_GiveHear) (code := cimpl_GiveHear) (rs := [.cellN 6 3, .t 7]) (args := [.v (.agg c.ces), .v (.c (.str n)), .v (.c (.bool yes))]) (h := h) (K := fun v h' => v = .tup [.agg c'.ces, .c (.int .i64 6)] ∧ h' = H) (by
      simp [cimpl_GiveHear, eimpl_GiveHear_impl_GiveBookOk, eimpl_GiveHear_impl_copyBook, eimpl_GiveHear_impl_GiveBook_at, B, u1, u2])
    rw [show hearB b n yes = (b, 6) by simp [hearB, hb, ha]]
    exact ⟨_, _, _, h1, nw⟩
  rw [ha] at u2
  have hin : i < hs.length := by omega
  obtain ⟨eb, ep, er, e1, _, e3, e4, e5, e6, e7, e8⟩ := hh.heldc hin
  have hri := hel i hin hi
  have hAt : heldAt b (i : Int) = b.held[i] := by simp [heldAt, hi]
  have hneg : ¬ (i : Int) = -1 := by omega
  by_cases hx : b.held[i].next = []
  · obtain ⟨v, h', h1, rfl, rfl⟩ := runF_of (env := eimpl_GiveHear) (code := cimpl_GiveHear) (rs := [.cellN 6 3, .t 7]) (args := [.v (.agg c.ces), .v (.c (.str n)), .v (.c (.bool yes))]) (h := h) (K := fun v h' => v = .tup [.agg c'.ces, .c (.int .i64 8)] ∧ h' = H) (by
      simp [cimpl_GiveHear, eimpl_GiveHear_impl_GiveBookOk, eimpl_GiveHear_impl_copyBook, eimpl_GiveHear_impl_GiveBook_at, B, u1, u2, e2, e1, e3, e8, hri.x.slen, hri.x.noLoc, hh.noLoc, hx])
    rw [show hearB b n yes = (b, 8) by simp [hearB, hb, ha, hneg, hAt, hx]]
    exact ⟨_, _, _, h1, nw⟩
  obtain ⟨qb, bs, f1, f2, hib, a1, a2, a3, a4, a4', a5, a6, a7, a8, a9, a10, put⟩ := nw.held hi
  have s1 := fHeld.all_set bs (i := i) (k := 1) hib (by decide) (b := ⟨bs[i].name, bs[i].x, bs[i].x⟩) (v := bs[i].x) (by simp [fHeld])
  have s2 := fHeld.all_set (bs.set i ⟨bs[i].name, bs[i].x, bs[i].x⟩) (i := i) (k := 2) (by simpa using hib) (by decide) (b := ⟨bs[i].name, bs[i].x, .nils⟩) (v := .nils) (by simp [fHeld])
  have s3 := fHeld.all_set bs (i := i) (k := 2) hib (by decide) (b := ⟨bs[i].name, bs[i].t, .nils⟩) (v := .nils) (by simp [fHeld])
  have c2 := fHeld.all_cell bs (i := i) (k := 2) hib (by decide)
  simp only [show fHeld.sz = 3 from rfl] at s1 s2 s3 c2
  replace c2 : (fHeld.all bs)[i * 3 + 2]? = some bs[i].x := c2
  have hlen1 : (fHeld.all bs).length = b.held.length * 3 := by rw [fHeld.all_length, a2]; rfl
  have hlen2 : ∀ z, (fHeld.all (bs.set i z)).length = b.held.length * 3 := fun z => by rw [fHeld.all_length, List.length_set, a2]; rfl
  have q1 : i * 3 + 1 ≤ b.held.length * 3 := by omega
  have q2 : i * 3 + 2 ≤ b.held.length * 3 := by omega
  have q3 : i * 3 + 3 ≤ b.held.length * 3 := by omega
  have he2 : (Ce.sl (Sum.inr qb) 0 b.held.length .own).eltAt 3 i = some (.inr qb, i * 3) := by simp [Ce.eltAt, hi]
  have hqn : ¬ qb = H.nx := by omega
  have hxl : ¬ (b.held[i].next.length : Int) = 0 := by
    intro e
    exact hx (List.length_eq_zero_iff.1 (by omega))
  have hE : hearB b n yes = (⟨b.now, b.fields, b.held.set i (hearH yes b.held[i])⟩, 0) := by simp [hearB, hb, ha, hneg, hAt, hx, putB]
  have hnx : ∀ x, x ∈ f1 ++ f2 → x < H.nx := a10
  have nd := List.nodup_append.1 a8
  cases yes
  · obtain ⟨h1, hh1⟩ : ∃ h1 : Heap, h1 = ⟨H.nx, upd H.hp qb (some ⟨fHeld.all (bs.set i ⟨bs[i].name, bs[i].t, .nils⟩), 3, true⟩)⟩ := ⟨_, rfl⟩
    obtain ⟨v, h', h1', rfl, e'⟩ := runF_of (env := eimpl_GiveHear) (code := cimpl_GiveHear) (rs := [.cellN 6 3, .t 7]) (args := [.v (.agg c.ces), .v (.c (.str n)), .v (.c (.bool false))]) (h := h) (K := fun v h' => v = .tup [.agg c'.ces, .c (.int .i64 0)] ∧ h' = h1) (by
      simp [cimpl_GiveHear, eimpl_GiveHear_impl_GiveBookOk, eimpl_GiveHear_impl_copyBook, eimpl_GiveHear_impl_GiveBook_at, B, u1, u2, e2, e2', e1, e3, e8, hri.x.slen, hri.x.noLoc, hh.noLoc, hx, a1, he2, a3, hlen1, hlen2, q1, q2, q3, s3, c2, hqn, hh1, St.push, Heap.push])
    rw [e'] at h1'
    have hp1 : ∀ x, x < H.nx → x ≠ qb → h1.hp x = H.hp x := fun x hx hne => by rw [hh1]; simp [upd, hne]
    obtain ⟨fp', nw'⟩ := put h1 ⟨bs[i].name, bs[i].t, .nils⟩ (hearH false b.held[i]) f1 (by rw [hh1]; exact (Chg.one nw.fr.ok (b := qb) a4 _).ok) (by rw [hh1]; exact Nat.le_refl _) (by rw [hh1]; simp [upd]) hp1
      ⟨a5, f1, [], a6.frame fun x hx => hp1 x (hnx x (by simp [hx])) (fun e => a9 (by rw [← e]; simp [hx])), OwnF.nil, by simp⟩
      nd.1 (fun x hx => .inl (by simp [hx]))
    rw [hE]
    exact ⟨_, _, _, h1', nw'⟩
  · obtain ⟨h1, hh1⟩ : ∃ h1 : Heap, h1 = ⟨H.nx, upd (upd H.hp qb (some ⟨fHeld.all (bs.set i ⟨bs[i].name, bs[i].x, bs[i].x⟩), 3, true⟩)) qb (some ⟨fHeld.all (bs.set i ⟨bs[i].name, bs[i].x, .nils⟩), 3, true⟩)⟩ := ⟨_, rfl⟩
    obtain ⟨v, h', h1', rfl, e'⟩ := runF_of (env := eimpl_GiveHear) (code := cimpl_GiveHear) (rs := [.cellN 6 3, .t 7]) (args := [.v (.agg c.ces), .v (.c (.str n)), .v (.c (.bool true))]) (h := h) (K := fun v h' => v = .tup [.agg c'.ces, .c (.int .i64 0)] ∧ h' = h1) (by
      simp [cimpl_GiveHear, eimpl_GiveHear_impl_GiveBookOk, eimpl_GiveHear_impl_copyBook, eimpl_GiveHear_impl_GiveBook_at, B, u1, u2, e2, e2', e1, e3, e8, hri.x.slen, hri.x.noLoc, hh.noLoc, hx, a1, he2, a3, a7.noLoc, hlen1, hlen2, q1, q2, q3, s1, s2, c2, hqn, hh1, St.push, Heap.push])
    rw [e'] at h1'
    have hp1 : ∀ x, x < H.nx → x ≠ qb → h1.hp x = H.hp x := fun x hx hne => by rw [hh1]; simp [upd, hne]
    have cg1 := Chg.one nw.fr.ok (b := qb) a4 (some ⟨fHeld.all (bs.set i ⟨bs[i].name, bs[i].x, bs[i].x⟩), 3, true⟩)
    obtain ⟨fp', nw'⟩ := put h1 ⟨bs[i].name, bs[i].x, .nils⟩ (hearH true b.held[i]) f2 (by rw [hh1]; exact (Chg.one cg1.ok (b := qb) a4 _).ok) (by rw [hh1]; exact Nat.le_refl _) (by rw [hh1]; simp [upd]) hp1
      ⟨a5, f2, [], a7.frame fun x hx => hp1 x (hnx x (by simp [hx])) (fun e => a9 (by rw [← e]; simp [hx])), OwnF.nil, by simp⟩
      nd.2.1 (fun x hx => .inl (by simp [hx]))
    rw [hE]
    exact ⟨_, _, _, h1', nw'⟩

theorem zBook_small : SmallBook zBook := ⟨by simp [zBook], by simp [zBook], by simp [zBook]⟩
theorem SmallBook.put {b : Book} (sm : SmallBook b) (k : Int) {a : Held} (ha : a.tube.length ≤ 1048576 ∧ a.next.length ≤ 1048576) : SmallBook (putB b k a) := by
  refine ⟨sm.f, by simpa [putB] using sm.h, fun x hx => ?_⟩
  rcases List.mem_or_eq_of_mem_set hx with hx | rfl
  · exact sm.t x hx
  · exact ha
theorem SmallBook.at {b : Book} (sm : SmallBook b) (k : Int) : (heldAt b k).tube.length ≤ 1048576 ∧ (heldAt b k).next.length ≤ 1048576 := by
  simp only [heldAt]
  by_cases hk : k.toNat < b.held.length
  · have : b.held.getD k.toNat default = b.held[k.toNat] := by simp [hk]
    rw [this]
    exact sm.t _ (List.getElem_mem hk)
  · have : b.held.getD k.toNat default = default := by simp [hk]
    rw [this]
    exact ⟨by decide, by decide⟩
theorem hearB_small {b : Book} (sm : SmallBook b) (n : ByteArray) (yes : Bool) : SmallBook (hearB b n yes).1 := by
  have s2 := sm.at (atB b.held n)
  simp only [hearB]
  split
  · exact zBook_small
  split
  · exact sm
  split
  · exact sm
  · refine sm.put _ ⟨?_, by simp [hearH]⟩
    simp only [hearH]
    split
    · exact s2.2
    · exact s2.1
end Go.Abs

/-
  The exact law of GiveHear, over what its functions compute.
-/

namespace Go.Abs
set_option linter.unusedSimpArgs false
set_option linter.unusedVariables false
attribute [local simp] AW_skip AW_exit AW_ret AW_seq AW_block AW_cond CW_ite AW_reg AW_regD AW_regDc RD_nil RD_cons keyEq hasP hasH hasL chkL chkH recK recH inRange lightKey BookC.len BookC.take WishC.len WishC.take RW_nil RW_cons RW_guard GW_t GW_f GW_gt GW_gf GW_tup GY_some GY_tt GY_ff gd_t gd_f pk_t pk_f pk_and pk_or pk_andc pk_orc pk_bool gd_gd SW_some ThenQ_normal ThenQ_exit ThenQ_ret BlockQ_normal BlockQ_exit BlockQ_ret kill_nil kill_cons killT_at killL_at upo_some upo_none ev_t ev_k FinQ_ret FinQ_normal upd_eq upd_ne argsT_zero argsT_succ aop.eq_1 aop_pick aop.eq_3 aop.eq_4 aop.eq_5 aop.eq_6 aop.eq_7 aop.eq_8 aop.eq_9 aop.eq_10 aop.eq_11 aop.eq_12 aop.eq_13 aop.eq_14 aop.eq_15 aop.eq_16 aop.eq_17 aop.eq_18 aop.eq_19 aop.eq_20 aop.eq_21 aop_slice_hi aop_slice_lo aop.eq_23 aop.eq_24 aop.eq_26 aop.eq_27 aop.eq_28 aop.eq_29 aop.eq_31 aop.eq_32 aop_maxs2 aop_mins2 aop_mins3 aop_len aop_iaddr Av.bool? Av.ptr? Av.int? Av.int64? Av.str? Av.agg? ressA resA resOf noLoc_int noLoc_bool noLoc_str noLoc_nils noLoc_nilp noLoc_ptrl noLoc_ptrr noLoc_sll noLoc_slr noLoc_fn noLoc_tc noLoc_tagg noLoc_av noLoc_atup ce_c tv_v cells_c cells_agg noLocs keyLoc evs callA St.set St.get unAv binCe killV_int killV_bool killV_str killV_nils killV_nilp killV_agg killV_no killV_tup killV_ptrl killV_ptrr killV_sll killV_slr killV_fn killV_noLoc fillA repl ptrs List.map
attribute [local congr] GY_congr


theorem laws_FnExactGiveHear (h : Heap) (cb : BookC) (b : Book) (n : ByteArray) (yes : Bool) (ho : HOk h) (rb : RdBook (fun b => b < h.nx) h cb b ∧ BookWf b) (kn : n.size ≤ 9223372036854775807) :
    ∃ h', Flaws_FnExactGiveHear [.v (.agg cb.ces), .v (.c (.str n)), .v (.c (.bool yes))] h = some (.v (.c (.bool true)), h') := by
  unfold Flaws_FnExactGiveHear
  obtain ⟨rb, wb⟩ := rb
  by_cases hbn : (1048576 : Int) < n.size
  · refine ⟨_, runF_eq (h' := h) ?_⟩
    simp [claws_FnExactGiveHear, hbn]
  obtain ⟨qb, sb, leb, smb⟩ := laws_szGiveBook h cb b 1048576 rb wb (by omega)
  rcases leb with rfl | leb
  · refine ⟨_, runF_eq (h' := h) ?_⟩
    simp [claws_FnExactGiveHear, hbn, elaws_FnExactGiveHear_laws_szGiveBook, sb]
  have nb : ¬ qb < 0 := by omega
  replace smb := smb leb.1
  obtain ⟨c1, h2, fpc1, t3, m4⟩ := toBook' h cb b ho rb smb
  have f5 := m4.fr
  have nx1 := f5.nx
  have gec1 : ∀ x0, x0 ∈ fpc1 → h.nx ≤ x0 := m4.ge
  have ltc1 : ∀ x0, x0 ∈ fpc1 → x0 < h2.nx := fun x0 hb => OwnBook.lt (m4.own : OwnBook h2 c1 b fpc1) f5.ok hb
  have o6 : OwnBook h2 c1 b fpc1 := m4.own
  have bnd := (hearB_small smb n yes)
  obtain ⟨w, h8, fpw, t9, m10⟩ := spec_GiveHear h2 _ _ n yes f5.ok (o6.rd (S := fun x0 => x0 ∈ fpc1) smb (fun x0 hb => hb)) wb smb
  have f11 := m10.fr
  have nx2 := f11.nx
  have o12 : OwnBook h8 w (hearB b n yes).1 fpw := m10.own
  have gew : ∀ x0, x0 ∈ fpw → h2.nx ≤ x0 := m10.ge
  have ltw : ∀ x0, x0 ∈ fpw → x0 < h8.nx := fun x0 hb => OwnBook.lt o12 f11.ok hb
  have b13 := rb.keep ho f5
  have b14 := b13.keep f5.ok f11
  obtain ⟨c15, h16, fpc15, t17, m18⟩ := toBook' h8 cb b f11.ok b14 smb
  have f19 := m18.fr
  have nx3 := f19.nx
  have gec15 : ∀ x0, x0 ∈ fpc15 → h8.nx ≤ x0 := m18.ge
  have ltc15 : ∀ x0, x0 ∈ fpc15 → x0 < h16.nx := fun x0 hb => OwnBook.lt (m18.own : OwnBook h16 c15 b fpc15) f19.ok hb
  have o20 : OwnBook h16 c15 b fpc15 := m18.own
  obtain ⟨g, h22, fpg, t23, m24⟩ := impl_GiveHear h16 _ _ n yes f19.ok (o20.rd (S := fun x0 => x0 ∈ fpc15) smb (fun x0 hb => hb)) wb smb
  have f25 := m24.fr
  have nx4 := f25.nx
  have o26 : OwnBook h22 g (hearB b n yes).1 fpg := m24.own
  have geg : ∀ x0, x0 ∈ fpg → h16.nx ≤ x0 := m24.ge
  have ltg : ∀ x0, x0 ∈ fpg → x0 < h22.nx := fun x0 hb => OwnBook.lt o26 f25.ok hb
  have b27 := o12.chg f11.ok (Fr.chg (fp := []) f19) (by simp)
  have b28 := b27.chg f19.ok (Fr.chg (fp := []) f25) (by simp)
  obtain ⟨q30, e29, z31⟩ := laws_eqGiveBook h22 g w _ _ (o26.rd (S := fun x0 => x0 ∈ fpg) bnd (fun x0 hb => hb)) (b28.rd (S := fun x0 => x0 ∈ fpw) bnd (fun x0 hb => hb))
  obtain rfl := z31.2 rfl
  have b32 := b14.keep f11.ok f19
  have b33 := b32.keep f19.ok f25
  obtain ⟨c34, h35, fpc34, t36, m37⟩ := toBook' h22 cb b f25.ok b33 smb
  have f38 := m37.fr
  have nx5 := f38.nx
  have gec34 : ∀ x0, x0 ∈ fpc34 → h22.nx ≤ x0 := m37.ge
  have ltc34 : ∀ x0, x0 ∈ fpc34 → x0 < h35.nx := fun x0 hb => OwnBook.lt (m37.own : OwnBook h35 c34 b fpc34) f38.ok hb
  have o39 : OwnBook h35 c34 b fpc34 := m37.own
  have b40 := o20.chg f19.ok (Fr.chg (fp := []) f25) (by simp)
  have b41 := b40.chg f25.ok (Fr.chg (fp := []) f38) (by simp)
  obtain ⟨q43, e42, z44⟩ := laws_eqGiveBook h35 c15 c34 _ _ (b41.rd (S := fun x0 => x0 ∈ fpc15) smb (fun x0 hb => hb)) (o39.rd (S := fun x0 => x0 ∈ fpc34) smb (fun x0 hb => hb))
  obtain rfl := z44.2 rfl
  have cbb := cntBook_le smb
  obtain ⟨h48, t45, o46, d47⟩ := laws_markGiveBook h35 c15 b fpc15 (1) f38.ok b41 smb (by omega)
  have nx6 := d47.nx
  have nk : ¬ (1 + cntBook b) < 0 := by omega
  have b49 := o26.chg f25.ok (Fr.chg (fp := []) f38) (by simp)
  have b50 := b49.chg f38.ok d47 (by
    intro x0 hb hn
    have i1 := gec15 x0 hn
    have i2 := ltc15 x0 hn
    have i3 := geg x0 hb
    have i4 := ltg x0 hb
    omega)
  have b51 := b28.chg f25.ok (Fr.chg (fp := []) f38) (by simp)
  have b52 := b51.chg f38.ok d47 (by
    intro x0 hb hn
    have i1 := gec15 x0 hn
    have i2 := ltc15 x0 hn
    have i3 := gew x0 hb
    have i4 := ltw x0 hb
    omega)
  obtain ⟨q54, e53, z55⟩ := laws_eqGiveBook h48 g w _ _ (b50.rd (S := fun x0 => x0 ∈ fpg) bnd (fun x0 hb => hb)) (b52.rd (S := fun x0 => x0 ∈ fpw) bnd (fun x0 hb => hb))
  obtain rfl := z55.2 rfl
  have cmp1 := ()
  have cg := cntBook_le bnd
  obtain ⟨h59, t56, o57, d58⟩ := laws_markGiveBook h48 g (hearB b n yes).1 fpg 1 d47.ok b50 bnd (by omega)
  have nx7 := d58.nx
  have nm : ¬ (1 + cntBook (hearB b n yes).1) < 0 := by omega
  obtain ⟨h61, u60, f62⟩ := laws_heldGiveBook h59 g (hearB b n yes).1 1 d58.ok (o57.rd (S := fun x0 => x0 ∈ fpg) (marksBook_small bnd) (fun x0 hb => hb)) bnd (by omega)
  have nx8 := f62.nx
  have b63 := b33.keep f25.ok f38
  have b64 := b63.chg f38.ok d47 (by
    intro x0 hb hn
    have i1 := gec15 x0 hn
    have i2 := ltc15 x0 hn
    replace hb : x0 < h.nx := hb
    omega)
  have b65 := b64.chg d47.ok d58 (by
    intro x0 hb hn
    have i1 := geg x0 hn
    have i2 := ltg x0 hn
    replace hb : x0 < h.nx := hb
    omega)
  have b66 := b65.keep d58.ok f62
  obtain ⟨c67, h68, fpc67, t69, m70⟩ := toBook' h61 cb b f62.ok b66 smb
  have f71 := m70.fr
  have nx9 := f71.nx
  have gec67 : ∀ x0, x0 ∈ fpc67 → h61.nx ≤ x0 := m70.ge
  have ltc67 : ∀ x0, x0 ∈ fpc67 → x0 < h68.nx := fun x0 hb => OwnBook.lt (m70.own : OwnBook h68 c67 b fpc67) f71.ok hb
  have o72 : OwnBook h68 c67 b fpc67 := m70.own
  obtain ⟨v, h73, fpv, t74, m75⟩ := impl_GiveHear h68 _ _ n yes f71.ok (o72.rd (S := fun x0 => x0 ∈ fpc67) smb (fun x0 hb => hb)) wb smb
  have f76 := m75.fr
  have nx10 := f76.nx
  have o77 : OwnBook h73 v (hearB b n yes).1 fpv := m75.own
  have gev : ∀ x0, x0 ∈ fpv → h68.nx ≤ x0 := m75.ge
  have ltv : ∀ x0, x0 ∈ fpv → x0 < h73.nx := fun x0 hb => OwnBook.lt o77 f76.ok hb
  have b78 := b52.chg d47.ok d58 (by
    intro x0 hb hn
    have i1 := geg x0 hn
    have i2 := ltg x0 hn
    have i3 := gew x0 hb
    have i4 := ltw x0 hb
    omega)
  have b79 := b78.chg d58.ok (Fr.chg (fp := []) f62) (by simp)
  have b80 := b79.chg f62.ok (Fr.chg (fp := []) f71) (by simp)
  have b81 := b80.chg f71.ok (Fr.chg (fp := []) f76) (by simp)
  obtain ⟨q83, e82, z84⟩ := laws_eqGiveBook h73 v w _ _ (o77.rd (S := fun x0 => x0 ∈ fpv) bnd (fun x0 hb => hb)) (b81.rd (S := fun x0 => x0 ∈ fpw) bnd (fun x0 hb => hb))
  obtain rfl := z84.2 rfl
  have b85 := o57.chg d58.ok (Fr.chg (fp := []) f62) (by simp)
  have b86 := b85.chg f62.ok (Fr.chg (fp := []) f71) (by simp)
  have b87 := b86.chg f71.ok (Fr.chg (fp := []) f76) (by simp)
  obtain ⟨h89, u88, f90⟩ := laws_heldGiveBook h73 g (hearB b n yes).1 1 f76.ok (b87.rd (S := fun x0 => x0 ∈ fpg) (marksBook_small bnd) (fun x0 hb => hb)) bnd (by omega)
  have nx11 := f90.nx
  refine ⟨_, runF_eq (h' := h89) ?_⟩
  simp [claws_FnExactGiveHear, hbn, sb, nb, t3, t9, t17, t23, e29, t36, e42, t45, nk, e53, t56, nm, u60, t69, t74, e82, u88, elaws_FnExactGiveHear_impl_GiveHear, elaws_FnExactGiveHear_laws_eqGiveBook, elaws_FnExactGiveHear_laws_heldGiveBook, elaws_FnExactGiveHear_laws_markGiveBook, elaws_FnExactGiveHear_laws_szGiveBook, elaws_FnExactGiveHear_laws_toGiveBook, elaws_FnExactGiveHear_spec_GiveHear]
end Go.Abs
