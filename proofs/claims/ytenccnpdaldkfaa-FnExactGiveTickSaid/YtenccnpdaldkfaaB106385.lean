/-
  What is heard: the next tube of a held thing taken or left.
-/
import Derived.Test.YtenccnpdaldkfaaB9cc67
set_option linter.unusedSimpArgs false
set_option linter.unusedVariables false
namespace Go.Abs
set_option linter.unusedSimpArgs false
set_option linter.unusedVariables false
attribute [local simp] AW_skip AW_exit AW_ret AW_seq AW_block AW_cond CW_ite AW_reg AW_regD AW_regDc RD_nil RD_cons keyEq hasP hasH hasL chkL chkH recK recH inRange lightKey BookC.len BookC.take WishC.len WishC.take RW_nil RW_cons RW_guard GW_t GW_f GW_gt GW_gf GW_tup GY_some GY_tt GY_ff gd_t gd_f pk_t pk_f pk_and pk_or pk_andc pk_orc pk_bool gd_gd SW_some ThenQ_normal ThenQ_exit ThenQ_ret BlockQ_normal BlockQ_exit BlockQ_ret kill_nil kill_cons killT_at killL_at upo_some upo_none ev_t ev_k FinQ_ret FinQ_normal upd_eq upd_ne argsT_zero argsT_succ aop.eq_1 aop_pick aop.eq_3 aop.eq_4 aop.eq_5 aop.eq_6 aop.eq_7 aop.eq_8 aop.eq_9 aop.eq_10 aop.eq_11 aop.eq_12 aop.eq_13 aop.eq_14 aop.eq_15 aop.eq_16 aop.eq_17 aop.eq_18 aop.eq_19 aop.eq_20 aop.eq_21 aop_slice_hi aop_slice_lo aop.eq_23 aop.eq_24 aop.eq_26 aop.eq_27 aop.eq_28 aop.eq_29 aop.eq_31 aop.eq_32 aop_maxs2 aop_mins2 aop_mins3 aop_len aop_iaddr Av.bool? Av.ptr? Av.int? Av.int64? Av.str? Av.agg? ressA resA resOf noLoc_int noLoc_bool noLoc_str noLoc_nils noLoc_nilp noLoc_ptrl noLoc_ptrr noLoc_sll noLoc_slr noLoc_fn noLoc_tc noLoc_tagg noLoc_av noLoc_atup ce_c tv_v cells_c cells_agg noLocs keyLoc evs callA St.set St.get unAv binCe killV_int killV_bool killV_str killV_nils killV_nilp killV_agg killV_no killV_tup killV_ptrl killV_ptrr killV_sll killV_slr killV_fn killV_noLoc fillA repl ptrs List.map
attribute [local congr] GY_congr

def zBook : Book := ⟨0, [], []⟩
def hearH (yes : Bool) (a : Held) : Held := ⟨a.name, if yes = true then a.next else a.tube, []⟩
def putB (b : Book) (k : Int) (a : Held) : Book := ⟨b.now, b.fields, b.held.set k.toNat a⟩
def heldAt (b : Book) (k : Int) : Held := b.held.getD k.toNat default
def hearB (b : Book) (n : ByteArray) (yes : Bool) : Book × Int :=
  if bookOkB b = false then (zBook, 1) else
  if atB b.held n = -1 then (b, 6) else
  if (heldAt b (atB b.held n)).next = [] then (b, 8) else (putB b (atB b.held n) (hearH yes (heldAt b (atB b.held n))), 0)

theorem OwnBook.nl {h : Heap} {c : BookC} {b : Book} {fp : List Nat} (o : OwnBook h c b fp) : c.f.noLoc = true ∧ c.hd.noLoc = true := by
  obtain ⟨_, f1, f2, o1, o2, _, _⟩ := o
  exact ⟨o1.noLoc, o2.noLoc⟩
theorem New.zBook {h : Heap} (ho : HOk h) : New (fun h fp => OwnBook h ⟨0, .nils, .nils⟩ Go.Abs.zBook fp) h h [] :=
  ⟨⟨rfl, [], [], OwnF.nil, OwnS.nil, rfl, by simp⟩, Fr.refl ho, by simp⟩
theorem zBook_ces : [Ce.int .i64 0, .nils, .nils] = (⟨0, .nils, .nils⟩ : BookC).ces := rfl

theorem spec_GiveHear {S : Nat → Prop} (h : Heap) (c : BookC) (b : Book) (n : ByteArray) (yes : Bool) (ho : HOk h) (hr : RdBook S h c b) (hw : BookWf b) (sm : SmallBook b) :
    ∃ (c' : BookC) (h' : Heap) (fp : List Nat), Fspec_GiveHear [.v (.agg c.ces), .v (.c (.str n)), .v (.c (.bool yes))] h = some (.tup [.agg c'.ces, .c (.int .i64 (hearB b n yes).2)], h') ∧ New (fun h fp => OwnBook h c' (hearB b n yes).1 fp) h h' fp := by
  unfold Fspec_GiveHear
  have B := spec_GiveBookOk h c b hr hw
  have hfl := hr.f.noLoc
  cases hb : bookOkB b
  · rw [hb] at B
    obtain ⟨v, h', h1, rfl, rfl⟩ := runF_of (env := espec_GiveHear) (code := cspec_GiveHear) (rs := [.cellN 6 3, .t 7]) (args := [.v (.agg c.ces), .v (.c (.str n)), .v (.c (.bool yes))]) (h := h) (K := fun v h' => v = .tup [.agg (⟨0, .nils, .nils⟩ : BookC).ces, .c (.int .i64 1)] ∧ h' = h) (by
      simp [cspec_GiveHear, espec_GiveHear_spec_GiveBookOk, B]
      rfl)
    simp only [hearB, hb, if_pos]
    exact ⟨_, _, _, h1, New.zBook ho⟩
  rw [hb] at B
  obtain ⟨c', H, fp, u1, nw⟩ := spec_l2Copy h c b ho hr sm
  have hr1 := hr.keep ho nw.fr
  have u2 := spec_l2At H c b n hr1
  obtain ⟨nl1, nl2⟩ := nw.own.nl
  have e2 : c.ces[2]? = some c.hd := rfl
  have e2' : c'.ces[2]? = some c'.hd := rfl
  obtain ⟨hnow, hf, hs, hh, hlen, hel⟩ := hr1
  rcases atB_cases b.held n with ha | ⟨i, hi, ha⟩
  · rw [ha] at u2
    obtain ⟨v, h', h1, rfl, rfl⟩ := runF_of (env := espec_GiveHear) (code := cspec_GiveHear) (rs := [.cellN 6 3, .t 7]) (args := [.v (.agg c.ces), .v (.c (.str n)), .v (.c (.bool yes))]) (h := h) (K := fun v h' => v = .tup [.agg c'.ces, .c (.int .i64 6)] ∧ h' = H) (by
      simp [cspec_GiveHear, espec_GiveHear_spec_GiveBookOk, espec_GiveHear_spec_l2Copy, espec_GiveHear_spec_l2At, B, u1, u2])
    rw [show hearB b n yes = (b, 6) by simp [hearB, hb, ha]]
    exact ⟨_, _, _, h1, nw⟩
  rw [ha] at u2
  have hin : i < hs.length := by omega
  obtain ⟨eb, ep, er, e1, _, e3, e4, e5, e6, e7, e8⟩ := hh.heldc hin
  have hri := hel i hin hi
  have hAt : heldAt b (i : Int) = b.held[i] := by simp [heldAt, hi]
  have hneg : ¬ (i : Int) = -1 := by omega
  by_cases hx : b.held[i].next = []
  · obtain ⟨v, h', h1, rfl, rfl⟩ := runF_of (env := espec_GiveHear) (code := cspec_GiveHear) (rs := [.cellN 6 3, .t 7]) (args := [.v (.agg c.ces), .v (.c (.str n)), .v (.c (.bool yes))]) (h := h) (K := fun v h' => v = .tup [.agg c'.ces, .c (.int .i64 8)] ∧ h' = H) (by
      simp [cspec_GiveHear, espec_GiveHear_spec_GiveBookOk, espec_GiveHear_spec_l2Copy, espec_GiveHear_spec_l2At, B, u1, u2, e2, e1, e3, e8, hri.x.slen, hri.x.noLoc, hh.noLoc, hx])
    rw [show hearB b n yes = (b, 8) by simp [hearB, hb, ha, hneg, hAt, hx]]
    exact ⟨_, _, _, h1, nw⟩
  obtain ⟨qb, bs, f1, f2, hib, a1, a2, a3, a4, a4', a5, a6, a7, a8, a9, a10, put⟩ := nw.held hi
  have s1 := fHeld.all_set bs (i := i) (k := 1) hib (by decide) (b := ⟨bs[i].name, bs[i].x, bs[i].x⟩) (v := bs[i].x) (by simp [fHeld])
  have s2 := fHeld.all_set (bs.set i ⟨bs[i].name, bs[i].x, bs[i].x⟩) (i := i) (k := 2) (by simpa using hib) (by decide) (b := ⟨bs[i].name, bs[i].x, .sl (.inr H.nx) 0 0 .own⟩) (v := .sl (.inr H.nx) 0 0 .own) (by simp [fHeld])
  have s3 := fHeld.all_set bs (i := i) (k := 2) hib (by decide) (b := ⟨bs[i].name, bs[i].t, .sl (.inr H.nx) 0 0 .own⟩) (v := .sl (.inr H.nx) 0 0 .own) (by simp [fHeld])
  have c2 := fHeld.all_cell bs (i := i) (k := 2) hib (by decide)
  simp only [show fHeld.sz = 3 from rfl] at s1 s2 s3 c2
  replace c2 : (fHeld.all bs)[i * 3 + 2]? = some bs[i].x := c2
  have hlen1 : (fHeld.all bs).length = b.held.length * 3 := by rw [fHeld.all_length, a2]; rfl
  have hlen2 : ∀ z, (fHeld.all (bs.set i z)).length = b.held.length * 3 := fun z => by rw [fHeld.all_length, List.length_set, a2]; rfl
  have q1 : i * 3 + 1 ≤ b.held.length * 3 := by omega
  have q2 : i * 3 + 2 ≤ b.held.length * 3 := by omega
  have q3 : i * 3 + 3 ≤ b.held.length * 3 := by omega
  have he2 : (Ce.sl (Sum.inr qb) 0 b.held.length .own).eltAt 3 i = some (.inr qb, i * 3) := by simp [Ce.eltAt, hi]
  have hqn : ¬ qb = H.nx := by omega
  have hxl : ¬ (b.held[i].next.length : Int) = 0 := by
    intro e
    exact hx (List.length_eq_zero_iff.1 (by omega))
  have hE : hearB b n yes = (⟨b.now, b.fields, b.held.set i (hearH yes b.held[i])⟩, 0) := by simp [hearB, hb, ha, hneg, hAt, hx, putB]
  have hnx : ∀ x, x ∈ f1 ++ f2 → x < H.nx := a10
  have nd := List.nodup_append.1 a8
  cases yes
  · obtain ⟨h1, hh1⟩ : ∃ h1 : Heap, h1 = ⟨H.nx + 1, upd (H.push ⟨[], 6, true⟩).hp qb (some ⟨fHeld.all (bs.set i ⟨bs[i].name, bs[i].t, .sl (.inr H.nx) 0 0 .own⟩), 3, true⟩)⟩ := ⟨_, rfl⟩
    obtain ⟨v, h', h1', rfl, e'⟩ := runF_of (env := espec_GiveHear) (code := cspec_GiveHear) (rs := [.cellN 6 3, .t 7]) (args := [.v (.agg c.ces), .v (.c (.str n)), .v (.c (.bool false))]) (h := h) (K := fun v h' => v = .tup [.agg c'.ces, .c (.int .i64 0)] ∧ h' = h1) (by
      simp [cspec_GiveHear, espec_GiveHear_spec_GiveBookOk, espec_GiveHear_spec_l2Copy, espec_GiveHear_spec_l2At, B, u1, u2, e2, e2', e1, e3, e8, hri.x.slen, hri.x.noLoc, hh.noLoc, hx, a1, he2, a3, hlen1, hlen2, q1, q2, q3, s3, c2, hqn, hh1, St.push, Heap.push])
    rw [e'] at h1'
    have hp1 : ∀ x, x < H.nx → x ≠ qb → h1.hp x = H.hp x := fun x hx hne => by rw [hh1]; simp [upd, Heap.push, hne, Nat.ne_of_lt hx]
    have hnq : h1.hp H.nx = some ⟨[], 6, true⟩ := by rw [hh1]; simp [upd, Heap.push, show ¬ H.nx = qb by omega]
    obtain ⟨fp', nw'⟩ := put h1 ⟨bs[i].name, bs[i].t, .sl (.inr H.nx) 0 0 .own⟩ (hearH false b.held[i]) (f1 ++ [H.nx]) (by rw [hh1]; exact (Chg.one (Fr.push nw.fr.ok ⟨[], 6, true⟩).ok (b := qb) (by simp only [Heap.push]; omega) _).ok) (by rw [hh1]; exact Nat.le_succ _) (by rw [hh1]; simp [upd]) hp1
      ⟨a5, f1, [H.nx], a6.frame fun x hx => hp1 x (hnx x (by simp [hx])) (fun e => a9 (by rw [← e]; simp [hx])), .inr ⟨H.nx, rfl, hnq, rfl⟩, rfl⟩
      (List.nodup_append.2 ⟨nd.1, by simp, fun x hx y hy e => by
        simp at hy
        have := hnx x (by simp [hx])
        omega⟩) (fun x hx => by
        rw [List.mem_append] at hx
        rcases hx with hx | hx
        · exact .inl (by simp [hx])
        · simp at hx; exact .inr (by omega))
    rw [hE]
    exact ⟨_, _, _, h1', nw'⟩
  · obtain ⟨h1, hh1⟩ : ∃ h1 : Heap, h1 = ⟨H.nx + 1, upd (upd (upd H.hp qb (some ⟨fHeld.all (bs.set i ⟨bs[i].name, bs[i].x, bs[i].x⟩), 3, true⟩)) H.nx (some ⟨[], 6, true⟩)) qb (some ⟨fHeld.all (bs.set i ⟨bs[i].name, bs[i].x, .sl (.inr H.nx) 0 0 .own⟩), 3, true⟩)⟩ := ⟨_, rfl⟩
    obtain ⟨v, h', h1', rfl, e'⟩ := runF_of (env := espec_GiveHear) (code := cspec_GiveHear) (rs := [.cellN 6 3, .t 7]) (args := [.v (.agg c.ces), .v (.c (.str n)), .v (.c (.bool true))]) (h := h) (K := fun v h' => v = .tup [.agg c'.ces, .c (.int .i64 0)] ∧ h' = h1) (by
      simp [cspec_GiveHear, espec_GiveHear_spec_GiveBookOk, espec_GiveHear_spec_l2Copy, espec_GiveHear_spec_l2At, B, u1, u2, e2, e2', e1, e3, e8, hri.x.slen, hri.x.noLoc, hh.noLoc, hx, a1, he2, a3, a7.noLoc, hlen1, hlen2, q1, q2, q3, s1, s2, c2, hqn, hh1, St.push, Heap.push])
    rw [e'] at h1'
    have hp1 : ∀ x, x < H.nx → x ≠ qb → h1.hp x = H.hp x := fun x hx hne => by rw [hh1]; simp [upd, hne, Nat.ne_of_lt hx]
    have hnq : h1.hp H.nx = some ⟨[], 6, true⟩ := by rw [hh1]; simp [upd, show ¬ H.nx = qb by omega]
    have cg1 := Chg.one nw.fr.ok (b := qb) a4 (some ⟨fHeld.all (bs.set i ⟨bs[i].name, bs[i].x, bs[i].x⟩), 3, true⟩)
    obtain ⟨fp', nw'⟩ := put h1 ⟨bs[i].name, bs[i].x, .sl (.inr H.nx) 0 0 .own⟩ (hearH true b.held[i]) (f2 ++ [H.nx]) (by rw [hh1]; exact (Chg.one (Fr.push cg1.ok ⟨[], 6, true⟩).ok (b := qb) (by simp only [Heap.push]; omega) _).ok) (by rw [hh1]; exact Nat.le_succ _) (by rw [hh1]; simp [upd]) hp1
      ⟨a5, f2, [H.nx], a7.frame fun x hx => hp1 x (hnx x (by simp [hx])) (fun e => a9 (by rw [← e]; simp [hx])), .inr ⟨H.nx, rfl, hnq, rfl⟩, rfl⟩
      (List.nodup_append.2 ⟨nd.2.1, by simp, fun x hx y hy e => by
        simp at hy
        have := hnx x (by simp [hx])
        omega⟩) (fun x hx => by
        rw [List.mem_append] at hx
        rcases hx with hx | hx
        · exact .inl (by simp [hx])
        · simp at hx; exact .inr (by omega))
    rw [hE]
    exact ⟨_, _, _, h1', nw'⟩
theorem impl_GiveHear {S : Nat → Prop} (h : Heap) (c : BookC) (b : Book) (n : ByteArray) (yes : Bool) (ho : HOk h) (hr : RdBook S h c b) (hw : BookWf b) (sm : SmallBook b) :
    ∃ (c' : BookC) (h' : Heap) (fp : List Nat), Fimpl_GiveHear [.v (.agg c.ces), .v (.c (.str n)), .v (.c (.bool yes))] h = some (.tup [.agg c'.ces, .c (.int .i64 (hearB b n yes).2)], h') ∧ New (fun h fp => OwnBook h c' (hearB b n yes).1 fp) h h' fp := by
  unfold Fimpl_GiveHear
  have B := impl_GiveBookOk h c b hr hw
  have hfl := hr.f.noLoc
  cases hb : bookOkB b
  · rw [hb] at B
    obtain ⟨v, h', h1, rfl, rfl⟩ := runF_of (env := eimpl_GiveHear) (code := cimpl_GiveHear) (rs := [.cellN 6 3, .t 7]) (args := [.v (.agg c.ces), .v (.c (.str n)), .v (.c (.bool yes))]) (h := h) (K := fun v h' => v = .tup [.agg (⟨0, .nils, .nils⟩ : BookC).ces, .c (.int .i64 1)] ∧ h' = h) (by
      simp [cimpl_GiveHear, eimpl_GiveHear_impl_GiveBookOk, B]
      rfl)
    simp only [hearB, hb, if_pos]
    exact ⟨_, _, _, h1, New.zBook ho⟩
  rw [hb] at B
  obtain ⟨c', H, fp, u1, nw⟩ := impl_copyBook h c b ho hr sm
  have hr1 := hr.keep ho nw.fr
  have u2 := impl_GiveBook_at H c b n hr1
  obtain ⟨nl1, nl2⟩ := nw.own.nl
  have e2 : c.ces[2]? = some c.hd := rfl
  have e2' : c'.ces[2]? = some c'.hd := rfl
  obtain ⟨hnow, hf, hs, hh, hlen, hel⟩ := hr1
  rcases atB_cases b.held n with ha | ⟨i, hi, ha⟩
  · rw [ha] at u2
    obtain ⟨v, h', h1, rfl, rfl⟩ := runF_of (env := eimpl_GiveHear) (code := cimpl_GiveHear) (rs := [.cellN 6 3, .t 7]) (args := [.v (.agg c.ces), .v (.c (.str n)), .v (.c (.bool yes))]) (h := h) (K := fun v h' => v = .tup [.agg c'.ces, .c (.int .i64 6)] ∧ h' = H) (by
      simp [cimpl_GiveHear, eimpl_GiveHear_impl_GiveBookOk, eimpl_GiveHear_impl_copyBook, eimpl_GiveHear_impl_GiveBook_at, B, u1, u2])
    rw [show hearB b n yes = (b, 6) by simp [hearB, hb, ha]]
    exact ⟨_, _, _, h1, nw⟩
  rw [ha] at u2
  have hin : i < hs.length := by omega
  obtain ⟨eb, ep, er, e1, _, e3, e4, e5, e6, e7, e8⟩ := hh.heldc hin
  have hri := hel i hin hi
  have hAt : heldAt b (i : Int) = b.held[i] := by simp [heldAt, hi]
  have hneg : ¬ (i : Int) = -1 := by omega
  by_cases hx : b.held[i].next = []
  · obtain ⟨v, h', h1, rfl, rfl⟩ := runF_of (env := eimpl_GiveHear) (code := cimpl_GiveHear) (rs := [.cellN 6 3, .t 7]) (args := [.v (.agg c.ces), .v (.c (.str n)), .v (.c (.bool yes))]) (h := h) (K := fun v h' => v = .tup [.agg c'.ces, .c (.int .i64 8)] ∧ h' = H) (by
      simp [cimpl_GiveHear, eimpl_GiveHear_impl_GiveBookOk, eimpl_GiveHear_impl_copyBook, eimpl_GiveHear_impl_GiveBook_at, B, u1, u2, e2, e1, e3, e8, hri.x.slen, hri.x.noLoc, hh.noLoc, hx])
    rw [show hearB b n yes = (b, 8) by simp [hearB, hb, ha, hneg, hAt, hx]]
    exact ⟨_, _, _, h1, nw⟩
  obtain ⟨qb, bs, f1, f2, hib, a1, a2, a3, a4, a4', a5, a6, a7, a8, a9, a10, put⟩ := nw.held hi
  have s1 := fHeld.all_set bs (i := i) (k := 1) hib (by decide) (b := ⟨bs[i].name, bs[i].x, bs[i].x⟩) (v := bs[i].x) (by simp [fHeld])
  have s2 := fHeld.all_set (bs.set i ⟨bs[i].name, bs[i].x, bs[i].x⟩) (i := i) (k := 2) (by simpa using hib) (by decide) (b := ⟨bs[i].name, bs[i].x, .nils⟩) (v := .nils) (by simp [fHeld])
  have s3 := fHeld.all_set bs (i := i) (k := 2) hib (by decide) (b := ⟨bs[i].name, bs[i].t, .nils⟩) (v := .nils) (by simp [fHeld])
  have c2 := fHeld.all_cell bs (i := i) (k := 2) hib (by decide)
  simp only [show fHeld.sz = 3 from rfl] at s1 s2 s3 c2
  replace c2 : (fHeld.all bs)[i * 3 + 2]? = some bs[i].x := c2
  have hlen1 : (fHeld.all bs).length = b.held.length * 3 := by rw [fHeld.all_length, a2]; rfl
  have hlen2 : ∀ z, (fHeld.all (bs.set i z)).length = b.held.length * 3 := fun z => by rw [fHeld.all_length, List.length_set, a2]; rfl
  have q1 : i * 3 + 1 ≤ b.held.length * 3 := by omega
  have q2 : i * 3 + 2 ≤ b.held.length * 3 := by omega
  have q3 : i * 3 + 3 ≤ b.held.length * 3 := by omega
  have he2 : (Ce.sl (Sum.inr qb) 0 b.held.length .own).eltAt 3 i = some (.inr qb, i * 3) := by simp [Ce.eltAt, hi]
  have hqn : ¬ qb = H.nx := by omega
  have hxl : ¬ (b.held[i].next.length : Int) = 0 := by
    intro e
    exact hx (List.length_eq_zero_iff.1 (by omega))
  have hE : hearB b n yes = (⟨b.now, b.fields, b.held.set i (hearH yes b.held[i])⟩, 0) := by simp [hearB, hb, ha, hneg, hAt, hx, putB]
  have hnx : ∀ x, x ∈ f1 ++ f2 → x < H.nx := a10
  have nd := List.nodup_append.1 a8
  cases yes
  · obtain ⟨h1, hh1⟩ : ∃ h1 : Heap, h1 = ⟨H.nx, upd H.hp qb (some ⟨fHeld.all (bs.set i ⟨bs[i].name, bs[i].t, .nils⟩), 3, true⟩)⟩ := ⟨_, rfl⟩
    obtain ⟨v, h', h1', rfl, e'⟩ := runF_of (env := eimpl_GiveHear) (code := cimpl_GiveHear) (rs := [.cellN 6 3, .t 7]) (args := [.v (.agg c.ces), .v (.c (.str n)), .v (.c (.bool false))]) (h := h) (K := fun v h' => v = .tup [.agg c'.ces, .c (.int .i64 0)] ∧ h' = h1) (by
      simp [cimpl_GiveHear, eimpl_GiveHear_impl_GiveBookOk, eimpl_GiveHear_impl_copyBook, eimpl_GiveHear_impl_GiveBook_at, B, u1, u2, e2, e2', e1, e3, e8, hri.x.slen, hri.x.noLoc, hh.noLoc, hx, a1, he2, a3, hlen1, hlen2, q1, q2, q3, s3, c2, hqn, hh1, St.push, Heap.push])
    rw [e'] at h1'
    have hp1 : ∀ x, x < H.nx → x ≠ qb → h1.hp x = H.hp x := fun x hx hne => by rw [hh1]; simp [upd, hne]
    obtain ⟨fp', nw'⟩ := put h1 ⟨bs[i].name, bs[i].t, .nils⟩ (hearH false b.held[i]) f1 (by rw [hh1]; exact (Chg.one nw.fr.ok (b := qb) a4 _).ok) (by rw [hh1]; exact Nat.le_refl _) (by rw [hh1]; simp [upd]) hp1
      ⟨a5, f1, [], a6.frame fun x hx => hp1 x (hnx x (by simp [hx])) (fun e => a9 (by rw [← e]; simp [hx])), OwnF.nil, by simp⟩
      nd.1 (fun x hx => .inl (by simp [hx]))
    rw [hE]
    exact ⟨_, _, _, h1', nw'⟩
  · obtain ⟨h1, hh1⟩ : ∃ h1 : Heap, h1 = ⟨H.nx, upd (upd H.hp qb (some ⟨fHeld.all (bs.set i ⟨bs[i].name, bs[i].x, bs[i].x⟩), 3, true⟩)) qb (some ⟨fHeld.all (bs.set i ⟨bs[i].name, bs[i].x, .nils⟩), 3, true⟩)⟩ := ⟨_, rfl⟩
    obtain ⟨v, h', h1', rfl, e'⟩ := runF_of (env := eimpl_GiveHear) (code := cimpl_GiveHear) (rs := [.cellN 6 3, .t 7]) (args := [.v (.agg c.ces), .v (.c (.str n)), .v (.c (.bool true))]) (h := h) (K := fun v h' => v = .tup [.agg c'.ces, .c (.int .i64 0)] ∧ h' = h1) (by
      simp [cimpl_GiveHear, eimpl_GiveHear_impl_GiveBookOk, eimpl_GiveHear_impl_copyBook, eimpl_GiveHear_impl_GiveBook_at, B, u1, u2, e2, e2', e1, e3, e8, hri.x.slen, hri.x.noLoc, hh.noLoc, hx, a1, he2, a3, a7.noLoc, hlen1, hlen2, q1, q2, q3, s1, s2, c2, hqn, hh1, St.push, Heap.push])
    rw [e'] at h1'
    have hp1 : ∀ x, x < H.nx → x ≠ qb → h1.hp x = H.hp x := fun x hx hne => by rw [hh1]; simp [upd, hne]
    have cg1 := Chg.one nw.fr.ok (b := qb) a4 (some ⟨fHeld.all (bs.set i ⟨bs[i].name, bs[i].x, bs[i].x⟩), 3, true⟩)
    obtain ⟨fp', nw'⟩ := put h1 ⟨bs[i].name, bs[i].x, .nils⟩ (hearH true b.held[i]) f2 (by rw [hh1]; exact (Chg.one cg1.ok (b := qb) a4 _).ok) (by rw [hh1]; exact Nat.le_refl _) (by rw [hh1]; simp [upd]) hp1
      ⟨a5, f2, [], a7.frame fun x hx => hp1 x (hnx x (by simp [hx])) (fun e => a9 (by rw [← e]; simp [hx])), OwnF.nil, by simp⟩
      nd.2.1 (fun x hx => .inl (by simp [hx]))
    rw [hE]
    exact ⟨_, _, _, h1', nw'⟩

theorem zBook_small : SmallBook zBook := ⟨by simp [zBook], by simp [zBook], by simp [zBook]⟩
theorem SmallBook.put {b : Book} (sm : SmallBook b) (k : Int) {a : Held} (ha : a.tube.length ≤ 1048576 ∧ a.next.length ≤ 1048576) : SmallBook (putB b k a) := by
  refine ⟨sm.f, by simpa [putB] using sm.h, fun x hx => ?_⟩
  rcases List.mem_or_eq_of_mem_set hx with hx | rfl
  · exact sm.t x hx
  · exact ha
theorem SmallBook.at {b : Book} (sm : SmallBook b) (k : Int) : (heldAt b k).tube.length ≤ 1048576 ∧ (heldAt b k).next.length ≤ 1048576 := by
  simp only [heldAt]
  by_cases hk : k.toNat < b.held.length
  · have : b.held.getD k.toNat default = b.held[k.toNat] := by simp [hk]
    rw [this]
    exact sm.t _ (List.getElem_mem hk)
  · have : b.held.getD k.toNat default = default := by simp [hk]
    rw [this]
    exact ⟨by decide, by decide⟩
theorem hearB_small {b : Book} (sm : SmallBook b) (n : ByteArray) (yes : Bool) : SmallBook (hearB b n yes).1 := by
  have s2 := sm.at (atB b.held n)
  simp only [hearB]
  split
  · exact zBook_small
  split
  · exact sm
  split
  · exact sm
  · refine sm.put _ ⟨?_, by simp [hearH]⟩
    simp only [hearH]
    split
    · exact s2.2
    · exact s2.1
end Go.Abs

/-
  Time goes on: what is held is cut.
-/

namespace Go.Abs
set_option linter.unusedSimpArgs false
set_option linter.unusedVariables false
attribute [local simp] AW_skip AW_exit AW_ret AW_seq AW_block AW_cond CW_ite AW_reg AW_regD AW_regDc RD_nil RD_cons keyEq hasP hasH hasL chkL chkH recK recH inRange lightKey BookC.len BookC.take WishC.len WishC.take RW_nil RW_cons RW_guard GW_t GW_f GW_gt GW_gf GW_tup GY_some GY_tt GY_ff gd_t gd_f pk_t pk_f pk_and pk_or pk_andc pk_orc pk_bool gd_gd SW_some ThenQ_normal ThenQ_exit ThenQ_ret BlockQ_normal BlockQ_exit BlockQ_ret kill_nil kill_cons killT_at killL_at upo_some upo_none ev_t ev_k FinQ_ret FinQ_normal upd_eq upd_ne argsT_zero argsT_succ aop.eq_1 aop_pick aop.eq_3 aop.eq_4 aop.eq_5 aop.eq_6 aop.eq_7 aop.eq_8 aop.eq_9 aop.eq_10 aop.eq_11 aop.eq_12 aop.eq_13 aop.eq_14 aop.eq_15 aop.eq_16 aop.eq_17 aop.eq_18 aop.eq_19 aop.eq_20 aop.eq_21 aop_slice_hi aop_slice_lo aop.eq_23 aop.eq_24 aop.eq_26 aop.eq_27 aop.eq_28 aop.eq_29 aop.eq_31 aop.eq_32 aop_maxs2 aop_mins2 aop_mins3 aop_len aop_iaddr Av.bool? Av.ptr? Av.int? Av.int64? Av.str? Av.agg? ressA resA resOf noLoc_int noLoc_bool noLoc_str noLoc_nils noLoc_nilp noLoc_ptrl noLoc_ptrr noLoc_sll noLoc_slr noLoc_fn noLoc_tc noLoc_tagg noLoc_av noLoc_atup ce_c tv_v cells_c cells_agg noLocs keyLoc evs callA St.set St.get unAv binCe killV_int killV_bool killV_str killV_nils killV_nilp killV_agg killV_no killV_tup killV_ptrl killV_ptrr killV_sll killV_slr killV_fn killV_noLoc fillA repl ptrs List.map
attribute [local congr] GY_congr

def tick1 (k : Int) (a : Held) : Option Held :=
  if cutB k a.tube = [] then (if cutB k a.next = [] then none else some ⟨a.name, cutB k a.next, []⟩) else some ⟨a.name, cutB k a.tube, cutB k a.next⟩
def tickL (k : Int) (l : List Held) : List Held := l.filterMap (tick1 k)
def tickB (b : Book) (by_ : Int) : Book × Int :=
  if bookOkB b = false then (zBook, 1) else
  if by_ < 0 ∨ 10000 - b.now < by_ then (b, 2) else (⟨b.now + by_, b.fields, tickL (b.now + by_) b.held⟩, 0)
theorem tickL_le (k : Int) (l : List Held) : (tickL k l).length ≤ l.length := List.length_filterMap_le _ _
theorem tickL_take (k : Int) (l : List Held) {i : Nat} (hi : i < l.length) : tickL k (l.take (i + 1)) = tickL k (l.take i) ++ (tick1 k l[i]).toList := by
  have e : l.take (i + 1) = l.take i ++ [l[i]] := by rw [List.take_add_one, List.getElem?_eq_getElem hi]; rfl
  rw [e]
  unfold tickL
  rw [List.filterMap_append]
  cases h : tick1 k l[i] <;> simp [h]
theorem tick1_small (k : Int) {a c : Held} (h : tick1 k a = some c) (ha : a.tube.length ≤ 1048576 ∧ a.next.length ≤ 1048576) : c.tube.length ≤ 1048576 ∧ c.next.length ≤ 1048576 := by
  have l1 := cutB_le k a.tube
  have l2 := cutB_le k a.next
  simp only [tick1] at h
  split at h
  · split at h
    · cases h
    · cases h
      exact ⟨by simp only; omega, by simp⟩
  · cases h
    exact ⟨by simp only; omega, by simp only; omega⟩
theorem tickB_small {b : Book} (sm : SmallBook b) (k : Int) : SmallBook (tickB b k).1 := by
  simp only [tickB]
  split
  · exact zBook_small
  split
  · exact sm
  · refine ⟨sm.f, ?_, ?_⟩
    · have := tickL_le (b.now + k) b.held
      have := sm.h
      simp only
      omega
    · intro a ha
      simp only [tickL, List.mem_filterMap] at ha
      obtain ⟨x, hx, h⟩ := ha
      exact tick1_small _ h (sm.t x hx)

/-- What holds while a book ticks. -/
structure Ticking (H0 H : Heap) (k : Int) (l : List Held) (i : Nat) (c7 : Ce) (f7 : List Nat) : Prop where
  fr : Fr H0 H
  own : OwnHeldS H c7 (tickL k (l.take i)) f7
  ge : ∀ x, x ∈ f7 → H0.nx ≤ x
section
variable {H0 H H' : Heap} {k : Int} {l : List Held} {i : Nat} {c7 : Ce} {f7 : List Nat}
theorem Ticking.start (ho : HOk H0) : Ticking H0 (H0.push ⟨[], 3, true⟩) k l 0 (.sl (.inr H0.nx) 0 0 .own) [H0.nx] := by
  refine ⟨Fr.push ho _, ⟨[], [], [H0.nx], .inr ⟨H0.nx, rfl, by simp [Heap.push, upd, Fl.all, fHeld], rfl⟩, rfl, rfl, by simp, rfl, by simp⟩, by simp⟩
theorem Ticking.none (t : Ticking H0 H k l i c7 f7) (hi : i < l.length) (hn : tick1 k l[i] = .none) (f : Fr H H') : Ticking H0 H' k l (i + 1) c7 f7 := by
  refine ⟨t.fr.trans f, ?_, t.ge⟩
  rw [tickL_take k l hi, hn]
  simp only [Option.toList, List.append_nil]
  exact t.own.frame okHeld fun x hx => f.hp x (t.own.lt okHeld t.fr.ok hx)
theorem Ticking.some (t : Ticking H0 H k l i c7 f7) (hl : l.length ≤ 1048576) (hi : i < l.length) {a : Held} (hn : tick1 k l[i] = .some a) (f : Fr H H') {bc : HeldC} {g : List Nat} (hR : OwnHeld H' bc a g) (nd : g.Nodup) (hg : ∀ x, x ∈ g → H.nx ≤ x) :
    ∃ c7' H'' f7', Ticking H0 H'' k l (i + 1) c7' f7' ∧ Fr H0 H'' ∧ ∀ lc t m, lc t = Option.some ⟨[.str bc.name, bc.t, bc.x], 3, true⟩ → appendA ⟨H', lc⟩ 3 c7 (.sl (.inl t) 0 1 m) = Option.some (c7', ⟨H'', lc⟩) := by
  have hlen := tickL_le k (l.take i)
  rw [List.length_take] at hlen
  obtain ⟨c', H'', fp', g1, g2, g3, g4, g5, g6⟩ := OwnS.append1 okHeld t.own t.fr.ok f f.nx hR nd hg (by simp only [lim]; omega)
  have fr : Fr H0 H'' := ⟨Nat.le_trans t.fr.nx (Nat.le_trans f.nx g2), fun x hx => by
    have hxH := Nat.lt_of_lt_of_le hx t.fr.nx
    rw [g4 x (Nat.lt_of_lt_of_le hxH f.nx) (fun hn => by have := t.ge x hn; omega), f.hp x hxH]
    exact t.fr.hp x hx, g3⟩
  refine ⟨c', H'', fp', ⟨fr, ?_, fun x hx => ?_⟩, fr, g6⟩
  · rw [tickL_take k l hi, hn]
    exact g1
  · rcases g5 x hx with hx | hx | hx
    · exact t.ge x hx
    · exact Nat.le_trans t.fr.nx (hg x hx)
    · exact Nat.le_trans t.fr.nx (Nat.le_trans f.nx hx)
theorem Ticking.done {h : Heap} {c' : BookC} {b : Book} {fp : List Nat} (n : New (fun h fp => OwnBook h c' b fp) h H0 fp) (t : Ticking H0 H k b.held b.held.length c7 f7) : ∃ fp', New (fun h fp => OwnBook h ⟨k, c'.f, c7⟩ ⟨k, b.fields, tickL k b.held⟩ fp) h H fp' := by
  obtain ⟨⟨hnow, fF, fH, oF, oH, rfl, hnd⟩, fr, ge⟩ := n
  have ow := t.own
  rw [List.take_length] at ow
  have hlt : ∀ x, x ∈ fF → x < H0.nx := fun x hx => oF.lt fr.ok hx
  refine ⟨fF ++ f7, ⟨⟨rfl, fF, f7, oF.frame fun x hx => t.fr.hp x (hlt x hx), ow, rfl, ?_⟩, fr.trans t.fr, fun x hx => ?_⟩⟩
  · rw [List.nodup_append]
    refine ⟨oF.nodup, ow.nodup, fun x hx y hy e => ?_⟩
    have := hlt x hx
    have := t.ge y hy
    omega
  · rw [List.mem_append] at hx
    rcases hx with hx | hx
    · exact ge x (by simp [hx])
    · exact Nat.le_trans fr.nx (t.ge x hx)
end

theorem New.after {O : Heap → List Nat → Prop} {h H h' : Heap} {fp : List Nat} (f : Fr h H) (n : New O H h' fp) : New O h h' fp := ⟨n.own, f.trans n.fr, fun b hb => Nat.le_trans f.nx (n.ge b hb)⟩
theorem bookOkB_now {b : Book} (h : bookOkB b = true) : 0 ≤ b.now ∧ b.now ≤ 10000 := by
  simp only [bookOkB, inB, Bool.and_eq_true, decide_eq_true_eq] at h
  exact h.1.1.1

theorem spec_GiveTick {S : Nat → Prop} (h : Heap) (c : BookC) (b : Book) (d : Int) (ho : HOk h) (hr : RdBook S h c b) (hw : BookWf b) (sm : SmallBook b) :
    ∃ (c' : BookC) (h' : Heap) (fp : List Nat), Fspec_GiveTick [.v (.agg c.ces), .v (.c (.int .i64 d))] h = some (.tup [.agg c'.ces, .c (.int .i64 (tickB b d).2)], h') ∧ New (fun h fp => OwnBook h c' (tickB b d).1 fp) h h' fp := by
  unfold Fspec_GiveTick
  have B := spec_GiveBookOk h c b hr hw
  have hfl := hr.f.noLoc
  cases hb : bookOkB b
  · rw [hb] at B
    obtain ⟨v, h', h1, rfl, rfl⟩ := runF_of (env := espec_GiveTick) (code := cspec_GiveTick) (rs := [.cellN 4 3, .t 5]) (args := [.v (.agg c.ces), .v (.c (.int .i64 d))]) (h := h) (K := fun v h' => v = .tup [.agg (⟨0, .nils, .nils⟩ : BookC).ces, .c (.int .i64 1)] ∧ h' = h) (by
      simp [cspec_GiveTick, espec_GiveTick_spec_GiveBookOk, B]
      rfl)
    simp only [tickB, hb, if_pos]
    exact ⟨_, _, _, h1, New.zBook ho⟩
  rw [hb] at B
  obtain ⟨n1, n2⟩ := bookOkB_now hb
  obtain ⟨c', H, fp, u1, nw⟩ := spec_l2Copy h c b ho hr sm
  obtain ⟨nl1, nl2⟩ := nw.own.nl
  have e0 : c.ces[0]? = some (.int .i64 b.now) := by rw [← hr.now]; rfl
  by_cases bad : d < 0 ∨ 10000 - b.now < d
  · obtain ⟨v, h', h1, rfl, rfl⟩ := runF_of (env := espec_GiveTick) (code := cspec_GiveTick) (rs := [.cellN 4 3, .t 5]) (args := [.v (.agg c.ces), .v (.c (.int .i64 d))]) (h := h) (K := fun v h' => v = .tup [.agg c'.ces, .c (.int .i64 2)] ∧ h' = H) (by
      by_cases b1 : d < 0
      · simp [cspec_GiveTick, espec_GiveTick_spec_GiveBookOk, espec_GiveTick_spec_l2Copy, B, u1, e0, b1]
      by_cases b2 : 10000 < d
      · simp [cspec_GiveTick, espec_GiveTick_spec_GiveBookOk, espec_GiveTick_spec_l2Copy, B, u1, e0, b1, b2]
      have hw : IntKind.i64.wrap (b.now + d) = b.now + d := wrap_i64 (by omega) (by omega)
      have b3 : 10000 < b.now + d := by omega
      simp [cspec_GiveTick, espec_GiveTick_spec_GiveBookOk, espec_GiveTick_spec_l2Copy, B, u1, e0, b1, b2, hw, b3])
    rw [show tickB b d = (b, 2) by simp [tickB, hb, bad]]
    exact ⟨_, _, _, h1, nw⟩
  have b1 : ¬ d < 0 := fun k => bad (.inl k)
  have b2 : ¬ 10000 < d := fun k => bad (.inr (by omega))
  have b3 : ¬ 10000 < b.now + d := fun k => bad (.inr (by omega))
  have hw : IntKind.i64.wrap (b.now + d) = b.now + d := wrap_i64 (by omega) (by omega)
  obtain ⟨k, hk⟩ : ∃ k, k = b.now + d := ⟨_, rfl⟩
  rw [← hk] at hw b3
  have hnow' : c'.now = b.now := nw.own.now
  obtain ⟨hs, hh, hlen, hel⟩ := (nw.own.rd (S := fun _ => True) sm (fun _ _ => trivial)).hd
  have q0 : c'.ces = [.int .i64 b.now, c'.f, c'.hd] := by rw [← hnow']; rfl
  have hl := sm.h
  have T0 := Ticking.start (k := k) (l := b.held) nw.fr.ok
  have e1 : (⟨k, c'.f, c'.hd⟩ : BookC).ces = [.int .i64 k, c'.f, c'.hd] := rfl
  obtain ⟨v, h', h1, c2, fp2, rfl, nw2⟩ := runF_of (env := espec_GiveTick) (code := cspec_GiveTick) (rs := [.cellN 4 3, .t 5]) (args := [.v (.agg c.ces), .v (.c (.int .i64 d))]) (h := h) (K := fun v h' => ∃ (c2 : BookC) (fp2 : List Nat), v = .tup [.agg c2.ces, .c (.int .i64 0)] ∧ New (fun h fp => OwnBook h c2 ⟨k, b.fields, tickL k b.held⟩ fp) h h' fp2) (by
    simp [cspec_GiveTick, espec_GiveTick_spec_GiveBookOk, espec_GiveTick_spec_l2Copy, B, u1, e0, b1, b2, b3, hw, q0, ← hk, St.push, nl1, nl2]
    refine AW_each hs.length (fun i x => x.1 4 = .v (.c (.ptr (.inl 4) 0)) ∧ x.1 6 = .v (.c (.ptr (.inl 6) 0)) ∧ x.1 8 = .v (.c (.int .i64 i)) ∧ x.2.lc 4 = some ⟨[.int .i64 0, .nils, .nils], 3, true⟩ ∧ x.2.lc 6 = some ⟨[.int .i64 k, c'.f, c'.hd], 3, true⟩ ∧ ∃ c7 f7, x.1 7 = .v (.c c7) ∧ Ticking H x.2.h k b.held i c7 f7) ?_ ?_ ?_
    · simp
      exact ⟨_, T0⟩
    · rintro i ⟨T, ⟨H', lc⟩⟩ hin ⟨t4, t6, t8, l4, l6, c7, f7, t7, tk⟩
      simp only at t4 t6 t7 t8 l4 l6 tk
      have hil : i < b.held.length := by omega
      have frt := tk.fr
      obtain ⟨eb, ep, er, g1, _, g2, g3, g4, g5, g6, g7⟩ := (hh.keep nw.fr.ok frt).heldc hin
      have hri := (hel i hin hil).keep nw.fr.ok frt
      rw [hri.name] at g4 g5
      obtain ⟨s1, s2⟩ := sm.t _ (List.getElem_mem hil)
      obtain ⟨t', H1, f1, u2, m1⟩ := spec_GiveCut H' hs[i].t b.held[i].tube k frt.ok hri.t s1
      obtain ⟨x', H2, f2, u3, m2⟩ := spec_GiveCut H1 hs[i].x b.held[i].next k m1.fr.ok (hri.x.keep frt.ok m1.fr) s2
      have f12 := m1.fr.trans m2.fr
      have o1 := m1.own.chg m1.fr.ok (Fr.chg (fp := []) m2.fr) (by simp)
      have hw' := wrap1 (i := i) (by omega)
      by_cases z1 : cutB k b.held[i].tube = []
      · by_cases z2 : cutB k b.held[i].next = []
        · have tn : tick1 k b.held[i] = none := by simp [tick1, z1, z2]
          simp [cspec_GiveTick_L0, t4, t6, t7, t8, l4, l6, hh.slen, hh.noLoc, hin, g1, g2, g3, g4, hri.t.noLoc, hri.x.noLoc, m1.own.noLoc, m2.own.noLoc, m1.own.slen, m2.own.slen, z1, z2, espec_GiveTick_spec_GiveCut, u2, u3, hw', tk.own.noLoc, St.push]
          exact ⟨_, tk.none hil tn (f12.trans (Fr.push m2.fr.ok _))⟩
        · have tn : tick1 k b.held[i] = some ⟨b.held[i].name, cutB k b.held[i].next, []⟩ := by simp [tick1, z1, z2]
          have hR : OwnHeld (H2.push ⟨[], 6, true⟩) ⟨b.held[i].name, x', .sl (.inr H2.nx) 0 0 .own⟩ ⟨b.held[i].name, cutB k b.held[i].next, []⟩ (f2 ++ [H2.nx]) :=
            ⟨rfl, f2, [H2.nx], m2.own.chg m2.fr.ok (Fr.chg (fp := []) (Fr.push m2.fr.ok _)) (by simp), .inr ⟨H2.nx, rfl, by simp [Heap.push, upd, Fl.all, fBox], rfl⟩, rfl⟩
          obtain ⟨c7', H'', f7', tk', fr', ap⟩ := tk.some hl hil tn (f12.trans (Fr.push m2.fr.ok ⟨[], 6, true⟩)) hR (List.nodup_append.2 ⟨m2.own.nodup, by simp, fun x hx y hy e => by
            simp at hy
            have := m2.own.lt m2.fr.ok hx
            omega⟩) (fun x hx => by
            have := m1.fr.nx
            have := m2.fr.nx
            rw [List.mem_append] at hx
            rcases hx with hx | hx
            · have := m2.ge x hx; omega
            · simp at hx; omega)
          have z3 : 0 < (cutB k b.held[i].next).length := List.length_pos_iff.2 z2
          simp [cspec_GiveTick_L0, t4, t6, t7, t8, l4, l6, hh.slen, hh.noLoc, hin, g1, g2, g3, g4, hri.t.noLoc, hri.x.noLoc, m1.own.noLoc, m2.own.noLoc, m1.own.slen, m2.own.slen, z1, z2, z3, espec_GiveTick_spec_GiveCut, u2, u3, hw', tk.own.noLoc, tk'.own.noLoc, St.push, ap]
          exact ⟨_, tk'⟩
      · have tn : tick1 k b.held[i] = some ⟨b.held[i].name, cutB k b.held[i].tube, cutB k b.held[i].next⟩ := by simp [tick1, z1]
        have hR : OwnHeld H2 ⟨b.held[i].name, t', x'⟩ ⟨b.held[i].name, cutB k b.held[i].tube, cutB k b.held[i].next⟩ (f1 ++ f2) := ⟨rfl, f1, f2, o1, m2.own, rfl⟩
        obtain ⟨c7', H'', f7', tk', fr', ap⟩ := tk.some hl hil tn f12 hR (List.nodup_append.2 ⟨m1.own.nodup, m2.own.nodup, fun x hx y hy e => by
          have := m1.own.lt m1.fr.ok hx
          have := m2.ge y hy
          omega⟩) (fun x hx => by
          have := m1.fr.nx
          rw [List.mem_append] at hx
          rcases hx with hx | hx
          · exact m1.ge x hx
          · have := m2.ge x hx; omega)
        have z3 : 0 < (cutB k b.held[i].tube).length := List.length_pos_iff.2 z1
        simp [cspec_GiveTick_L0, t4, t6, t7, t8, l4, l6, hh.slen, hh.noLoc, hin, g1, g2, g3, g4, hri.t.noLoc, hri.x.noLoc, m1.own.noLoc, m2.own.noLoc, m1.own.slen, m2.own.slen, z1, z3, espec_GiveTick_spec_GiveCut, u2, u3, hw', tk.own.noLoc, tk'.own.noLoc, St.push, ap]
        exact ⟨_, tk'⟩
    · rintro ⟨T, ⟨H', lc⟩⟩ ⟨t4, t6, t8, l4, l6, c7, f7, t7, tk⟩
      simp only at t4 t6 t7 t8 l4 l6 tk
      rw [hlen] at tk
      obtain ⟨fp', nw'⟩ := tk.done nw
      have sm' : SmallBook ⟨k, b.fields, tickL k b.held⟩ := by
        have := tickB_small sm d
        rwa [show tickB b d = (⟨k, b.fields, tickL k b.held⟩, 0) by simp [tickB, hb, bad, hk]] at this
      obtain ⟨c2, H2, fp2, u2, nw2⟩ := spec_l2Copy H' ⟨k, c'.f, c7⟩ _ nw'.fr.ok (nw'.own.rd (S := fun _ => True) sm' (fun _ _ => trivial)) sm'
      rw [show (⟨k, c'.f, c7⟩ : BookC).ces = [.int .i64 k, c'.f, c7] from rfl] at u2
      have q2 : c2.ces = [.int .i64 c2.now, c2.f, c2.hd] := rfl
      obtain ⟨nl3, nl4⟩ := nw2.own.nl
      simp [cspec_GiveTick_L0, t4, t6, t7, t8, l4, l6, hh.slen, hh.noLoc, espec_GiveTick_spec_l2Copy, u2, tk.own.noLoc, nl1]
      exact ⟨_, rfl, _, New.after nw'.fr nw2⟩)
  rw [show tickB b d = (⟨k, b.fields, tickL k b.held⟩, 0) by simp [tickB, hb, bad, hk]]
  exact ⟨_, _, _, h1, nw2⟩
theorem impl_GiveTick {S : Nat → Prop} (h : Heap) (c : BookC) (b : Book) (d : Int) (ho : HOk h) (hr : RdBook S h c b) (hw : BookWf b) (sm : SmallBook b) :
    ∃ (c' : BookC) (h' : Heap) (fp : List Nat), Fimpl_GiveTick [.v (.agg c.ces), .v (.c (.int .i64 d))] h = some (.tup [.agg c'.ces, .c (.int .i64 (tickB b d).2)], h') ∧ New (fun h fp => OwnBook h c' (tickB b d).1 fp) h h' fp := by
  unfold Fimpl_GiveTick
  have B := impl_GiveBookOk h c b hr hw
  have hfl := hr.f.noLoc
  cases hb : bookOkB b
  · rw [hb] at B
    obtain ⟨v, h', h1, rfl, rfl⟩ := runF_of (env := eimpl_GiveTick) (code := cimpl_GiveTick) (rs := [.cellN 4 3, .t 5]) (args := [.v (.agg c.ces), .v (.c (.int .i64 d))]) (h := h) (K := fun v h' => v = .tup [.agg (⟨0, .nils, .nils⟩ : BookC).ces, .c (.int .i64 1)] ∧ h' = h) (by
      simp [cimpl_GiveTick, eimpl_GiveTick_impl_GiveBookOk, B]
      rfl)
    simp only [tickB, hb, if_pos]
    exact ⟨_, _, _, h1, New.zBook ho⟩
  rw [hb] at B
  obtain ⟨n1, n2⟩ := bookOkB_now hb
  obtain ⟨c', H, fp, u1, nw⟩ := impl_copyBook h c b ho hr sm
  obtain ⟨nl1, nl2⟩ := nw.own.nl
  have e0 : c.ces[0]? = some (.int .i64 b.now) := by rw [← hr.now]; rfl
  by_cases bad : d < 0 ∨ 10000 - b.now < d
  · obtain ⟨v, h', h1, rfl, rfl⟩ := runF_of (env := eimpl_GiveTick) (code := cimpl_GiveTick) (rs := [.cellN 4 3, .t 5]) (args := [.v (.agg c.ces), .v (.c (.int .i64 d))]) (h := h) (K := fun v h' => v = .tup [.agg c'.ces, .c (.int .i64 2)] ∧ h' = H) (by
      by_cases b1 : d < 0
      · simp [cimpl_GiveTick, eimpl_GiveTick_impl_GiveBookOk, eimpl_GiveTick_impl_copyBook, B, u1, e0, b1]
      have hw : IntKind.i64.wrap (10000 - b.now) = 10000 - b.now := wrap_i64 (by omega) (by omega)
      have b3 : 10000 - b.now < d := by omega
      simp [cimpl_GiveTick, eimpl_GiveTick_impl_GiveBookOk, eimpl_GiveTick_impl_copyBook, B, u1, e0, b1, hw, b3])
    rw [show tickB b d = (b, 2) by simp [tickB, hb, bad]]
    exact ⟨_, _, _, h1, nw⟩
  have b1 : ¬ d < 0 := fun k => bad (.inl k)
  have b3 : ¬ 10000 - b.now < d := fun k => bad (.inr (by omega))
  have hw0 : IntKind.i64.wrap (10000 - b.now) = 10000 - b.now := wrap_i64 (by omega) (by omega)
  have hw : IntKind.i64.wrap (b.now + d) = b.now + d := wrap_i64 (by omega) (by omega)
  obtain ⟨k, hk⟩ : ∃ k, k = b.now + d := ⟨_, rfl⟩
  rw [← hk] at hw
  have hnow' : c'.now = b.now := nw.own.now
  obtain ⟨hs, hh, hlen, hel⟩ := (nw.own.rd (S := fun _ => True) sm (fun _ _ => trivial)).hd
  have q0 : c'.ces = [.int .i64 b.now, c'.f, c'.hd] := by rw [← hnow']; rfl
  have hl := sm.h
  have T0 := Ticking.start (k := k) (l := b.held) nw.fr.ok
  have e1 : (⟨k, c'.f, c'.hd⟩ : BookC).ces = [.int .i64 k, c'.f, c'.hd] := rfl
  obtain ⟨v, h', h1, c2, fp2, rfl, nw2⟩ := runF_of (env := eimpl_GiveTick) (code := cimpl_GiveTick) (rs := [.cellN 4 3, .t 5]) (args := [.v (.agg c.ces), .v (.c (.int .i64 d))]) (h := h) (K := fun v h' => ∃ (c2 : BookC) (fp2 : List Nat), v = .tup [.agg c2.ces, .c (.int .i64 0)] ∧ New (fun h fp => OwnBook h c2 ⟨k, b.fields, tickL k b.held⟩ fp) h h' fp2) (by
    simp [cimpl_GiveTick, eimpl_GiveTick_impl_GiveBookOk, eimpl_GiveTick_impl_copyBook, B, u1, e0, b1, b3, hw0, hw, q0, ← hk, St.push, nl1, nl2, hh.slen]
    refine AW_each hs.length (fun i x => x.1 4 = .v (.c (.ptr (.inl 4) 0)) ∧ x.1 6 = .v (.c (.ptr (.inl 6) 0)) ∧ x.1 33 = .v (.c c'.hd) ∧ x.1 34 = .v (.c (.int .i64 hs.length)) ∧ x.1 35 = .v (.c (.int .i64 i)) ∧ x.2.lc 4 = some ⟨[.int .i64 0, .nils, .nils], 3, true⟩ ∧ x.2.lc 6 = some ⟨[.int .i64 k, c'.f, c'.hd], 3, true⟩ ∧ ∃ c7 f7, x.1 7 = .v (.c c7) ∧ Ticking H x.2.h k b.held i c7 f7) ?_ ?_ ?_
    · simp
      exact ⟨_, T0⟩
    · rintro i ⟨T, ⟨H', lc⟩⟩ hin ⟨t4, t6, t33, t34, t35, l4, l6, c7, f7, t7, tk⟩
      simp only at t4 t6 t7 t33 t34 t35 l4 l6 tk
      have hil : i < b.held.length := by omega
      have frt := tk.fr
      obtain ⟨eb, ep, er, g1, _, g2, g3, g4, g5, g6, g7⟩ := (hh.keep nw.fr.ok frt).heldc hin
      have hri := (hel i hin hil).keep nw.fr.ok frt
      rw [hri.name] at g4 g5
      obtain ⟨s1, s2⟩ := sm.t _ (List.getElem_mem hil)
      obtain ⟨t', H1, f1, u2, m1⟩ := impl_GiveCut H' hs[i].t b.held[i].tube k frt.ok hri.t s1
      obtain ⟨x', H2, f2, u3, m2⟩ := impl_GiveCut H1 hs[i].x b.held[i].next k m1.fr.ok (hri.x.keep frt.ok m1.fr) s2
      have f12 := m1.fr.trans m2.fr
      have o1 := m1.own.chg m1.fr.ok (Fr.chg (fp := []) m2.fr) (by simp)
      have hw' := wrap1 (i := i) (by omega)
      by_cases z1 : cutB k b.held[i].tube = []
      · by_cases z2 : cutB k b.held[i].next = []
        · have tn : tick1 k b.held[i] = none := by simp [tick1, z1, z2]
          simp [cimpl_GiveTick_L0, t4, t6, t7, t33, t34, t35, l4, l6, hh.slen, hh.noLoc, hin, g1, g2, g3, g4, hri.t.noLoc, hri.x.noLoc, m1.own.noLoc, m2.own.noLoc, m1.own.slen, m2.own.slen, z1, z2, eimpl_GiveTick_impl_GiveCut, u2, u3, hw', tk.own.noLoc, St.push]
          exact ⟨_, tk.none hil tn f12⟩
        · have tn : tick1 k b.held[i] = some ⟨b.held[i].name, cutB k b.held[i].next, []⟩ := by simp [tick1, z1, z2]
          have hR : OwnHeld H2 ⟨b.held[i].name, x', .nils⟩ ⟨b.held[i].name, cutB k b.held[i].next, []⟩ f2 :=
            ⟨rfl, f2, [], m2.own, OwnF.nil, by simp⟩
          obtain ⟨c7', H'', f7', tk', fr', ap⟩ := tk.some hl hil tn f12 hR m2.own.nodup (fun x hx => by
            have := m1.fr.nx
            have := m2.ge x hx
            omega)
          have z3 : 0 < (cutB k b.held[i].next).length := List.length_pos_iff.2 z2
          simp [cimpl_GiveTick_L0, t4, t6, t7, t33, t34, t35, l4, l6, hh.slen, hh.noLoc, hin, g1, g2, g3, g4, hri.t.noLoc, hri.x.noLoc, m1.own.noLoc, m2.own.noLoc, m1.own.slen, m2.own.slen, z1, z2, z3, eimpl_GiveTick_impl_GiveCut, u2, u3, hw', tk.own.noLoc, tk'.own.noLoc, St.push, ap]
          exact ⟨_, tk'⟩
      · have tn : tick1 k b.held[i] = some ⟨b.held[i].name, cutB k b.held[i].tube, cutB k b.held[i].next⟩ := by simp [tick1, z1]
        have hR : OwnHeld H2 ⟨b.held[i].name, t', x'⟩ ⟨b.held[i].name, cutB k b.held[i].tube, cutB k b.held[i].next⟩ (f1 ++ f2) := ⟨rfl, f1, f2, o1, m2.own, rfl⟩
        obtain ⟨c7', H'', f7', tk', fr', ap⟩ := tk.some hl hil tn f12 hR (List.nodup_append.2 ⟨m1.own.nodup, m2.own.nodup, fun x hx y hy e => by
          have := m1.own.lt m1.fr.ok hx
          have := m2.ge y hy
          omega⟩) (fun x hx => by
          have := m1.fr.nx
          rw [List.mem_append] at hx
          rcases hx with hx | hx
          · exact m1.ge x hx
          · have := m2.ge x hx; omega)
        have z3 : 0 < (cutB k b.held[i].tube).length := List.length_pos_iff.2 z1
        simp [cimpl_GiveTick_L0, t4, t6, t7, t33, t34, t35, l4, l6, hh.slen, hh.noLoc, hin, g1, g2, g3, g4, hri.t.noLoc, hri.x.noLoc, m1.own.noLoc, m2.own.noLoc, m1.own.slen, m2.own.slen, z1, z3, eimpl_GiveTick_impl_GiveCut, u2, u3, hw', tk.own.noLoc, tk'.own.noLoc, St.push, ap]
        exact ⟨_, tk'⟩
    · rintro ⟨T, ⟨H', lc⟩⟩ ⟨t4, t6, t33, t34, t35, l4, l6, c7, f7, t7, tk⟩
      simp only at t4 t6 t7 t33 t34 t35 l4 l6 tk
      rw [hlen] at tk
      obtain ⟨fp', nw'⟩ := tk.done nw
      have sm' : SmallBook ⟨k, b.fields, tickL k b.held⟩ := by
        have := tickB_small sm d
        rwa [show tickB b d = (⟨k, b.fields, tickL k b.held⟩, 0) by simp [tickB, hb, bad, hk]] at this
      simp [cimpl_GiveTick_L0, t4, t6, t7, t33, t34, t35, l4, l6, hh.slen, hh.noLoc, tk.own.noLoc, nl1]
      exact ⟨⟨k, c'.f, c7⟩, rfl, _, nw'⟩)
  rw [show tickB b d = (⟨k, b.fields, tickL k b.held⟩, 0) by simp [tickB, hb, bad, hk]]
  exact ⟨_, _, _, h1, nw2⟩
end Go.Abs

/-
  The exact law of GiveTick, over what its functions compute.
-/

namespace Go.Abs
set_option linter.unusedSimpArgs false
set_option linter.unusedVariables false
attribute [local simp] AW_skip AW_exit AW_ret AW_seq AW_block AW_cond CW_ite AW_reg AW_regD AW_regDc RD_nil RD_cons keyEq hasP hasH hasL chkL chkH recK recH inRange lightKey BookC.len BookC.take WishC.len WishC.take RW_nil RW_cons RW_guard GW_t GW_f GW_gt GW_gf GW_tup GY_some GY_tt GY_ff gd_t gd_f pk_t pk_f pk_and pk_or pk_andc pk_orc pk_bool gd_gd SW_some ThenQ_normal ThenQ_exit ThenQ_ret BlockQ_normal BlockQ_exit BlockQ_ret kill_nil kill_cons killT_at killL_at upo_some upo_none ev_t ev_k FinQ_ret FinQ_normal upd_eq upd_ne argsT_zero argsT_succ aop.eq_1 aop_pick aop.eq_3 aop.eq_4 aop.eq_5 aop.eq_6 aop.eq_7 aop.eq_8 aop.eq_9 aop.eq_10 aop.eq_11 aop.eq_12 aop.eq_13 aop.eq_14 aop.eq_15 aop.eq_16 aop.eq_17 aop.eq_18 aop.eq_19 aop.eq_20 aop.eq_21 aop_slice_hi aop_slice_lo aop.eq_23 aop.eq_24 aop.eq_26 aop.eq_27 aop.eq_28 aop.eq_29 aop.eq_31 aop.eq_32 aop_maxs2 aop_mins2 aop_mins3 aop_len aop_iaddr Av.bool? Av.ptr? Av.int? Av.int64? Av.str? Av.agg? ressA resA resOf noLoc_int noLoc_bool noLoc_str noLoc_nils noLoc_nilp noLoc_ptrl noLoc_ptrr noLoc_sll noLoc_slr noLoc_fn noLoc_tc noLoc_tagg noLoc_av noLoc_atup ce_c tv_v cells_c cells_agg noLocs keyLoc evs callA St.set St.get unAv binCe killV_int killV_bool killV_str killV_nils killV_nilp killV_agg killV_no killV_tup killV_ptrl killV_ptrr killV_sll killV_slr killV_fn killV_noLoc fillA repl ptrs List.map
attribute [local congr] GY_congr


set_option maxRecDepth 100000 in
theorem laws_FnExactGiveTick (h : Heap) (cb : BookC) (b : Book) (d : Int) (ho : HOk h) (rb : RdBook (fun b => b < h.nx) h cb b ∧ BookWf b) (kd : -9223372036854775808 ≤ d ∧ d ≤ 9223372036854775807) :
    ∃ h', Flaws_FnExactGiveTick [.v (.agg cb.ces), .v (.c (.int .i64 d))] h = some (.v (.c (.bool true)), h') := by
  unfold Flaws_FnExactGiveTick
  obtain ⟨rb, wb⟩ := rb
  obtain ⟨qb, sb, leb, smb⟩ := laws_szGiveBook h cb b 1048576 rb wb (by omega)
  rcases leb with rfl | leb
  · refine ⟨_, runF_eq (h' := h) ?_⟩
    simp [claws_FnExactGiveTick, elaws_FnExactGiveTick_laws_szGiveBook, sb]
  have nb : ¬ qb < 0 := by omega
  replace smb := smb leb.1
  obtain ⟨c1, h2, fpc1, t3, m4⟩ := toBook' h cb b ho rb smb
  have f5 := m4.fr
  have nx1 := f5.nx
  have gec1 : ∀ x0, x0 ∈ fpc1 → h.nx ≤ x0 := m4.ge
  have ltc1 : ∀ x0, x0 ∈ fpc1 → x0 < h2.nx := fun x0 hb => OwnBook.lt (m4.own : OwnBook h2 c1 b fpc1) f5.ok hb
  have o6 : OwnBook h2 c1 b fpc1 := m4.own
  have bnd := (tickB_small smb d)
  obtain ⟨w, h8, fpw, t9, m10⟩ := spec_GiveTick h2 _ _ d f5.ok (o6.rd (S := fun x0 => x0 ∈ fpc1) smb (fun x0 hb => hb)) wb smb
  have f11 := m10.fr
  have nx2 := f11.nx
  have o12 : OwnBook h8 w (tickB b d).1 fpw := m10.own
  have gew : ∀ x0, x0 ∈ fpw → h2.nx ≤ x0 := m10.ge
  have ltw : ∀ x0, x0 ∈ fpw → x0 < h8.nx := fun x0 hb => OwnBook.lt o12 f11.ok hb
  have b13 := rb.keep ho f5
  have b14 := b13.keep f5.ok f11
  obtain ⟨c15, h16, fpc15, t17, m18⟩ := toBook' h8 cb b f11.ok b14 smb
  have f19 := m18.fr
  have nx3 := f19.nx
  have gec15 : ∀ x0, x0 ∈ fpc15 → h8.nx ≤ x0 := m18.ge
  have ltc15 : ∀ x0, x0 ∈ fpc15 → x0 < h16.nx := fun x0 hb => OwnBook.lt (m18.own : OwnBook h16 c15 b fpc15) f19.ok hb
  have o20 : OwnBook h16 c15 b fpc15 := m18.own
  obtain ⟨g, h22, fpg, t23, m24⟩ := impl_GiveTick h16 _ _ d f19.ok (o20.rd (S := fun x0 => x0 ∈ fpc15) smb (fun x0 hb => hb)) wb smb
  have f25 := m24.fr
  have nx4 := f25.nx
  have o26 : OwnBook h22 g (tickB b d).1 fpg := m24.own
  have geg : ∀ x0, x0 ∈ fpg → h16.nx ≤ x0 := m24.ge
  have ltg : ∀ x0, x0 ∈ fpg → x0 < h22.nx := fun x0 hb => OwnBook.lt o26 f25.ok hb
  have b27 := o12.chg f11.ok (Fr.chg (fp := []) f19) (by simp)
  have b28 := b27.chg f19.ok (Fr.chg (fp := []) f25) (by simp)
  obtain ⟨q30, e29, z31⟩ := laws_eqGiveBook h22 g w _ _ (o26.rd (S := fun x0 => x0 ∈ fpg) bnd (fun x0 hb => hb)) (b28.rd (S := fun x0 => x0 ∈ fpw) bnd (fun x0 hb => hb))
  obtain rfl := z31.2 rfl
  have b32 := b14.keep f11.ok f19
  have b33 := b32.keep f19.ok f25
  obtain ⟨c34, h35, fpc34, t36, m37⟩ := toBook' h22 cb b f25.ok b33 smb
  have f38 := m37.fr
  have nx5 := f38.nx
  have gec34 : ∀ x0, x0 ∈ fpc34 → h22.nx ≤ x0 := m37.ge
  have ltc34 : ∀ x0, x0 ∈ fpc34 → x0 < h35.nx := fun x0 hb => OwnBook.lt (m37.own : OwnBook h35 c34 b fpc34) f38.ok hb
  have o39 : OwnBook h35 c34 b fpc34 := m37.own
  have b40 := o20.chg f19.ok (Fr.chg (fp := []) f25) (by simp)
  have b41 := b40.chg f25.ok (Fr.chg (fp := []) f38) (by simp)
  obtain ⟨q43, e42, z44⟩ := laws_eqGiveBook h35 c15 c34 _ _ (b41.rd (S := fun x0 => x0 ∈ fpc15) smb (fun x0 hb => hb)) (o39.rd (S := fun x0 => x0 ∈ fpc34) smb (fun x0 hb => hb))
  obtain rfl := z44.2 rfl
  have cbb := cntBook_le smb
  obtain ⟨h48, t45, o46, d47⟩ := laws_markGiveBook h35 c15 b fpc15 (1) f38.ok b41 smb (by omega)
  have nx6 := d47.nx
  have nk : ¬ (1 + cntBook b) < 0 := by omega
  have b49 := o26.chg f25.ok (Fr.chg (fp := []) f38) (by simp)
  have b50 := b49.chg f38.ok d47 (by
    intro x0 hb hn
    have i1 := gec15 x0 hn
    have i2 := ltc15 x0 hn
    have i3 := geg x0 hb
    have i4 := ltg x0 hb
    omega)
  have b51 := b28.chg f25.ok (Fr.chg (fp := []) f38) (by simp)
  have b52 := b51.chg f38.ok d47 (by
    intro x0 hb hn
    have i1 := gec15 x0 hn
    have i2 := ltc15 x0 hn
    have i3 := gew x0 hb
    have i4 := ltw x0 hb
    omega)
  obtain ⟨q54, e53, z55⟩ := laws_eqGiveBook h48 g w _ _ (b50.rd (S := fun x0 => x0 ∈ fpg) bnd (fun x0 hb => hb)) (b52.rd (S := fun x0 => x0 ∈ fpw) bnd (fun x0 hb => hb))
  obtain rfl := z55.2 rfl
  have cmp1 := ()
  have cg := cntBook_le bnd
  obtain ⟨h59, t56, o57, d58⟩ := laws_markGiveBook h48 g (tickB b d).1 fpg 1 d47.ok b50 bnd (by omega)
  have nx7 := d58.nx
  have nm : ¬ (1 + cntBook (tickB b d).1) < 0 := by omega
  obtain ⟨h61, u60, f62⟩ := laws_heldGiveBook h59 g (tickB b d).1 1 d58.ok (o57.rd (S := fun x0 => x0 ∈ fpg) (marksBook_small bnd) (fun x0 hb => hb)) bnd (by omega)
  have nx8 := f62.nx
  have b63 := b33.keep f25.ok f38
  have b64 := b63.chg f38.ok d47 (by
    intro x0 hb hn
    have i1 := gec15 x0 hn
    have i2 := ltc15 x0 hn
    replace hb : x0 < h.nx := hb
    omega)
  have b65 := b64.chg d47.ok d58 (by
    intro x0 hb hn
    have i1 := geg x0 hn
    have i2 := ltg x0 hn
    replace hb : x0 < h.nx := hb
    omega)
  have b66 := b65.keep d58.ok f62
  obtain ⟨c67, h68, fpc67, t69, m70⟩ := toBook' h61 cb b f62.ok b66 smb
  have f71 := m70.fr
  have nx9 := f71.nx
  have gec67 : ∀ x0, x0 ∈ fpc67 → h61.nx ≤ x0 := m70.ge
  have ltc67 : ∀ x0, x0 ∈ fpc67 → x0 < h68.nx := fun x0 hb => OwnBook.lt (m70.own : OwnBook h68 c67 b fpc67) f71.ok hb
  have o72 : OwnBook h68 c67 b fpc67 := m70.own
  obtain ⟨v, h73, fpv, t74, m75⟩ := impl_GiveTick h68 _ _ d f71.ok (o72.rd (S := fun x0 => x0 ∈ fpc67) smb (fun x0 hb => hb)) wb smb
  have f76 := m75.fr
  have nx10 := f76.nx
  have o77 : OwnBook h73 v (tickB b d).1 fpv := m75.own
  have gev : ∀ x0, x0 ∈ fpv → h68.nx ≤ x0 := m75.ge
  have ltv : ∀ x0, x0 ∈ fpv → x0 < h73.nx := fun x0 hb => OwnBook.lt o77 f76.ok hb
  have b78 := b52.chg d47.ok d58 (by
    intro x0 hb hn
    have i1 := geg x0 hn
    have i2 := ltg x0 hn
    have i3 := gew x0 hb
    have i4 := ltw x0 hb
    omega)
  have b79 := b78.chg d58.ok (Fr.chg (fp := []) f62) (by simp)
  have b80 := b79.chg f62.ok (Fr.chg (fp := []) f71) (by simp)
  have b81 := b80.chg f71.ok (Fr.chg (fp := []) f76) (by simp)
  obtain ⟨q83, e82, z84⟩ := laws_eqGiveBook h73 v w _ _ (o77.rd (S := fun x0 => x0 ∈ fpv) bnd (fun x0 hb => hb)) (b81.rd (S := fun x0 => x0 ∈ fpw) bnd (fun x0 hb => hb))
  obtain rfl := z84.2 rfl
  have b85 := o57.chg d58.ok (Fr.chg (fp := []) f62) (by simp)
  have b86 := b85.chg f62.ok (Fr.chg (fp := []) f71) (by simp)
  have b87 := b86.chg f71.ok (Fr.chg (fp := []) f76) (by simp)
  obtain ⟨h89, u88, f90⟩ := laws_heldGiveBook h73 g (tickB b d).1 1 f76.ok (b87.rd (S := fun x0 => x0 ∈ fpg) (marksBook_small bnd) (fun x0 hb => hb)) bnd (by omega)
  have nx11 := f90.nx
  refine ⟨_, runF_eq (h' := h89) ?_⟩
  simp [claws_FnExactGiveTick, sb, nb, t3, t9, t17, t23, e29, t36, e42, t45, nk, e53, t56, nm, u60, t69, t74, e82, u88, elaws_FnExactGiveTick_impl_GiveTick, elaws_FnExactGiveTick_laws_eqGiveBook, elaws_FnExactGiveTick_laws_heldGiveBook, elaws_FnExactGiveTick_laws_markGiveBook, elaws_FnExactGiveTick_laws_szGiveBook, elaws_FnExactGiveTick_laws_toGiveBook, elaws_FnExactGiveTick_spec_GiveTick]
end Go.Abs
