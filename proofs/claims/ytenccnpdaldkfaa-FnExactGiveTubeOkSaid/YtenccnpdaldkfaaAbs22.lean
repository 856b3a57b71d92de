/-
  An argument's reading, out of the model's world, as the abstract machine has it.
-/
import Derived.Test.YtenccnpdaldkfaaAbs21
import Derived.ChangeShapes
import Derived.OpenShut
import Derived.Deep.Slices
namespace Go.Abs

variable {P : Program} {w : World}

/-- One cell's value, in a world of blocks and offsets below M. -/
def absC (M : Nat) : Value → Option Ce
  | .int k n => some (.int k n)
  | .bool b => some (.bool b)
  | .string s => some (.str s)
  | .slice none 0 0 => some .nils
  | .slice a n c => if n ≤ c then (if n = 0 then some (.sl (.inr 0) 0 0 .any) else match a with
    | some ⟨B, O, none⟩ => if B < M ∧ O < M then some (.sl (.inr (B * M + O)) 0 n .any) else none
    | _ => none) else none
  | _ => none

def absL (M : Nat) : List Value → Option (List Ce)
  | [] => some []
  | v :: r => (absC M v).bind fun c => (absL M r).map (c :: ·)

/-- As many cells as can be told. -/
def absRun (M : Nat) : List Value → List Ce
  | [] => []
  | v :: r => match absC M v with
    | some c => c :: absRun M r
    | none => []

def rowOf (w : World) (M B O : Nat) : Option Row :=
  match w.heap[B]? with
  | some (.cells cs _ _) => if O ≤ cs.size then some ⟨absRun M (cs.toList.drop O), 1, false⟩ else none
  | _ => none

def heapOf (w : World) (M : Nat) : Heap := ⟨M * M, fun b => if b < M * M then rowOf w M (b / M) (b % M) else none⟩
def mapOf (M : Nat) : Mp
  | .inl _ => none
  | .inr b => if b < M * M then some ⟨b / M, b % M, 0⟩ else none

theorem key_lt {M B O : Nat} (hB : B < M) (hO : O < M) : B * M + O < M * M := by
  have : (B + 1) * M ≤ M * M := Nat.mul_le_mul_right M hB
  rw [Nat.add_mul] at this
  omega
theorem key_div {M B O : Nat} (hO : O < M) : (B * M + O) / M = B := by
  rw [Nat.mul_comm, Nat.mul_add_div (by omega)]
  simp [Nat.div_eq_of_lt hO]
theorem key_mod {M B O : Nat} (hO : O < M) : (B * M + O) % M = O := by
  rw [Nat.mul_comm, Nat.mul_add_mod]
  exact Nat.mod_eq_of_lt hO

theorem absC_con {M : Nat} (hM : 0 < M) {v : Value} {c : Ce} (h : absC M v = some c) : ConC (mapOf M) c v ∧ c.noLoc = true := by
  unfold absC at h
  split at h
  · simp only [Option.some.injEq] at h; subst h; exact ⟨rfl, rfl⟩
  · simp only [Option.some.injEq] at h; subst h; exact ⟨rfl, rfl⟩
  · simp only [Option.some.injEq] at h; subst h; exact ⟨rfl, rfl⟩
  · simp only [Option.some.injEq] at h; subst h; exact ⟨rfl, rfl⟩
  · rename_i a n c' _
    split at h
    · rename_i hle
      split at h
      · rename_i hn
        simp only [Option.some.injEq] at h
        subst h hn
        refine ⟨⟨a, c', rfl, hle, ⟨0, 0, 0⟩, ?_, by simp⟩, rfl⟩
        have : 0 < M * M := Nat.mul_pos hM hM
        simp [mapOf, this]
      · split at h
        · rename_i B O _
          split at h
          · rename_i hb
            simp only [Option.some.injEq] at h
            subst h
            refine ⟨⟨_, c', rfl, hle, ⟨B, O, 0⟩, ?_, fun _ => by simp⟩, rfl⟩
            simp only [mapOf]
            rw [if_pos (key_lt hb.1 hb.2), key_div hb.2, key_mod hb.2]
          · simp at h
        · simp at h
    · simp at h
  · simp at h

theorem absRun_con {M : Nat} (hM : 0 < M) : ∀ (l : List Value), ConL (mapOf M) (absRun M l) (l.take (absRun M l).length) ∧ noLocL (absRun M l) ∧ (absRun M l).length ≤ l.length
  | [] => ⟨trivial, trivial, Nat.le_refl _⟩
  | v :: r => by
    unfold absRun
    split
    · rename_i c hc
      obtain ⟨h1, h2, h3⟩ := absRun_con hM r
      obtain ⟨k1, k2⟩ := absC_con hM hc
      exact ⟨⟨k1, h1⟩, ⟨k2, h2⟩, by simpa using h3⟩
    · exact ⟨trivial, trivial, Nat.zero_le _⟩

theorem absRun_of {M : Nat} : ∀ (l : List Value) (n : Nat) (cs : List Ce), absL M (l.take n) = some cs → n ≤ l.length → ∃ r, absRun M l = cs ++ r
  | l, 0, cs, h, _ => by
    simp only [List.take_zero, absL, Option.some.injEq] at h
    subst h
    exact ⟨_, rfl⟩
  | [], n + 1, cs, h, hn => by simp at hn
  | v :: l, n + 1, cs, h, hn => by
    simp only [List.take_succ_cons, absL, Option.bind_eq_some_iff, Option.map_eq_some_iff] at h
    obtain ⟨c, hc, cs', hcs, rfl⟩ := h
    obtain ⟨r, hr⟩ := absRun_of l n cs' hcs (by simpa using hn)
    refine ⟨r, ?_⟩
    unfold absRun
    rw [hc]
    simp [hr]

theorem absL_con {M : Nat} (hM : 0 < M) : ∀ {l : List Value} {cs : List Ce}, absL M l = some cs → ConL (mapOf M) cs l ∧ noLocL cs ∧ cs.length = l.length
  | [], cs, h => by
    simp only [absL, Option.some.injEq] at h
    subst h
    exact ⟨trivial, trivial, rfl⟩
  | v :: r, cs, h => by
    simp only [absL, Option.bind_eq_some_iff, Option.map_eq_some_iff] at h
    obtain ⟨c, hc, cs', hcs, rfl⟩ := h
    obtain ⟨k1, k2⟩ := absC_con hM hc
    obtain ⟨h1, h2, h3⟩ := absL_con hM hcs
    exact ⟨⟨k1, h1⟩, ⟨k2, h2⟩, by simp [h3]⟩

theorem absL_append {M : Nat} : ∀ {a b : List Value} {x y : List Ce}, absL M a = some x → absL M b = some y → absL M (a ++ b) = some (x ++ y)
  | [], b, x, y, h, k => by
    simp only [absL, Option.some.injEq] at h
    subst h
    exact k
  | v :: a, b, x, y, h, k => by
    simp only [absL, Option.bind_eq_some_iff, Option.map_eq_some_iff] at h
    obtain ⟨c, hc, cs', hcs, rfl⟩ := h
    simp [absL, hc, absL_append hcs k]

theorem heapOf_sim {M : Nat} (hM : 0 < M) : Sim (mapOf M) (heapOf w M).get w := by
  refine ⟨?_, ?_⟩
  · intro q pl r hq hr
    cases q with
    | inl k => simp [mapOf] at hq
    | inr b =>
      simp only [mapOf] at hq
      split at hq
      · rename_i hb
        simp only [Option.some.injEq] at hq
        subst hq
        simp only [Heap.get, heapOf] at hr
        rw [if_pos hb] at hr
        unfold rowOf at hr
        split at hr
        · rename_i cs e fr hc
          split at hr
          · rename_i hO
            simp only [Option.some.injEq] at hr
            subst hr
            obtain ⟨h1, h2, h3⟩ := absRun_con hM (cs.toList.drop (b % M))
            refine ⟨cs, e, fr, hc, ?_, h1, h2, fun h => by cases h⟩
            simp only [List.length_drop, Array.length_toList] at h3
            show b % M + (absRun M (cs.toList.drop (b % M))).length ≤ cs.size
            omega
          · simp at hr
        · simp at hr
      · simp at hq
  · intro q q' pl pl' r r' hne hq hq' hr hr' hrw
    exfalso
    cases q with
    | inl k => simp [mapOf] at hq
    | inr b =>
      simp only [Heap.get, heapOf] at hr
      split at hr
      · unfold rowOf at hr
        split at hr
        · split at hr
          · simp only [Option.some.injEq] at hr
            subst hr
            cases hrw
          · simp at hr
        · simp at hr
      · simp at hr

/-- A bound on a world's blocks and offsets. -/
def Big (w : World) (M : Nat) : Prop := 0 < M ∧ w.heap.size ≤ M ∧ ∀ (B : Nat) (cs : Array Value) (e : TypeId) (fr : Nat × Nat), w.heap[B]? = some (.cells cs e fr) → cs.size ≤ M

theorem big_some (w : World) : ∃ M, Big w M := by
  have : ∀ l : List Obj, ∃ M, ∀ o ∈ l, ∀ (cs : Array Value) (e : TypeId) (fr : Nat × Nat), o = .cells cs e fr → cs.size ≤ M := by
    intro l
    induction l with
    | nil => exact ⟨0, fun o h => by simp at h⟩
    | cons o l ih =>
      obtain ⟨M, hM⟩ := ih
      refine ⟨M + (match o with | .cells cs _ _ => cs.size | _ => 0), fun o' ho' cs e fr hc => ?_⟩
      rcases List.mem_cons.1 ho' with h | h
      · subst h
        subst hc
        simp
      · have := hM o' h cs e fr hc
        omega
  obtain ⟨M, hM⟩ := this w.heap.toList
  refine ⟨M + w.heap.size + 1, by omega, by omega, fun B cs e fr h => ?_⟩
  have := hM _ (Array.mem_toList_iff.2 (Array.mem_of_getElem? h)) cs e fr rfl
  omega

/-- A type whose values can be told. -/
structure Cod (P : Program) (t : TypeId) (α : Type) extends Elt α where
  szok : P.cellsOf t = sz
  pos : 0 < sz
  opn : ∀ {H : Type} {enc : TypeId × Value → H} {w : World} {base : Nat} {spare : Nat → Bool} {held : Bool} {fuel : Nat} {cs : List Value} {x : DataW H × List MemPlace} {M : Nat}, Big w M → DataW.trod enc P w base spare held fuel t cs = some x →
    ∃ l a, absL M cs = some l ∧ l.length = sz ∧ rel (heapOf w M) l a

def Cod.int {t : TypeId} (ht : P.underlying t = some (.int .i64)) (hc : P.cellsOf t = 1) : Cod P t Int where
  sz := 1
  rel := fun _ l n => l = [.int .i64 n] ∧ -9223372036854775808 ≤ n ∧ n ≤ 9223372036854775807
  szok := hc
  pos := by decide
  opn := by
    intro H enc w base spare held fuel cs x M _ h
    obtain ⟨n, rfl, _, hw⟩ := DataW.trod_int ht h
    exact ⟨[.int .i64 n], n, rfl, rfl, rfl, bounds_i64 hw⟩

def Cod.bool {t : TypeId} (ht : P.underlying t = some .bool) (hc : P.cellsOf t = 1) : Cod P t Bool where
  sz := 1
  rel := fun _ l n => l = [.bool n]
  szok := hc
  pos := by decide
  opn := by
    intro H enc w base spare held fuel cs x M _ h
    obtain ⟨n, rfl, _⟩ := DataW.trod_bool ht h
    exact ⟨[.bool n], n, rfl, rfl, rfl⟩

def Cod.str {t : TypeId} (ht : P.underlying t = some .string) (hc : P.cellsOf t = 1) : Cod P t ByteArray where
  sz := 1
  rel := fun _ l n => l = [.str n] ∧ n.size ≤ 9223372036854775807
  szok := hc
  pos := by decide
  opn := by
    intro H enc w base spare held fuel cs x M _ h
    obtain ⟨n, rfl, _, hs⟩ := DataW.trod_string ht h
    exact ⟨[.str n], n, rfl, rfl, rfl, by simpa [maxLen] using hs⟩

theorem absC_slice {M B O n c : Nat} (hn : n ≤ c) (h0 : n ≠ 0) (hB : B < M) (hO : O < M) : absC M (.slice (some ⟨B, O, none⟩) n c) = some (.sl (.inr (B * M + O)) 0 n .any) := by
  unfold absC
  simp [hn, h0, hB, hO]
theorem absC_slice0 {M : Nat} {a : Addr} {c : Nat} : absC M (.slice (some a) 0 c) = some (.sl (.inr 0) 0 0 .any) := by
  unfold absC
  simp

theorem absL_all {M : Nat} (D : Nat → Option (List Ce)) (sz : Nat) : ∀ (n : Nat) (l : List Value), l.length = n * sz → (∀ i, i < n → ∃ cs, D i = some cs ∧ cs.length = sz ∧ absL M ((l.drop (i * sz)).take sz) = some cs) →
    ∃ all, absL M l = some all ∧ all.length = n * sz ∧ ∀ i cs, i < n → D i = some cs → (all.drop (i * sz)).take sz = cs
  | 0, l, hl, _ => by
    have : l = [] := by simpa using hl
    subst this
    exact ⟨[], rfl, by simp, fun i cs hi => by omega⟩
  | n + 1, l, hl, h => by
    have hl1 : (l.take (n * sz)).length = n * sz := by
      rw [List.length_take]
      rw [Nat.succ_mul] at hl
      omega
    obtain ⟨all, h1, h2, h3⟩ := absL_all D sz n (l.take (n * sz)) hl1 (fun i hi => by
      obtain ⟨cs, g1, g2, g3⟩ := h i (by omega)
      refine ⟨cs, g1, g2, ?_⟩
      rw [← g3]
      congr 1
      rw [List.drop_take, List.take_take]
      congr 1
      have : i * sz + sz ≤ n * sz := by
        have := Nat.mul_le_mul_right sz (show i + 1 ≤ n from hi)
        rwa [Nat.succ_mul] at this
      omega)
    obtain ⟨cs, g1, g2, g3⟩ := h n (Nat.lt_succ_self n)
    have hlast : (l.drop (n * sz)).take sz = l.drop (n * sz) := by
      apply List.take_of_length_le
      rw [List.length_drop]
      rw [Nat.succ_mul] at hl
      omega
    rw [hlast] at g3
    refine ⟨all ++ cs, ?_, ?_, ?_⟩
    · have := absL_append h1 g3
      rwa [List.take_append_drop] at this
    · simp [h2, g2, Nat.succ_mul]
    · intro i c hi hc
      by_cases hin : i < n
      · rw [← h3 i c hin hc]
        have : i * sz + sz ≤ n * sz := by
          have := Nat.mul_le_mul_right sz (show i + 1 ≤ n from hin)
          rwa [Nat.succ_mul] at this
        rw [List.drop_append_of_le_length (by omega), List.take_append_of_le_length (by rw [List.length_drop]; omega)]
      · have : i = n := by omega
        subst this
        rw [g1] at hc
        obtain rfl := Option.some.inj hc
        rw [← h2, List.drop_left, ← g2, List.take_length]

theorem cell_block {v : Value} {a : Addr} (h : w.cell? a = some v) : ∃ cs e fr, a.spot = none ∧ w.heap[a.block]? = some (.cells cs e fr) ∧ cs[a.off]? = some v := by
  have hs := World.cell?_spot h
  obtain ⟨B, O, s⟩ := a
  simp only at hs
  subst hs
  unfold World.cell? at h
  simp only at h
  split at h
  all_goals first
    | (rename_i cs e fr hb; exact ⟨cs, e, fr, rfl, hb, h⟩)
    | simp at h

def Cod.slice {t e : TypeId} {β : Type} (ht : P.underlying t = some (.slice e)) (hc : P.cellsOf t = 1) (E : Cod P e β) : Cod P t (List β) where
  sz := 1
  rel := fun h l a => ∃ c, l = [c] ∧ RdSl E.toElt h c a
  szok := hc
  pos := by decide
  opn := by
    intro H enc w base spare held fuel cs x M hM h
    rcases Deep.open_slice ht h with ⟨rfl, _⟩ | ⟨a, len, cap, m, n, D, Pl, rfl, hb, hl, hm, hmm, _, hel⟩
    · exact ⟨[.nils], [], rfl, rfl, .nils, rfl, .inl ⟨rfl, rfl⟩⟩
    · by_cases h0 : len = 0
      · subst h0
        refine ⟨[.sl (.inr 0) 0 0 .any], [], by simp [absL, absC_slice0], rfl, .sl (.inr 0) 0 0 .any, rfl, ?_⟩
        exact .inr (.inl ⟨rfl, rfl⟩)
      · have hlm : len ≤ m := by rw [hmm]; split <;> omega
        rw [E.szok] at hel
        have hall : ∀ i, i < len → ∃ cs' b l, w.cells? base (a.add (i * E.sz)) E.sz = some cs' ∧ absL M cs' = some l ∧ l.length = E.sz ∧ E.rel (heapOf w M) l b := by
          intro i hi
          obtain ⟨cs', h1, h2⟩ := hel i (by omega)
          obtain ⟨l, b, h3, h4, h5⟩ := E.opn hM h2
          exact ⟨cs', b, l, h1, h3, h4, h5⟩
        obtain ⟨cs0, _, _, h1, _⟩ := hall 0 (by omega)
        obtain ⟨_, hlen0, hat0⟩ := World.cells?_some h1
        have hpos := E.pos
        have hc0 := hat0 0 hpos
        rw [show cs0[0]? = some cs0[0] from List.getElem?_eq_getElem (by omega)] at hc0
        obtain ⟨C, ee, fr, hsp, hblk, hoff⟩ := cell_block hc0
        obtain ⟨B, O, sp⟩ := a
        have hsp' : sp = none := by simpa [Addr.add] using hsp
        subst hsp'
        simp only [Nat.zero_mul, Addr.add_lit, Nat.add_zero] at hblk hoff
        have hO : O < M := by
          have h1 := (Array.getElem?_eq_some_iff.1 hoff).1
          have h2 := hM.2.2 B C ee fr hblk
          omega
        have hBM : B < M := by
          have h1 := (Array.getElem?_eq_some_iff.1 hblk).1
          have h2 := hM.2.1
          omega
        -- the cells of the whole slice
        have hcell : ∀ i j, i < len → j < E.sz → ∃ v, C[O + (i * E.sz + j)]? = some v := by
          intro i j hi hj
          obtain ⟨cs', _, _, g1, _⟩ := hall i hi
          obtain ⟨_, gl, gat⟩ := World.cells?_some g1
          have := gat j hj
          rw [show cs'[j]? = some cs'[j] from List.getElem?_eq_getElem (by omega)] at this
          rw [Addr.add_lit, Addr.add_lit, cell_row hblk] at this
          exact ⟨_, by rw [← Nat.add_assoc]; exact this⟩
        have hfit : O + len * E.sz ≤ C.size := by
          obtain ⟨v, hv⟩ := hcell (len - 1) (E.sz - 1) (by omega) (by omega)
          have h1 := (Array.getElem?_eq_some_iff.1 hv).1
          have h2 : (len - 1) * E.sz + E.sz = len * E.sz := by
            rw [← Nat.succ_mul]
            congr 1
            omega
          omega
        have hsame : ∀ i cs', i < len → w.cells? base ((⟨B, O, none⟩ : Addr).add (i * E.sz)) E.sz = some cs' → (((C.toList.drop O).take (len * E.sz)).drop (i * E.sz)).take E.sz = cs' := by
          intro i cs' hi g1
          obtain ⟨_, gl, gat⟩ := World.cells?_some g1
          have hle : i * E.sz + E.sz ≤ len * E.sz := by
            have := Nat.mul_le_mul_right E.sz (show i + 1 ≤ len from hi)
            rwa [Nat.succ_mul] at this
          apply List.ext_getElem?
          intro j
          by_cases hj : j < E.sz
          · rw [List.getElem?_take, if_pos hj, List.getElem?_drop, List.getElem?_take, if_pos (by omega), List.getElem?_drop, ← gat j hj, Addr.add_lit, Addr.add_lit, cell_row hblk]
            simp [Nat.add_assoc]
          · rw [List.getElem?_eq_none (by rw [List.length_take]; omega), List.getElem?_eq_none (by omega)]
        obtain ⟨all, k1, k2, k3⟩ := absL_all (M := M) (fun i => (w.cells? base ((⟨B, O, none⟩ : Addr).add (i * E.sz)) E.sz).bind (absL M)) E.sz len ((C.toList.drop O).take (len * E.sz)) (by rw [List.length_take, List.length_drop, Array.length_toList]; omega) (by
          intro i hi
          obtain ⟨cs', b, l, g1, g2, g3, g4⟩ := hall i hi
          exact ⟨l, by simp [g1, g2], g3, by rw [hsame i cs' hi g1]; exact g2⟩)
        obtain ⟨rest, hrest⟩ := absRun_of (M := M) (C.toList.drop O) (len * E.sz) all k1 (by rw [List.length_drop, Array.length_toList]; omega)
        have hlist : ∀ n, n ≤ len → ∃ as : List β, as.length = n ∧ ∀ i b, as[i]? = some b → i < len ∧ E.rel (heapOf w M) ((all.drop (i * E.sz)).take E.sz) b := by
          intro n
          induction n with
          | zero => exact fun _ => ⟨[], rfl, fun i b h => by simp at h⟩
          | succ n ih =>
            intro hn
            obtain ⟨as, h1, h2⟩ := ih (by omega)
            obtain ⟨cs', b, l, g1, g2, g3, g4⟩ := hall n (by omega)
            refine ⟨as ++ [b], by simp [h1], fun i b' hb' => ?_⟩
            by_cases hi : i < as.length
            · rw [List.getElem?_append_left hi] at hb'
              exact h2 i b' hb'
            · rw [List.getElem?_append_right (by omega)] at hb'
              have : i = n := by
                have := (List.getElem?_eq_some_iff.1 hb').1
                simp at this
                omega
              subst this
              simp [h1] at hb'
              subst hb'
              refine ⟨by omega, ?_⟩
              rw [k3 i l (by omega) (by simp [g1, g2])]
              exact g4
        obtain ⟨as, hlen, has⟩ := hlist len (Nat.le_refl _)
        refine ⟨[.sl (.inr (B * M + O)) 0 len .any], as, by simp [absL, absC_slice hl h0 hBM hO], rfl, _, rfl, .inr (.inr ⟨B * M + O, 0, .any, ⟨all ++ rest, 1, false⟩, by rw [hlen], ?_, ?_, ?_, ?_⟩)⟩
        · rw [hlen]
          simp [maxLen] at hm
          omega
        · simp only [heapOf]
          rw [if_pos (key_lt hBM hO), key_div hO, key_mod hO]
          unfold rowOf
          rw [hblk]
          simp only
          rw [if_pos (by omega), hrest]
        · simp only [List.length_append, k2, hlen]
          omega
        · intro i b hb'
          obtain ⟨g1, g2⟩ := has i b hb'
          rw [Nat.zero_add]
          have hle : i * E.sz + E.sz ≤ len * E.sz := by
            have := Nat.mul_le_mul_right E.sz (show i + 1 ≤ len from g1)
            rwa [Nat.succ_mul] at this
          rw [List.drop_append_of_le_length (by omega), List.take_append_of_le_length (by rw [List.length_drop]; omega)]
          exact g2

end Go.Abs
