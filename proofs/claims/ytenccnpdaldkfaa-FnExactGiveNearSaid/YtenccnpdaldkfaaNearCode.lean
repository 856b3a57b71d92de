/-
  The codes of the functions, for the abstract machine (printed by wip/tools/gen2.py; not typed by hand).
-/
import Derived.Test.YtenccnpdaldkfaaAbs21
namespace Go.Abs

/-! ### laws_szGiveBoxS: function 23 -/
def claws_szGiveBoxS : ACode := (.seq (.reg [] [⟨some 4, .mov (.k (.v (.c (.int .i64 0)))), none⟩])
  ((.seq (.reg [] [⟨some 5, .mov (.t 1), none⟩,
    ⟨some 6, .mov (.t 0), none⟩,
    ⟨some 7, .len (.t 6), none⟩,
    ⟨some 8, .bin .sub (.t 5) (.t 7), none⟩,
    ⟨some 1, .mov (.t 8), none⟩])
  ((.seq ((.seq (.reg [] [⟨some 9, .mov (.t 1), none⟩,
    ⟨some 10, .bin .lss (.t 9) (.k (.v (.c (.int .i64 0)))), none⟩])
  (.cond (.t 10) ((.seq (.reg [] [⟨some 4, .mov (.k (.v (.c (.int .i64 (-1))))), none⟩])
  (.ret))) (.skip))))
  ((.seq (.reg [] [⟨some 11, .mov (.t 1), none⟩,
    ⟨some 4, .mov (.t 11), none⟩])
  (.ret))))))))
noncomputable def elaws_szGiveBoxS : Env := envL []
noncomputable def Flaws_szGiveBoxS : Fun := runF elaws_szGiveBoxS claws_szGiveBoxS [.t 4]

/-! ### spec_l1In: function 91 -/
def cspec_l1In : ACode := (.seq (.reg [] [⟨some 6, .mov (.k (.v (.c (.bool false)))), none⟩])
  ((.seq (.reg [] [⟨some 7, .mov (.t 0), none⟩,
    ⟨some 8, .mov (.t 1), none⟩,
    ⟨some 9, .bin .geq (.t 7) (.t 8), none⟩,
    ⟨some 10, .mov (.t 9), none⟩,
    ⟨some 11, .mov (.t 0), (some (10, true))⟩,
    ⟨some 12, .mov (.t 2), (some (10, true))⟩,
    ⟨some 13, .bin .leq (.t 11) (.t 12), (some (10, true))⟩,
    ⟨some 14, .pick (.t 10) (.t 13) (.k (.v (.c (.bool false)))), none⟩,
    ⟨some 6, .mov (.t 14), none⟩])
  (.ret))))
noncomputable def espec_l1In : Env := envL []
noncomputable def Fspec_l1In : Fun := runF espec_l1In cspec_l1In [.t 6]

/-! ### spec_l1BoxOk: function 92 -/
def cspec_l1BoxOk : ACode := (.seq (.reg [1] [⟨some 1, .boxL 6 (.t 0), none⟩,
    ⟨some 2, .mov (.k (.v (.c (.bool false)))), none⟩])
  ((.seq (.reg [] [⟨some 3, .faddr 0 (.t 1), none⟩,
    ⟨some 4, .load1 (.t 3), none⟩,
    ⟨some 5, .call 91 [.t 4, .k (.v (.c (.int .i64 0))), .k (.v (.c (.int .i64 15)))], none⟩,
    ⟨some 6, .mov (.t 5), none⟩,
    ⟨some 7, .faddr 1 (.t 1), (some (6, true))⟩,
    ⟨some 8, .load1 (.t 7), (some (6, true))⟩,
    ⟨some 9, .call 91 [.t 8, .k (.v (.c (.int .i64 0))), .k (.v (.c (.int .i64 15)))], (some (6, true))⟩,
    ⟨some 10, .pick (.t 6) (.t 9) (.k (.v (.c (.bool false)))), none⟩,
    ⟨some 11, .mov (.t 10), none⟩,
    ⟨some 12, .faddr 2 (.t 1), (some (11, true))⟩,
    ⟨some 13, .load1 (.t 12), (some (11, true))⟩,
    ⟨some 14, .faddr 3 (.t 1), (some (11, true))⟩,
    ⟨some 15, .load1 (.t 14), (some (11, true))⟩,
    ⟨some 16, .call 91 [.t 13, .k (.v (.c (.int .i64 0))), .t 15], (some (11, true))⟩,
    ⟨some 17, .pick (.t 11) (.t 16) (.k (.v (.c (.bool false)))), none⟩,
    ⟨some 18, .mov (.t 17), none⟩,
    ⟨some 19, .faddr 3 (.t 1), (some (18, true))⟩,
    ⟨some 20, .load1 (.t 19), (some (18, true))⟩,
    ⟨some 21, .bin .leq (.t 20) (.k (.v (.c (.int .i64 6)))), (some (18, true))⟩,
    ⟨some 22, .pick (.t 18) (.t 21) (.k (.v (.c (.bool false)))), none⟩,
    ⟨some 23, .mov (.t 22), none⟩,
    ⟨some 24, .faddr 4 (.t 1), (some (23, true))⟩,
    ⟨some 25, .load1 (.t 24), (some (23, true))⟩,
    ⟨some 26, .faddr 5 (.t 1), (some (23, true))⟩,
    ⟨some 27, .load1 (.t 26), (some (23, true))⟩,
    ⟨some 28, .call 91 [.t 25, .k (.v (.c (.int .i64 0))), .t 27], (some (23, true))⟩,
    ⟨some 29, .pick (.t 23) (.t 28) (.k (.v (.c (.bool false)))), none⟩,
    ⟨some 30, .mov (.t 29), none⟩,
    ⟨some 31, .faddr 5 (.t 1), (some (30, true))⟩,
    ⟨some 32, .load1 (.t 31), (some (30, true))⟩,
    ⟨some 33, .bin .leq (.t 32) (.k (.v (.c (.int .i64 10000)))), (some (30, true))⟩,
    ⟨some 34, .pick (.t 30) (.t 33) (.k (.v (.c (.bool false)))), none⟩,
    ⟨some 2, .mov (.t 34), none⟩])
  (.ret))))
noncomputable def espec_l1BoxOk : Env := envL [(91, Fspec_l1In)]
noncomputable def Fspec_l1BoxOk : Fun := runF espec_l1BoxOk cspec_l1BoxOk [.t 2]
theorem espec_l1BoxOk_spec_l1In : espec_l1BoxOk 91 = some Fspec_l1In := by simp [espec_l1BoxOk, envL_cons]

/-! ### spec_l1Close: function 86 -/
def cspec_l1Close : ACode := (.seq (.reg [2, 3] [⟨some 2, .boxL 6 (.t 0), none⟩,
    ⟨some 3, .boxL 6 (.t 1), none⟩,
    ⟨some 4, .mov (.k (.v (.c (.bool false)))), none⟩])
  ((.seq (.reg [] [⟨some 5, .loadN 6 (.t 2), none⟩,
    ⟨some 6, .call 92 [.t 5], none⟩,
    ⟨some 7, .mov (.t 6), none⟩,
    ⟨some 8, .loadN 6 (.t 3), (some (7, true))⟩,
    ⟨some 9, .call 92 [.t 8], (some (7, true))⟩,
    ⟨some 10, .pick (.t 7) (.t 9) (.k (.v (.c (.bool false)))), none⟩,
    ⟨some 11, .mov (.t 10), none⟩,
    ⟨some 12, .faddr 0 (.t 2), (some (11, true))⟩,
    ⟨some 13, .load1 (.t 12), (some (11, true))⟩,
    ⟨some 14, .faddr 0 (.t 3), (some (11, true))⟩,
    ⟨some 15, .load1 (.t 14), (some (11, true))⟩,
    ⟨some 16, .bin .sub (.t 13) (.t 15), (some (11, true))⟩,
    ⟨some 17, .call 91 [.t 16, .k (.v (.c (.int .i64 (-1)))), .k (.v (.c (.int .i64 1)))], (some (11, true))⟩,
    ⟨some 18, .pick (.t 11) (.t 17) (.k (.v (.c (.bool false)))), none⟩,
    ⟨some 19, .mov (.t 18), none⟩,
    ⟨some 20, .faddr 1 (.t 2), (some (19, true))⟩,
    ⟨some 21, .load1 (.t 20), (some (19, true))⟩,
    ⟨some 22, .faddr 1 (.t 3), (some (19, true))⟩,
    ⟨some 23, .load1 (.t 22), (some (19, true))⟩,
    ⟨some 24, .bin .sub (.t 21) (.t 23), (some (19, true))⟩,
    ⟨some 25, .call 91 [.t 24, .k (.v (.c (.int .i64 (-1)))), .k (.v (.c (.int .i64 1)))], (some (19, true))⟩,
    ⟨some 26, .pick (.t 19) (.t 25) (.k (.v (.c (.bool false)))), none⟩,
    ⟨some 27, .mov (.t 26), none⟩,
    ⟨some 28, .faddr 2 (.t 2), (some (27, true))⟩,
    ⟨some 29, .load1 (.t 28), (some (27, true))⟩,
    ⟨some 30, .faddr 3 (.t 3), (some (27, true))⟩,
    ⟨some 31, .load1 (.t 30), (some (27, true))⟩,
    ⟨some 32, .bin .leq (.t 29) (.t 31), (some (27, true))⟩,
    ⟨some 33, .pick (.t 27) (.t 32) (.k (.v (.c (.bool false)))), none⟩,
    ⟨some 34, .mov (.t 33), none⟩,
    ⟨some 35, .faddr 2 (.t 3), (some (34, true))⟩,
    ⟨some 36, .load1 (.t 35), (some (34, true))⟩,
    ⟨some 37, .faddr 3 (.t 2), (some (34, true))⟩,
    ⟨some 38, .load1 (.t 37), (some (34, true))⟩,
    ⟨some 39, .bin .leq (.t 36) (.t 38), (some (34, true))⟩,
    ⟨some 40, .pick (.t 34) (.t 39) (.k (.v (.c (.bool false)))), none⟩,
    ⟨some 41, .mov (.t 40), none⟩,
    ⟨some 42, .faddr 4 (.t 2), (some (41, true))⟩,
    ⟨some 43, .load1 (.t 42), (some (41, true))⟩,
    ⟨some 44, .faddr 5 (.t 3), (some (41, true))⟩,
    ⟨some 45, .load1 (.t 44), (some (41, true))⟩,
    ⟨some 46, .bin .leq (.t 43) (.t 45), (some (41, true))⟩,
    ⟨some 47, .pick (.t 41) (.t 46) (.k (.v (.c (.bool false)))), none⟩,
    ⟨some 48, .mov (.t 47), none⟩,
    ⟨some 49, .faddr 4 (.t 3), (some (48, true))⟩,
    ⟨some 50, .load1 (.t 49), (some (48, true))⟩,
    ⟨some 51, .faddr 5 (.t 2), (some (48, true))⟩,
    ⟨some 52, .load1 (.t 51), (some (48, true))⟩,
    ⟨some 53, .bin .leq (.t 50) (.t 52), (some (48, true))⟩,
    ⟨some 54, .pick (.t 48) (.t 53) (.k (.v (.c (.bool false)))), none⟩,
    ⟨some 4, .mov (.t 54), none⟩])
  (.ret))))
noncomputable def espec_l1Close : Env := envL [(91, Fspec_l1In), (92, Fspec_l1BoxOk)]
noncomputable def Fspec_l1Close : Fun := runF espec_l1Close cspec_l1Close [.t 4]
theorem espec_l1Close_spec_l1In : espec_l1Close 91 = some Fspec_l1In := by simp [espec_l1Close, envL_cons]
theorem espec_l1Close_spec_l1BoxOk : espec_l1Close 92 = some Fspec_l1BoxOk := by simp [espec_l1Close, envL_cons]

/-! ### spec_GiveNear: function 24 -/
def cspec_GiveNear_L1 : ACode := (.seq ((.seq (.reg [] [⟨some 13, .mov (.t 6), none⟩,
    ⟨some 14, .mov (.t 1), none⟩,
    ⟨some 15, .len (.t 14), none⟩,
    ⟨some 16, .bin .lss (.t 13) (.t 15), none⟩])
  (.cond (.t 16) (.skip) (.exit 2))))
  ((.seq (.block 3 ((.seq (.regD [] [⟨some 19, .mov (.t 0), none⟩,
    ⟨some 20, .mov (.t 5), none⟩,
    ⟨some 21, .iaddr 6 (.t 19) (.t 20), none⟩,
    ⟨some 22, .loadN 6 (.t 21), none⟩,
    ⟨some 23, .mov (.t 1), none⟩,
    ⟨some 24, .mov (.t 6), none⟩,
    ⟨some 25, .iaddr 6 (.t 23) (.t 24), none⟩,
    ⟨some 26, .loadN 6 (.t 25), none⟩,
    ⟨some 27, .call 86 [.t 22, .t 26], none⟩] [])
  (.cond (.t 27) ((.seq (.reg [] [⟨some 4, .mov (.k (.v (.c (.bool true)))), none⟩])
  (.ret))) (.skip)))))
  (.reg [] [⟨some 17, .mov (.t 6), none⟩,
    ⟨some 18, .bin .add (.t 17) (.k (.v (.c (.int .i64 1)))), none⟩,
    ⟨some 6, .mov (.t 18), none⟩]))))
def cspec_GiveNear_L0 : ACode := (.seq ((.seq (.reg [] [⟨some 7, .mov (.t 5), none⟩,
    ⟨some 8, .mov (.t 0), none⟩,
    ⟨some 9, .len (.t 8), none⟩,
    ⟨some 10, .bin .lss (.t 7) (.t 9), none⟩])
  (.cond (.t 10) (.skip) (.exit 0))))
  ((.seq (.block 1 ((.seq (.reg [] [⟨some 6, .mov (.k (.v (.c (.int .i64 0)))), none⟩])
  (.block 2 (.loop cspec_GiveNear_L1)))))
  (.reg [] [⟨some 11, .mov (.t 5), none⟩,
    ⟨some 12, .bin .add (.t 11) (.k (.v (.c (.int .i64 1)))), none⟩,
    ⟨some 5, .mov (.t 12), none⟩]))))
def cspec_GiveNear : ACode := (.seq (.reg [] [⟨some 4, .mov (.k (.v (.c (.bool false)))), none⟩])
  ((.seq ((.seq (.reg [] [⟨some 5, .mov (.k (.v (.c (.int .i64 0)))), none⟩])
  (.block 0 (.loop cspec_GiveNear_L0))))
  ((.seq (.reg [] [⟨some 4, .mov (.k (.v (.c (.bool false)))), none⟩])
  (.ret))))))
noncomputable def espec_GiveNear : Env := envL [(86, Fspec_l1Close)]
noncomputable def Fspec_GiveNear : Fun := runF espec_GiveNear cspec_GiveNear [.t 4]
theorem espec_GiveNear_spec_l1Close : espec_GiveNear 86 = some Fspec_l1Close := by simp [espec_GiveNear, envL_cons]

/-! ### laws_toGiveBox: function 87 -/
def claws_toGiveBox : ACode := (.seq (.reg [1, 2] [⟨some 1, .boxL 6 (.t 0), none⟩,
    ⟨some 2, .allocL 6 [.int .i64 0, .int .i64 0, .int .i64 0, .int .i64 0, .int .i64 0, .int .i64 0], none⟩])
  ((.seq (.reg [3] [⟨some 3, .allocL 6 [.int .i64 0, .int .i64 0, .int .i64 0, .int .i64 0, .int .i64 0, .int .i64 0], none⟩])
  ((.seq (.reg [] [⟨some 4, .faddr 0 (.t 1), none⟩,
    ⟨some 5, .load1 (.t 4), none⟩,
    ⟨some 6, .faddr 0 (.t 3), none⟩,
    ⟨none, .store 1 (.t 6) (.t 5), none⟩])
  ((.seq (.reg [] [⟨some 7, .faddr 1 (.t 1), none⟩,
    ⟨some 8, .load1 (.t 7), none⟩,
    ⟨some 9, .faddr 1 (.t 3), none⟩,
    ⟨none, .store 1 (.t 9) (.t 8), none⟩])
  ((.seq (.reg [] [⟨some 10, .faddr 2 (.t 1), none⟩,
    ⟨some 11, .load1 (.t 10), none⟩,
    ⟨some 12, .faddr 2 (.t 3), none⟩,
    ⟨none, .store 1 (.t 12) (.t 11), none⟩])
  ((.seq (.reg [] [⟨some 13, .faddr 3 (.t 1), none⟩,
    ⟨some 14, .load1 (.t 13), none⟩,
    ⟨some 15, .faddr 3 (.t 3), none⟩,
    ⟨none, .store 1 (.t 15) (.t 14), none⟩])
  ((.seq (.reg [] [⟨some 16, .faddr 4 (.t 1), none⟩,
    ⟨some 17, .load1 (.t 16), none⟩,
    ⟨some 18, .faddr 4 (.t 3), none⟩,
    ⟨none, .store 1 (.t 18) (.t 17), none⟩])
  ((.seq (.reg [] [⟨some 19, .faddr 5 (.t 1), none⟩,
    ⟨some 20, .load1 (.t 19), none⟩,
    ⟨some 21, .faddr 5 (.t 3), none⟩,
    ⟨none, .store 1 (.t 21) (.t 20), none⟩])
  ((.seq (.reg [] [⟨some 22, .loadN 6 (.t 3), none⟩,
    ⟨none, .store 6 (.t 2) (.t 22), none⟩])
  (.ret))))))))))))))))))
noncomputable def elaws_toGiveBox : Env := envL []
noncomputable def Flaws_toGiveBox : Fun := runF elaws_toGiveBox claws_toGiveBox [.cellN 2 6]

/-! ### laws_toGiveBoxS: function 25 -/
def claws_toGiveBoxS_L0 : ACode := (.seq ((.seq (.reg [] [⟨some 8, .mov (.t 4), none⟩,
    ⟨some 9, .mov (.t 0), none⟩,
    ⟨some 10, .len (.t 9), none⟩,
    ⟨some 11, .bin .lss (.t 8) (.t 10), none⟩])
  (.cond (.t 11) (.skip) (.exit 0))))
  ((.seq (.block 1 (.reg [] [⟨some 14, .mov (.t 3), none⟩,
    ⟨some 15, .mov (.t 4), none⟩,
    ⟨some 16, .mov (.t 0), none⟩,
    ⟨some 17, .mov (.t 4), none⟩,
    ⟨some 18, .iaddr 6 (.t 16) (.t 17), none⟩,
    ⟨some 19, .loadN 6 (.t 18), none⟩,
    ⟨some 20, .call 87 [.t 19], none⟩,
    ⟨some 21, .iaddr 6 (.t 14) (.t 15), none⟩,
    ⟨none, .store 6 (.t 21) (.t 20), none⟩]))
  (.reg [] [⟨some 12, .mov (.t 4), none⟩,
    ⟨some 13, .bin .add (.t 12) (.k (.v (.c (.int .i64 1)))), none⟩,
    ⟨some 4, .mov (.t 13), none⟩]))))
def claws_toGiveBoxS : ACode := (.seq (.reg [] [⟨some 2, .mov (.k (.v (.c (.nils)))), none⟩])
  ((.seq (.reg [] [⟨some 5, .mov (.t 0), none⟩,
    ⟨some 6, .len (.t 5), none⟩,
    ⟨some 7, .make 6 [.int .i64 0, .int .i64 0, .int .i64 0, .int .i64 0, .int .i64 0, .int .i64 0] (.t 6) (.t 6), none⟩,
    ⟨some 3, .mov (.t 7), none⟩])
  ((.seq ((.seq (.reg [] [⟨some 4, .mov (.k (.v (.c (.int .i64 0)))), none⟩])
  (.block 0 (.loop claws_toGiveBoxS_L0))))
  ((.seq (.reg [] [⟨some 22, .mov (.t 3), none⟩,
    ⟨some 2, .mov (.t 22), none⟩])
  (.ret))))))))
noncomputable def elaws_toGiveBoxS : Env := envL [(87, Flaws_toGiveBox)]
noncomputable def Flaws_toGiveBoxS : Fun := runF elaws_toGiveBoxS claws_toGiveBoxS [.t 2]
theorem elaws_toGiveBoxS_laws_toGiveBox : elaws_toGiveBoxS 87 = some Flaws_toGiveBox := by simp [elaws_toGiveBoxS, envL_cons]

/-! ### impl_in: function 96 -/
def cimpl_in : ACode := (.seq (.reg [] [⟨some 6, .mov (.k (.v (.c (.bool false)))), none⟩])
  ((.seq (.reg [] [⟨some 7, .mov (.t 0), none⟩,
    ⟨some 8, .mov (.t 1), none⟩,
    ⟨some 9, .bin .geq (.t 7) (.t 8), none⟩,
    ⟨some 10, .mov (.t 9), none⟩,
    ⟨some 11, .mov (.t 0), (some (10, true))⟩,
    ⟨some 12, .mov (.t 2), (some (10, true))⟩,
    ⟨some 13, .bin .leq (.t 11) (.t 12), (some (10, true))⟩,
    ⟨some 14, .pick (.t 10) (.t 13) (.k (.v (.c (.bool false)))), none⟩,
    ⟨some 6, .mov (.t 14), none⟩])
  (.ret))))
noncomputable def eimpl_in : Env := envL []
noncomputable def Fimpl_in : Fun := runF eimpl_in cimpl_in [.t 6]

/-! ### impl_boxOk: function 97 -/
def cimpl_boxOk : ACode := (.seq (.reg [1] [⟨some 1, .boxL 6 (.t 0), none⟩,
    ⟨some 2, .mov (.k (.v (.c (.bool false)))), none⟩])
  ((.seq (.reg [] [⟨some 3, .faddr 0 (.t 1), none⟩,
    ⟨some 4, .load1 (.t 3), none⟩,
    ⟨some 5, .call 96 [.t 4, .k (.v (.c (.int .i64 0))), .k (.v (.c (.int .i64 15)))], none⟩,
    ⟨some 6, .mov (.t 5), none⟩,
    ⟨some 7, .faddr 1 (.t 1), (some (6, true))⟩,
    ⟨some 8, .load1 (.t 7), (some (6, true))⟩,
    ⟨some 9, .call 96 [.t 8, .k (.v (.c (.int .i64 0))), .k (.v (.c (.int .i64 15)))], (some (6, true))⟩,
    ⟨some 10, .pick (.t 6) (.t 9) (.k (.v (.c (.bool false)))), none⟩,
    ⟨some 11, .mov (.t 10), none⟩,
    ⟨some 12, .faddr 2 (.t 1), (some (11, true))⟩,
    ⟨some 13, .load1 (.t 12), (some (11, true))⟩,
    ⟨some 14, .bin .geq (.t 13) (.k (.v (.c (.int .i64 0)))), (some (11, true))⟩,
    ⟨some 15, .pick (.t 11) (.t 14) (.k (.v (.c (.bool false)))), none⟩,
    ⟨some 16, .mov (.t 15), none⟩,
    ⟨some 17, .faddr 2 (.t 1), (some (16, true))⟩,
    ⟨some 18, .load1 (.t 17), (some (16, true))⟩,
    ⟨some 19, .faddr 3 (.t 1), (some (16, true))⟩,
    ⟨some 20, .load1 (.t 19), (some (16, true))⟩,
    ⟨some 21, .bin .leq (.t 18) (.t 20), (some (16, true))⟩,
    ⟨some 22, .pick (.t 16) (.t 21) (.k (.v (.c (.bool false)))), none⟩,
    ⟨some 23, .mov (.t 22), none⟩,
    ⟨some 24, .faddr 3 (.t 1), (some (23, true))⟩,
    ⟨some 25, .load1 (.t 24), (some (23, true))⟩,
    ⟨some 26, .bin .leq (.t 25) (.k (.v (.c (.int .i64 6)))), (some (23, true))⟩,
    ⟨some 27, .pick (.t 23) (.t 26) (.k (.v (.c (.bool false)))), none⟩,
    ⟨some 28, .mov (.t 27), none⟩,
    ⟨some 29, .faddr 4 (.t 1), (some (28, true))⟩,
    ⟨some 30, .load1 (.t 29), (some (28, true))⟩,
    ⟨some 31, .bin .geq (.t 30) (.k (.v (.c (.int .i64 0)))), (some (28, true))⟩,
    ⟨some 32, .pick (.t 28) (.t 31) (.k (.v (.c (.bool false)))), none⟩,
    ⟨some 33, .mov (.t 32), none⟩,
    ⟨some 34, .faddr 4 (.t 1), (some (33, true))⟩,
    ⟨some 35, .load1 (.t 34), (some (33, true))⟩,
    ⟨some 36, .faddr 5 (.t 1), (some (33, true))⟩,
    ⟨some 37, .load1 (.t 36), (some (33, true))⟩,
    ⟨some 38, .bin .leq (.t 35) (.t 37), (some (33, true))⟩,
    ⟨some 39, .pick (.t 33) (.t 38) (.k (.v (.c (.bool false)))), none⟩,
    ⟨some 40, .mov (.t 39), none⟩,
    ⟨some 41, .faddr 5 (.t 1), (some (40, true))⟩,
    ⟨some 42, .load1 (.t 41), (some (40, true))⟩,
    ⟨some 43, .bin .leq (.t 42) (.k (.v (.c (.int .i64 10000)))), (some (40, true))⟩,
    ⟨some 44, .pick (.t 40) (.t 43) (.k (.v (.c (.bool false)))), none⟩,
    ⟨some 2, .mov (.t 44), none⟩])
  (.ret))))
noncomputable def eimpl_boxOk : Env := envL [(96, Fimpl_in)]
noncomputable def Fimpl_boxOk : Fun := runF eimpl_boxOk cimpl_boxOk [.t 2]
theorem eimpl_boxOk_impl_in : eimpl_boxOk 96 = some Fimpl_in := by simp [eimpl_boxOk, envL_cons]

/-! ### impl_beside: function 88 -/
def cimpl_beside : ACode := (.seq (.reg [2, 3] [⟨some 2, .boxL 6 (.t 0), none⟩,
    ⟨some 3, .boxL 6 (.t 1), none⟩,
    ⟨some 4, .mov (.k (.v (.c (.bool false)))), none⟩])
  ((.seq (.reg [] [⟨some 5, .loadN 6 (.t 2), none⟩,
    ⟨some 6, .call 97 [.t 5], none⟩,
    ⟨some 7, .mov (.t 6), none⟩,
    ⟨some 8, .loadN 6 (.t 3), (some (7, true))⟩,
    ⟨some 9, .call 97 [.t 8], (some (7, true))⟩,
    ⟨some 10, .pick (.t 7) (.t 9) (.k (.v (.c (.bool false)))), none⟩,
    ⟨some 11, .mov (.t 10), none⟩,
    ⟨some 12, .faddr 0 (.t 2), (some (11, true))⟩,
    ⟨some 13, .load1 (.t 12), (some (11, true))⟩,
    ⟨some 14, .faddr 0 (.t 3), (some (11, true))⟩,
    ⟨some 15, .load1 (.t 14), (some (11, true))⟩,
    ⟨some 16, .bin .sub (.t 13) (.t 15), (some (11, true))⟩,
    ⟨some 17, .call 96 [.t 16, .k (.v (.c (.int .i64 (-1)))), .k (.v (.c (.int .i64 1)))], (some (11, true))⟩,
    ⟨some 18, .pick (.t 11) (.t 17) (.k (.v (.c (.bool false)))), none⟩,
    ⟨some 19, .mov (.t 18), none⟩,
    ⟨some 20, .faddr 1 (.t 2), (some (19, true))⟩,
    ⟨some 21, .load1 (.t 20), (some (19, true))⟩,
    ⟨some 22, .faddr 1 (.t 3), (some (19, true))⟩,
    ⟨some 23, .load1 (.t 22), (some (19, true))⟩,
    ⟨some 24, .bin .sub (.t 21) (.t 23), (some (19, true))⟩,
    ⟨some 25, .call 96 [.t 24, .k (.v (.c (.int .i64 (-1)))), .k (.v (.c (.int .i64 1)))], (some (19, true))⟩,
    ⟨some 26, .pick (.t 19) (.t 25) (.k (.v (.c (.bool false)))), none⟩,
    ⟨some 27, .mov (.t 26), none⟩,
    ⟨some 28, .faddr 2 (.t 2), (some (27, true))⟩,
    ⟨some 29, .load1 (.t 28), (some (27, true))⟩,
    ⟨some 30, .faddr 2 (.t 3), (some (27, true))⟩,
    ⟨some 31, .load1 (.t 30), (some (27, true))⟩,
    ⟨some 32, .maxs [.t 29, .t 31], (some (27, true))⟩,
    ⟨some 33, .faddr 3 (.t 2), (some (27, true))⟩,
    ⟨some 34, .load1 (.t 33), (some (27, true))⟩,
    ⟨some 35, .faddr 3 (.t 3), (some (27, true))⟩,
    ⟨some 36, .load1 (.t 35), (some (27, true))⟩,
    ⟨some 37, .mins [.t 34, .t 36], (some (27, true))⟩,
    ⟨some 38, .bin .leq (.t 32) (.t 37), (some (27, true))⟩,
    ⟨some 39, .pick (.t 27) (.t 38) (.k (.v (.c (.bool false)))), none⟩,
    ⟨some 4, .mov (.t 39), none⟩])
  (.ret))))
noncomputable def eimpl_beside : Env := envL [(96, Fimpl_in), (97, Fimpl_boxOk)]
noncomputable def Fimpl_beside : Fun := runF eimpl_beside cimpl_beside [.t 4]
theorem eimpl_beside_impl_in : eimpl_beside 96 = some Fimpl_in := by simp [eimpl_beside, envL_cons]
theorem eimpl_beside_impl_boxOk : eimpl_beside 97 = some Fimpl_boxOk := by simp [eimpl_beside, envL_cons]

/-! ### impl_GiveNear: function 26 -/
def cimpl_GiveNear_L1 : ACode := (.seq (.reg [] [⟨some 18, .bin .lss (.t 17) (.t 16), none⟩])
  ((.seq (.cond (.t 18) (.skip) (.exit 2))
  ((.seq (.block 3 ((.seq (.reg [8] [⟨some 19, .iaddr 6 (.t 15) (.t 17), none⟩,
    ⟨some 20, .loadN 6 (.t 19), none⟩,
    ⟨some 8, .allocL 6 [.int .i64 0, .int .i64 0, .int .i64 0, .int .i64 0, .int .i64 0, .int .i64 0], none⟩,
    ⟨none, .store 6 (.t 8) (.t 20), none⟩])
  ((.seq (.reg [] [⟨some 21, .loadN 6 (.t 6), none⟩,
    ⟨some 22, .loadN 6 (.t 8), none⟩,
    ⟨some 23, .call 88 [.t 21, .t 22], none⟩,
    ⟨some 24, .mov (.t 23), none⟩,
    ⟨some 25, .faddr 4 (.t 6), (some (24, true))⟩,
    ⟨some 26, .load1 (.t 25), (some (24, true))⟩,
    ⟨some 27, .faddr 4 (.t 8), (some (24, true))⟩,
    ⟨some 28, .load1 (.t 27), (some (24, true))⟩,
    ⟨some 29, .maxs [.t 26, .t 28], (some (24, true))⟩,
    ⟨some 30, .faddr 5 (.t 6), (some (24, true))⟩,
    ⟨some 31, .load1 (.t 30), (some (24, true))⟩,
    ⟨some 32, .faddr 5 (.t 8), (some (24, true))⟩,
    ⟨some 33, .load1 (.t 32), (some (24, true))⟩,
    ⟨some 34, .mins [.t 31, .t 33], (some (24, true))⟩,
    ⟨some 35, .bin .leq (.t 29) (.t 34), (some (24, true))⟩,
    ⟨some 36, .pick (.t 24) (.t 35) (.k (.v (.c (.bool false)))), none⟩])
  (.cond (.t 36) ((.seq (.reg [] [⟨some 4, .mov (.k (.v (.c (.bool true)))), none⟩])
  (.ret))) (.skip)))))))
  (.reg [] [⟨some 37, .bin .add (.t 17) (.k (.v (.c (.int .i64 1)))), none⟩,
    ⟨some 17, .mov (.t 37), none⟩]))))))
def cimpl_GiveNear_L0 : ACode := (.seq (.reg [] [⟨some 12, .bin .lss (.t 11) (.t 10), none⟩])
  ((.seq (.cond (.t 12) (.skip) (.exit 0))
  ((.seq (.block 1 ((.seq (.reg [6] [⟨some 13, .iaddr 6 (.t 9) (.t 11), none⟩,
    ⟨some 14, .loadN 6 (.t 13), none⟩,
    ⟨some 6, .allocL 6 [.int .i64 0, .int .i64 0, .int .i64 0, .int .i64 0, .int .i64 0, .int .i64 0], none⟩,
    ⟨none, .store 6 (.t 6) (.t 14), none⟩])
  ((.seq (.reg [] [⟨some 15, .mov (.t 1), none⟩,
    ⟨some 16, .len (.t 15), none⟩,
    ⟨some 17, .mov (.k (.v (.c (.int .i64 0)))), none⟩])
  (.block 2 (.loop cimpl_GiveNear_L1)))))))
  (.reg [] [⟨some 38, .bin .add (.t 11) (.k (.v (.c (.int .i64 1)))), none⟩,
    ⟨some 11, .mov (.t 38), none⟩]))))))
def cimpl_GiveNear : ACode := (.seq (.reg [] [⟨some 4, .mov (.k (.v (.c (.bool false)))), none⟩])
  ((.seq ((.seq (.reg [] [⟨some 9, .mov (.t 0), none⟩,
    ⟨some 10, .len (.t 9), none⟩,
    ⟨some 11, .mov (.k (.v (.c (.int .i64 0)))), none⟩])
  (.block 0 (.loop cimpl_GiveNear_L0))))
  ((.seq (.reg [] [⟨some 4, .mov (.k (.v (.c (.bool false)))), none⟩])
  (.ret))))))
noncomputable def eimpl_GiveNear : Env := envL [(88, Fimpl_beside)]
noncomputable def Fimpl_GiveNear : Fun := runF eimpl_GiveNear cimpl_GiveNear [.t 4]
theorem eimpl_GiveNear_impl_beside : eimpl_GiveNear 88 = some Fimpl_beside := by simp [eimpl_GiveNear, envL_cons]

/-! ### laws_eqGiveBox: function 89 -/
def claws_eqGiveBox : ACode := (.seq (.reg [2, 3] [⟨some 2, .boxL 6 (.t 0), none⟩,
    ⟨some 3, .boxL 6 (.t 1), none⟩,
    ⟨some 4, .mov (.k (.v (.c (.bool false)))), none⟩])
  ((.seq ((.seq (.reg [] [⟨some 5, .faddr 0 (.t 2), none⟩,
    ⟨some 6, .load1 (.t 5), none⟩,
    ⟨some 7, .faddr 0 (.t 3), none⟩,
    ⟨some 8, .load1 (.t 7), none⟩,
    ⟨some 9, .bin .neq (.t 6) (.t 8), none⟩])
  (.cond (.t 9) ((.seq (.reg [] [⟨some 4, .mov (.k (.v (.c (.bool false)))), none⟩])
  (.ret))) (.skip))))
  ((.seq ((.seq (.reg [] [⟨some 10, .faddr 1 (.t 2), none⟩,
    ⟨some 11, .load1 (.t 10), none⟩,
    ⟨some 12, .faddr 1 (.t 3), none⟩,
    ⟨some 13, .load1 (.t 12), none⟩,
    ⟨some 14, .bin .neq (.t 11) (.t 13), none⟩])
  (.cond (.t 14) ((.seq (.reg [] [⟨some 4, .mov (.k (.v (.c (.bool false)))), none⟩])
  (.ret))) (.skip))))
  ((.seq ((.seq (.reg [] [⟨some 15, .faddr 2 (.t 2), none⟩,
    ⟨some 16, .load1 (.t 15), none⟩,
    ⟨some 17, .faddr 2 (.t 3), none⟩,
    ⟨some 18, .load1 (.t 17), none⟩,
    ⟨some 19, .bin .neq (.t 16) (.t 18), none⟩])
  (.cond (.t 19) ((.seq (.reg [] [⟨some 4, .mov (.k (.v (.c (.bool false)))), none⟩])
  (.ret))) (.skip))))
  ((.seq ((.seq (.reg [] [⟨some 20, .faddr 3 (.t 2), none⟩,
    ⟨some 21, .load1 (.t 20), none⟩,
    ⟨some 22, .faddr 3 (.t 3), none⟩,
    ⟨some 23, .load1 (.t 22), none⟩,
    ⟨some 24, .bin .neq (.t 21) (.t 23), none⟩])
  (.cond (.t 24) ((.seq (.reg [] [⟨some 4, .mov (.k (.v (.c (.bool false)))), none⟩])
  (.ret))) (.skip))))
  ((.seq ((.seq (.reg [] [⟨some 25, .faddr 4 (.t 2), none⟩,
    ⟨some 26, .load1 (.t 25), none⟩,
    ⟨some 27, .faddr 4 (.t 3), none⟩,
    ⟨some 28, .load1 (.t 27), none⟩,
    ⟨some 29, .bin .neq (.t 26) (.t 28), none⟩])
  (.cond (.t 29) ((.seq (.reg [] [⟨some 4, .mov (.k (.v (.c (.bool false)))), none⟩])
  (.ret))) (.skip))))
  ((.seq ((.seq (.reg [] [⟨some 30, .faddr 5 (.t 2), none⟩,
    ⟨some 31, .load1 (.t 30), none⟩,
    ⟨some 32, .faddr 5 (.t 3), none⟩,
    ⟨some 33, .load1 (.t 32), none⟩,
    ⟨some 34, .bin .neq (.t 31) (.t 33), none⟩])
  (.cond (.t 34) ((.seq (.reg [] [⟨some 4, .mov (.k (.v (.c (.bool false)))), none⟩])
  (.ret))) (.skip))))
  ((.seq (.reg [] [⟨some 4, .mov (.k (.v (.c (.bool true)))), none⟩])
  (.ret))))))))))))))))
noncomputable def elaws_eqGiveBox : Env := envL []
noncomputable def Flaws_eqGiveBox : Fun := runF elaws_eqGiveBox claws_eqGiveBox [.t 4]

/-! ### laws_eqGiveBoxS: function 27 -/
def claws_eqGiveBoxS_L0 : ACode := (.seq ((.seq (.reg [] [⟨some 11, .mov (.t 5), none⟩,
    ⟨some 12, .mov (.t 0), none⟩,
    ⟨some 13, .len (.t 12), none⟩,
    ⟨some 14, .bin .lss (.t 11) (.t 13), none⟩])
  (.cond (.t 14) (.skip) (.exit 0))))
  ((.seq (.block 1 ((.seq (.regD [] [⟨some 17, .mov (.t 0), none⟩,
    ⟨some 18, .mov (.t 5), none⟩,
    ⟨some 19, .iaddr 6 (.t 17) (.t 18), none⟩,
    ⟨some 20, .loadN 6 (.t 19), none⟩,
    ⟨some 21, .mov (.t 1), none⟩,
    ⟨some 22, .mov (.t 5), none⟩,
    ⟨some 23, .iaddr 6 (.t 21) (.t 22), none⟩,
    ⟨some 24, .loadN 6 (.t 23), none⟩,
    ⟨some 25, .call 89 [.t 20, .t 24], none⟩,
    ⟨some 26, .un .not (.t 25), none⟩] [])
  (.cond (.t 26) ((.seq (.reg [] [⟨some 4, .mov (.k (.v (.c (.bool false)))), none⟩])
  (.ret))) (.skip)))))
  (.reg [] [⟨some 15, .mov (.t 5), none⟩,
    ⟨some 16, .bin .add (.t 15) (.k (.v (.c (.int .i64 1)))), none⟩,
    ⟨some 5, .mov (.t 16), none⟩]))))
def claws_eqGiveBoxS : ACode := (.seq (.reg [] [⟨some 4, .mov (.k (.v (.c (.bool false)))), none⟩])
  ((.seq ((.seq (.reg [] [⟨some 6, .mov (.t 0), none⟩,
    ⟨some 7, .len (.t 6), none⟩,
    ⟨some 8, .mov (.t 1), none⟩,
    ⟨some 9, .len (.t 8), none⟩,
    ⟨some 10, .bin .neq (.t 7) (.t 9), none⟩])
  (.cond (.t 10) ((.seq (.reg [] [⟨some 4, .mov (.k (.v (.c (.bool false)))), none⟩])
  (.ret))) (.skip))))
  ((.seq ((.seq (.reg [] [⟨some 5, .mov (.k (.v (.c (.int .i64 0)))), none⟩])
  (.block 0 (.loop claws_eqGiveBoxS_L0))))
  ((.seq (.reg [] [⟨some 4, .mov (.k (.v (.c (.bool true)))), none⟩])
  (.ret))))))))
noncomputable def elaws_eqGiveBoxS : Env := envL [(89, Flaws_eqGiveBox)]
noncomputable def Flaws_eqGiveBoxS : Fun := runF elaws_eqGiveBoxS claws_eqGiveBoxS [.t 4]
theorem elaws_eqGiveBoxS_laws_eqGiveBox : elaws_eqGiveBoxS 89 = some Flaws_eqGiveBox := by simp [elaws_eqGiveBoxS, envL_cons]

/-! ### laws_FnExactGiveNear: function 4 -/
def claws_FnExactGiveNear : ACode := (.seq (.reg [] [⟨some 4, .mov (.k (.v (.c (.bool false)))), none⟩])
  ((.seq (.reg [] [⟨some 5, .mov (.k (.v (.c (.int .i64 1048576)))), none⟩])
  ((.seq (.reg [] [⟨some 10, .mov (.t 0), none⟩,
    ⟨some 11, .mov (.t 5), none⟩,
    ⟨some 12, .call 23 [.t 10, .t 11], none⟩,
    ⟨some 5, .mov (.t 12), none⟩])
  ((.seq ((.seq (.reg [] [⟨some 13, .mov (.t 5), none⟩,
    ⟨some 14, .bin .lss (.t 13) (.k (.v (.c (.int .i64 0)))), none⟩])
  (.cond (.t 14) ((.seq (.reg [] [⟨some 4, .mov (.k (.v (.c (.bool true)))), none⟩])
  (.ret))) (.skip))))
  ((.seq (.reg [] [⟨some 15, .mov (.t 1), none⟩,
    ⟨some 16, .mov (.t 5), none⟩,
    ⟨some 17, .call 23 [.t 15, .t 16], none⟩,
    ⟨some 5, .mov (.t 17), none⟩])
  ((.seq ((.seq (.reg [] [⟨some 18, .mov (.t 5), none⟩,
    ⟨some 19, .bin .lss (.t 18) (.k (.v (.c (.int .i64 0)))), none⟩])
  (.cond (.t 19) ((.seq (.reg [] [⟨some 4, .mov (.k (.v (.c (.bool true)))), none⟩])
  (.ret))) (.skip))))
  ((.seq (.reg [] [⟨some 20, .mov (.t 0), none⟩,
    ⟨some 21, .call 25 [.t 20], none⟩,
    ⟨some 22, .mov (.t 1), none⟩,
    ⟨some 23, .call 25 [.t 22], none⟩,
    ⟨some 24, .call 24 [.t 21, .t 23], none⟩,
    ⟨some 6, .mov (.t 24), none⟩])
  ((.seq (.reg [] [⟨some 25, .mov (.t 0), none⟩,
    ⟨some 26, .call 25 [.t 25], none⟩,
    ⟨some 7, .mov (.t 26), none⟩])
  ((.seq (.reg [] [⟨some 27, .mov (.t 1), none⟩,
    ⟨some 28, .call 25 [.t 27], none⟩,
    ⟨some 8, .mov (.t 28), none⟩])
  ((.seq (.reg [] [⟨some 29, .mov (.t 7), none⟩,
    ⟨some 30, .mov (.t 8), none⟩,
    ⟨some 31, .call 26 [.t 29, .t 30], none⟩,
    ⟨some 9, .mov (.t 31), none⟩])
  ((.seq ((.seq (.reg [] [⟨some 32, .mov (.t 9), none⟩,
    ⟨some 33, .mov (.t 6), none⟩,
    ⟨some 34, .binB true (.t 32) (.t 33), none⟩])
  (.cond (.t 34) ((.seq (.reg [] [⟨some 4, .mov (.k (.v (.c (.bool false)))), none⟩])
  (.ret))) (.skip))))
  ((.seq ((.seq (.reg [] [⟨some 35, .mov (.t 7), none⟩,
    ⟨some 36, .mov (.t 0), none⟩,
    ⟨some 37, .call 25 [.t 36], none⟩,
    ⟨some 38, .call 27 [.t 35, .t 37], none⟩,
    ⟨some 39, .un .not (.t 38), none⟩])
  (.cond (.t 39) ((.seq (.reg [] [⟨some 4, .mov (.k (.v (.c (.bool false)))), none⟩])
  (.ret))) (.skip))))
  ((.seq ((.seq (.reg [] [⟨some 40, .mov (.t 8), none⟩,
    ⟨some 41, .mov (.t 1), none⟩,
    ⟨some 42, .call 25 [.t 41], none⟩,
    ⟨some 43, .call 27 [.t 40, .t 42], none⟩,
    ⟨some 44, .un .not (.t 43), none⟩])
  (.cond (.t 44) ((.seq (.reg [] [⟨some 4, .mov (.k (.v (.c (.bool false)))), none⟩])
  (.ret))) (.skip))))
  ((.seq (.reg [] [⟨some 4, .mov (.k (.v (.c (.bool true)))), none⟩])
  (.ret))))))))))))))))))))))))))))
noncomputable def elaws_FnExactGiveNear : Env := envL [(23, Flaws_szGiveBoxS), (24, Fspec_GiveNear), (25, Flaws_toGiveBoxS), (26, Fimpl_GiveNear), (27, Flaws_eqGiveBoxS)]
noncomputable def Flaws_FnExactGiveNear : Fun := runF elaws_FnExactGiveNear claws_FnExactGiveNear [.t 4]
theorem elaws_FnExactGiveNear_laws_szGiveBoxS : elaws_FnExactGiveNear 23 = some Flaws_szGiveBoxS := by simp [elaws_FnExactGiveNear, envL_cons]
theorem elaws_FnExactGiveNear_spec_GiveNear : elaws_FnExactGiveNear 24 = some Fspec_GiveNear := by simp [elaws_FnExactGiveNear, envL_cons]
theorem elaws_FnExactGiveNear_laws_toGiveBoxS : elaws_FnExactGiveNear 25 = some Flaws_toGiveBoxS := by simp [elaws_FnExactGiveNear, envL_cons]
theorem elaws_FnExactGiveNear_impl_GiveNear : elaws_FnExactGiveNear 26 = some Fimpl_GiveNear := by simp [elaws_FnExactGiveNear, envL_cons]
theorem elaws_FnExactGiveNear_laws_eqGiveBoxS : elaws_FnExactGiveNear 27 = some Flaws_eqGiveBoxS := by simp [elaws_FnExactGiveNear, envL_cons]

end Go.Abs
