/-
  The codes of the functions, for the abstract machine (printed by wip/tools/gen3.py; not typed by hand).
-/
import Derived.Test.YtenccnpdaldkfaaAbs27
namespace Go.Abs

/-! ### laws_szGiveBoxS: function 23 -/
def claws_szGiveBoxS : ACode := (.seq (.reg [] [OP 4 (.mov (KI 0))])
((.seq (.reg [] [MV 5 1,
 MV 6 0,
 LE 7 6,
 OP 8 (.bin .sub (.t 5) (.t 7)),
 MV 1 8])
((.seq ((.seq (.reg [] [MV 9 1,
 OP 10 (.bin .lss (.t 9) (KI 0))])
(.cond (.t 10) ((.seq (.reg [] [OP 4 (.mov (KI (-1)))])
(.ret))) (.skip))))
((.seq (.reg [] [MV 11 1,
 MV 4 11])
(.ret))))))))
noncomputable def elaws_szGiveBoxS : Env := envL []
noncomputable def Flaws_szGiveBoxS : Fun := runF elaws_szGiveBoxS claws_szGiveBoxS [.t 4]

/-! ### spec_l1In: function 91 -/
def cspec_l1In : ACode := (.seq (.reg [] [MF 6])
((.seq (.reg [] [MV 7 0,
 MV 8 1,
 OP 9 (.bin .geq (.t 7) (.t 8)),
 MV 10 9,
 OT 11 10 (.mov (.t 0)),
 OT 12 10 (.mov (.t 2)),
 OT 13 10 (.bin .leq (.t 11) (.t 12)),
 OP 14 (.pick (.t 10) (.t 13) KF),
 MV 6 14])
(.ret))))
noncomputable def espec_l1In : Env := envL []
noncomputable def Fspec_l1In : Fun := runF espec_l1In cspec_l1In [.t 6]

/-! ### spec_l1BoxOk: function 92 -/
def cspec_l1BoxOk : ACode := (.seq (.reg [1] [OP 1 (.boxL 6 (.t 0)),
 MF 2])
((.seq (.reg [] [FA 3 0 1,
 LD 4 3,
 OP 5 (.call 91 [.t 4, KI 0, KI 15]),
 MV 6 5,
 OT 7 6 (.faddr 1 (.t 1)),
 OT 8 6 (.load1 (.t 7)),
 OT 9 6 (.call 91 [.t 8, KI 0, KI 15]),
 OP 10 (.pick (.t 6) (.t 9) KF),
 MV 11 10,
 OT 12 11 (.faddr 2 (.t 1)),
 OT 13 11 (.load1 (.t 12)),
 OT 14 11 (.faddr 3 (.t 1)),
 OT 15 11 (.load1 (.t 14)),
 OT 16 11 (.call 91 [.t 13, KI 0, .t 15]),
 OP 17 (.pick (.t 11) (.t 16) KF),
 MV 18 17,
 OT 19 18 (.faddr 3 (.t 1)),
 OT 20 18 (.load1 (.t 19)),
 OT 21 18 (.bin .leq (.t 20) (KI 6)),
 OP 22 (.pick (.t 18) (.t 21) KF),
 MV 23 22,
 OT 24 23 (.faddr 4 (.t 1)),
 OT 25 23 (.load1 (.t 24)),
 OT 26 23 (.faddr 5 (.t 1)),
 OT 27 23 (.load1 (.t 26)),
 OT 28 23 (.call 91 [.t 25, KI 0, .t 27]),
 OP 29 (.pick (.t 23) (.t 28) KF),
 MV 30 29,
 OT 31 30 (.faddr 5 (.t 1)),
 OT 32 30 (.load1 (.t 31)),
 OT 33 30 (.bin .leq (.t 32) (KI 10000)),
 OP 34 (.pick (.t 30) (.t 33) KF),
 MV 2 34])
(.ret))))
noncomputable def espec_l1BoxOk : Env := envL [(91, Fspec_l1In)]
noncomputable def Fspec_l1BoxOk : Fun := runF espec_l1BoxOk cspec_l1BoxOk [.t 2]
theorem espec_l1BoxOk_spec_l1In : espec_l1BoxOk 91 = some Fspec_l1In := by simp [espec_l1BoxOk, envL_cons]

/-! ### spec_l1Close: function 86 -/
def cspec_l1Close : ACode := (.seq (.reg [2, 3] [OP 2 (.boxL 6 (.t 0)),
 OP 3 (.boxL 6 (.t 1)),
 MF 4])
((.seq (.reg [] [OP 5 (.loadN 6 (.t 2)),
 OP 6 (.call 92 [.t 5]),
 MV 7 6,
 OT 8 7 (.loadN 6 (.t 3)),
 OT 9 7 (.call 92 [.t 8]),
 OP 10 (.pick (.t 7) (.t 9) KF),
 MV 11 10,
 OT 12 11 (.faddr 0 (.t 2)),
 OT 13 11 (.load1 (.t 12)),
 OT 14 11 (.faddr 0 (.t 3)),
 OT 15 11 (.load1 (.t 14)),
 OT 16 11 (.bin .sub (.t 13) (.t 15)),
 OT 17 11 (.call 91 [.t 16, KI (-1), KI 1]),
 OP 18 (.pick (.t 11) (.t 17) KF),
 MV 19 18,
 OT 20 19 (.faddr 1 (.t 2)),
 OT 21 19 (.load1 (.t 20)),
 OT 22 19 (.faddr 1 (.t 3)),
 OT 23 19 (.load1 (.t 22)),
 OT 24 19 (.bin .sub (.t 21) (.t 23)),
 OT 25 19 (.call 91 [.t 24, KI (-1), KI 1]),
 OP 26 (.pick (.t 19) (.t 25) KF),
 MV 27 26,
 OT 28 27 (.faddr 2 (.t 2)),
 OT 29 27 (.load1 (.t 28)),
 OT 30 27 (.faddr 3 (.t 3)),
 OT 31 27 (.load1 (.t 30)),
 OT 32 27 (.bin .leq (.t 29) (.t 31)),
 OP 33 (.pick (.t 27) (.t 32) KF),
 MV 34 33,
 OT 35 34 (.faddr 2 (.t 3)),
 OT 36 34 (.load1 (.t 35)),
 OT 37 34 (.faddr 3 (.t 2)),
 OT 38 34 (.load1 (.t 37)),
 OT 39 34 (.bin .leq (.t 36) (.t 38)),
 OP 40 (.pick (.t 34) (.t 39) KF),
 MV 41 40,
 OT 42 41 (.faddr 4 (.t 2)),
 OT 43 41 (.load1 (.t 42)),
 OT 44 41 (.faddr 5 (.t 3)),
 OT 45 41 (.load1 (.t 44)),
 OT 46 41 (.bin .leq (.t 43) (.t 45)),
 OP 47 (.pick (.t 41) (.t 46) KF),
 MV 48 47,
 OT 49 48 (.faddr 4 (.t 3)),
 OT 50 48 (.load1 (.t 49)),
 OT 51 48 (.faddr 5 (.t 2)),
 OT 52 48 (.load1 (.t 51)),
 OT 53 48 (.bin .leq (.t 50) (.t 52)),
 OP 54 (.pick (.t 48) (.t 53) KF),
 MV 4 54])
(.ret))))
noncomputable def espec_l1Close : Env := envL [(91, Fspec_l1In), (92, Fspec_l1BoxOk)]
noncomputable def Fspec_l1Close : Fun := runF espec_l1Close cspec_l1Close [.t 4]
theorem espec_l1Close_spec_l1In : espec_l1Close 91 = some Fspec_l1In := by simp [espec_l1Close, envL_cons]
theorem espec_l1Close_spec_l1BoxOk : espec_l1Close 92 = some Fspec_l1BoxOk := by simp [espec_l1Close, envL_cons]

/-! ### spec_GiveNear: function 24 -/
def cspec_GiveNear_L1 : ACode := (.seq ((.seq (.reg [] [MV 13 6,
 MV 14 1,
 LE 15 14,
 OP 16 (.bin .lss (.t 13) (.t 15))])
(.cond (.t 16) (.skip) (.exit 2))))
((.seq (.block 3 ((.seq (.regD [] [MV 19 0,
 MV 20 5,
 IA 21 6 19 20,
 OP 22 (.loadN 6 (.t 21)),
 MV 23 1,
 MV 24 6,
 IA 25 6 23 24,
 OP 26 (.loadN 6 (.t 25)),
 OP 27 (.call 86 [.t 22, .t 26])] [])
(.cond (.t 27) ((.seq (.reg [] [OP 4 (.mov KT)])
(.ret))) (.skip)))))
(.reg [] [MV 17 6,
 OP 18 (.bin .add (.t 17) (KI 1)),
 MV 6 18]))))
def cspec_GiveNear_L0 : ACode := (.seq ((.seq (.reg [] [MV 7 5,
 MV 8 0,
 LE 9 8,
 OP 10 (.bin .lss (.t 7) (.t 9))])
(.cond (.t 10) (.skip) (.exit 0))))
((.seq (.block 1 ((.seq (.reg [] [OP 6 (.mov (KI 0))])
(.block 2 (.loop cspec_GiveNear_L1)))))
(.reg [] [MV 11 5,
 OP 12 (.bin .add (.t 11) (KI 1)),
 MV 5 12]))))
def cspec_GiveNear : ACode := (.seq (.reg [] [MF 4])
((.seq ((.seq (.reg [] [OP 5 (.mov (KI 0))])
(.block 0 (.loop cspec_GiveNear_L0))))
((.seq (.reg [] [MF 4])
(.ret))))))
noncomputable def espec_GiveNear : Env := envL [(86, Fspec_l1Close)]
noncomputable def Fspec_GiveNear : Fun := runF espec_GiveNear cspec_GiveNear [.t 4]
theorem espec_GiveNear_spec_l1Close : espec_GiveNear 86 = some Fspec_l1Close := by simp [espec_GiveNear, envL_cons]

/-! ### laws_toGiveBox: function 87 -/
def claws_toGiveBox : ACode := (.seq (.reg [1, 2] [OP 1 (.boxL 6 (.t 0)),
 OP 2 (.allocL 6 Z6)])
((.seq (.reg [3] [OP 3 (.allocL 6 Z6)])
((.seq (.reg [] [FA 4 0 1,
 LD 5 4,
 FA 6 0 3,
 OX (.store 1 (.t 6) (.t 5))])
((.seq (.reg [] [FA 7 1 1,
 LD 8 7,
 FA 9 1 3,
 OX (.store 1 (.t 9) (.t 8))])
((.seq (.reg [] [FA 10 2 1,
 LD 11 10,
 FA 12 2 3,
 OX (.store 1 (.t 12) (.t 11))])
((.seq (.reg [] [FA 13 3 1,
 LD 14 13,
 FA 15 3 3,
 OX (.store 1 (.t 15) (.t 14))])
((.seq (.reg [] [FA 16 4 1,
 LD 17 16,
 FA 18 4 3,
 OX (.store 1 (.t 18) (.t 17))])
((.seq (.reg [] [FA 19 5 1,
 LD 20 19,
 FA 21 5 3,
 OX (.store 1 (.t 21) (.t 20))])
((.seq (.reg [] [OP 22 (.loadN 6 (.t 3)),
 OX (.store 6 (.t 2) (.t 22))])
(.ret))))))))))))))))))
noncomputable def elaws_toGiveBox : Env := envL []
noncomputable def Flaws_toGiveBox : Fun := runF elaws_toGiveBox claws_toGiveBox [.cellN 2 6]

/-! ### laws_toGiveBoxS: function 25 -/
def claws_toGiveBoxS_L0 : ACode := (.seq ((.seq (.reg [] [MV 8 4,
 MV 9 0,
 LE 10 9,
 OP 11 (.bin .lss (.t 8) (.t 10))])
(.cond (.t 11) (.skip) (.exit 0))))
((.seq (.block 1 (.reg [] [MV 14 3,
 MV 15 4,
 MV 16 0,
 MV 17 4,
 IA 18 6 16 17,
 OP 19 (.loadN 6 (.t 18)),
 OP 20 (.call 87 [.t 19]),
 IA 21 6 14 15,
 OX (.store 6 (.t 21) (.t 20))]))
(.reg [] [MV 12 4,
 OP 13 (.bin .add (.t 12) (KI 1)),
 MV 4 13]))))
def claws_toGiveBoxS : ACode := (.seq (.reg [] [OP 2 (.mov KN)])
((.seq (.reg [] [MV 5 0,
 LE 6 5,
 OP 7 (.make 6 Z6 (.t 6) (.t 6)),
 MV 3 7])
((.seq ((.seq (.reg [] [OP 4 (.mov (KI 0))])
(.block 0 (.loop claws_toGiveBoxS_L0))))
((.seq (.reg [] [MV 22 3,
 MV 2 22])
(.ret))))))))
noncomputable def elaws_toGiveBoxS : Env := envL [(87, Flaws_toGiveBox)]
noncomputable def Flaws_toGiveBoxS : Fun := runF elaws_toGiveBoxS claws_toGiveBoxS [.t 2]
theorem elaws_toGiveBoxS_laws_toGiveBox : elaws_toGiveBoxS 87 = some Flaws_toGiveBox := by simp [elaws_toGiveBoxS, envL_cons]

/-! ### impl_in: function 96 -/
def cimpl_in : ACode := (.seq (.reg [] [MF 6])
((.seq (.reg [] [MV 7 0,
 MV 8 1,
 OP 9 (.bin .geq (.t 7) (.t 8)),
 MV 10 9,
 OT 11 10 (.mov (.t 0)),
 OT 12 10 (.mov (.t 2)),
 OT 13 10 (.bin .leq (.t 11) (.t 12)),
 OP 14 (.pick (.t 10) (.t 13) KF),
 MV 6 14])
(.ret))))
noncomputable def eimpl_in : Env := envL []
noncomputable def Fimpl_in : Fun := runF eimpl_in cimpl_in [.t 6]

/-! ### impl_boxOk: function 97 -/
def cimpl_boxOk : ACode := (.seq (.reg [1] [OP 1 (.boxL 6 (.t 0)),
 MF 2])
((.seq (.reg [] [FA 3 0 1,
 LD 4 3,
 OP 5 (.call 96 [.t 4, KI 0, KI 15]),
 MV 6 5,
 OT 7 6 (.faddr 1 (.t 1)),
 OT 8 6 (.load1 (.t 7)),
 OT 9 6 (.call 96 [.t 8, KI 0, KI 15]),
 OP 10 (.pick (.t 6) (.t 9) KF),
 MV 11 10,
 OT 12 11 (.faddr 2 (.t 1)),
 OT 13 11 (.load1 (.t 12)),
 OT 14 11 (.bin .geq (.t 13) (KI 0)),
 OP 15 (.pick (.t 11) (.t 14) KF),
 MV 16 15,
 OT 17 16 (.faddr 2 (.t 1)),
 OT 18 16 (.load1 (.t 17)),
 OT 19 16 (.faddr 3 (.t 1)),
 OT 20 16 (.load1 (.t 19)),
 OT 21 16 (.bin .leq (.t 18) (.t 20)),
 OP 22 (.pick (.t 16) (.t 21) KF),
 MV 23 22,
 OT 24 23 (.faddr 3 (.t 1)),
 OT 25 23 (.load1 (.t 24)),
 OT 26 23 (.bin .leq (.t 25) (KI 6)),
 OP 27 (.pick (.t 23) (.t 26) KF),
 MV 28 27,
 OT 29 28 (.faddr 4 (.t 1)),
 OT 30 28 (.load1 (.t 29)),
 OT 31 28 (.bin .geq (.t 30) (KI 0)),
 OP 32 (.pick (.t 28) (.t 31) KF),
 MV 33 32,
 OT 34 33 (.faddr 4 (.t 1)),
 OT 35 33 (.load1 (.t 34)),
 OT 36 33 (.faddr 5 (.t 1)),
 OT 37 33 (.load1 (.t 36)),
 OT 38 33 (.bin .leq (.t 35) (.t 37)),
 OP 39 (.pick (.t 33) (.t 38) KF),
 MV 40 39,
 OT 41 40 (.faddr 5 (.t 1)),
 OT 42 40 (.load1 (.t 41)),
 OT 43 40 (.bin .leq (.t 42) (KI 10000)),
 OP 44 (.pick (.t 40) (.t 43) KF),
 MV 2 44])
(.ret))))
noncomputable def eimpl_boxOk : Env := envL [(96, Fimpl_in)]
noncomputable def Fimpl_boxOk : Fun := runF eimpl_boxOk cimpl_boxOk [.t 2]
theorem eimpl_boxOk_impl_in : eimpl_boxOk 96 = some Fimpl_in := by simp [eimpl_boxOk, envL_cons]

/-! ### impl_beside: function 88 -/
def cimpl_beside : ACode := (.seq (.reg [2, 3] [OP 2 (.boxL 6 (.t 0)),
 OP 3 (.boxL 6 (.t 1)),
 MF 4])
((.seq (.reg [] [OP 5 (.loadN 6 (.t 2)),
 OP 6 (.call 97 [.t 5]),
 MV 7 6,
 OT 8 7 (.loadN 6 (.t 3)),
 OT 9 7 (.call 97 [.t 8]),
 OP 10 (.pick (.t 7) (.t 9) KF),
 MV 11 10,
 OT 12 11 (.faddr 0 (.t 2)),
 OT 13 11 (.load1 (.t 12)),
 OT 14 11 (.faddr 0 (.t 3)),
 OT 15 11 (.load1 (.t 14)),
 OT 16 11 (.bin .sub (.t 13) (.t 15)),
 OT 17 11 (.call 96 [.t 16, KI (-1), KI 1]),
 OP 18 (.pick (.t 11) (.t 17) KF),
 MV 19 18,
 OT 20 19 (.faddr 1 (.t 2)),
 OT 21 19 (.load1 (.t 20)),
 OT 22 19 (.faddr 1 (.t 3)),
 OT 23 19 (.load1 (.t 22)),
 OT 24 19 (.bin .sub (.t 21) (.t 23)),
 OT 25 19 (.call 96 [.t 24, KI (-1), KI 1]),
 OP 26 (.pick (.t 19) (.t 25) KF),
 MV 27 26,
 OT 28 27 (.faddr 2 (.t 2)),
 OT 29 27 (.load1 (.t 28)),
 OT 30 27 (.faddr 2 (.t 3)),
 OT 31 27 (.load1 (.t 30)),
 OT 32 27 (.maxs [.t 29, .t 31]),
 OT 33 27 (.faddr 3 (.t 2)),
 OT 34 27 (.load1 (.t 33)),
 OT 35 27 (.faddr 3 (.t 3)),
 OT 36 27 (.load1 (.t 35)),
 OT 37 27 (.mins [.t 34, .t 36]),
 OT 38 27 (.bin .leq (.t 32) (.t 37)),
 OP 39 (.pick (.t 27) (.t 38) KF),
 MV 4 39])
(.ret))))
noncomputable def eimpl_beside : Env := envL [(96, Fimpl_in), (97, Fimpl_boxOk)]
noncomputable def Fimpl_beside : Fun := runF eimpl_beside cimpl_beside [.t 4]
theorem eimpl_beside_impl_in : eimpl_beside 96 = some Fimpl_in := by simp [eimpl_beside, envL_cons]
theorem eimpl_beside_impl_boxOk : eimpl_beside 97 = some Fimpl_boxOk := by simp [eimpl_beside, envL_cons]

/-! ### impl_GiveNear: function 26 -/
def cimpl_GiveNear_L1 : ACode := (.seq (.reg [] [OP 18 (.bin .lss (.t 17) (.t 16))])
((.seq (.cond (.t 18) (.skip) (.exit 2))
((.seq (.block 3 ((.seq (.reg [8] [IA 19 6 15 17,
 OP 20 (.loadN 6 (.t 19)),
 OP 8 (.allocL 6 Z6),
 OX (.store 6 (.t 8) (.t 20))])
((.seq (.reg [] [OP 21 (.loadN 6 (.t 6)),
 OP 22 (.loadN 6 (.t 8)),
 OP 23 (.call 88 [.t 21, .t 22]),
 MV 24 23,
 OT 25 24 (.faddr 4 (.t 6)),
 OT 26 24 (.load1 (.t 25)),
 OT 27 24 (.faddr 4 (.t 8)),
 OT 28 24 (.load1 (.t 27)),
 OT 29 24 (.maxs [.t 26, .t 28]),
 OT 30 24 (.faddr 5 (.t 6)),
 OT 31 24 (.load1 (.t 30)),
 OT 32 24 (.faddr 5 (.t 8)),
 OT 33 24 (.load1 (.t 32)),
 OT 34 24 (.mins [.t 31, .t 33]),
 OT 35 24 (.bin .leq (.t 29) (.t 34)),
 OP 36 (.pick (.t 24) (.t 35) KF)])
(.cond (.t 36) ((.seq (.reg [] [OP 4 (.mov KT)])
(.ret))) (.skip)))))))
(.reg [] [OP 37 (.bin .add (.t 17) (KI 1)),
 MV 17 37]))))))
def cimpl_GiveNear_L0 : ACode := (.seq (.reg [] [OP 12 (.bin .lss (.t 11) (.t 10))])
((.seq (.cond (.t 12) (.skip) (.exit 0))
((.seq (.block 1 ((.seq (.reg [6] [IA 13 6 9 11,
 OP 14 (.loadN 6 (.t 13)),
 OP 6 (.allocL 6 Z6),
 OX (.store 6 (.t 6) (.t 14))])
((.seq (.reg [] [MV 15 1,
 LE 16 15,
 OP 17 (.mov (KI 0))])
(.block 2 (.loop cimpl_GiveNear_L1)))))))
(.reg [] [OP 38 (.bin .add (.t 11) (KI 1)),
 MV 11 38]))))))
def cimpl_GiveNear : ACode := (.seq (.reg [] [MF 4])
((.seq ((.seq (.reg [] [MV 9 0,
 LE 10 9,
 OP 11 (.mov (KI 0))])
(.block 0 (.loop cimpl_GiveNear_L0))))
((.seq (.reg [] [MF 4])
(.ret))))))
noncomputable def eimpl_GiveNear : Env := envL [(88, Fimpl_beside)]
noncomputable def Fimpl_GiveNear : Fun := runF eimpl_GiveNear cimpl_GiveNear [.t 4]
theorem eimpl_GiveNear_impl_beside : eimpl_GiveNear 88 = some Fimpl_beside := by simp [eimpl_GiveNear, envL_cons]

/-! ### laws_eqGiveBox: function 89 -/
def claws_eqGiveBox : ACode := (.seq (.reg [2, 3] [OP 2 (.boxL 6 (.t 0)),
 OP 3 (.boxL 6 (.t 1)),
 MF 4])
((.seq ((.seq (.reg [] [FA 5 0 2,
 LD 6 5,
 FA 7 0 3,
 LD 8 7,
 OP 9 (.bin .neq (.t 6) (.t 8))])
(.cond (.t 9) ((.seq (.reg [] [MF 4])
(.ret))) (.skip))))
((.seq ((.seq (.reg [] [FA 10 1 2,
 LD 11 10,
 FA 12 1 3,
 LD 13 12,
 OP 14 (.bin .neq (.t 11) (.t 13))])
(.cond (.t 14) ((.seq (.reg [] [MF 4])
(.ret))) (.skip))))
((.seq ((.seq (.reg [] [FA 15 2 2,
 LD 16 15,
 FA 17 2 3,
 LD 18 17,
 OP 19 (.bin .neq (.t 16) (.t 18))])
(.cond (.t 19) ((.seq (.reg [] [MF 4])
(.ret))) (.skip))))
((.seq ((.seq (.reg [] [FA 20 3 2,
 LD 21 20,
 FA 22 3 3,
 LD 23 22,
 OP 24 (.bin .neq (.t 21) (.t 23))])
(.cond (.t 24) ((.seq (.reg [] [MF 4])
(.ret))) (.skip))))
((.seq ((.seq (.reg [] [FA 25 4 2,
 LD 26 25,
 FA 27 4 3,
 LD 28 27,
 OP 29 (.bin .neq (.t 26) (.t 28))])
(.cond (.t 29) ((.seq (.reg [] [MF 4])
(.ret))) (.skip))))
((.seq ((.seq (.reg [] [FA 30 5 2,
 LD 31 30,
 FA 32 5 3,
 LD 33 32,
 OP 34 (.bin .neq (.t 31) (.t 33))])
(.cond (.t 34) ((.seq (.reg [] [MF 4])
(.ret))) (.skip))))
((.seq (.reg [] [OP 4 (.mov KT)])
(.ret))))))))))))))))
noncomputable def elaws_eqGiveBox : Env := envL []
noncomputable def Flaws_eqGiveBox : Fun := runF elaws_eqGiveBox claws_eqGiveBox [.t 4]

/-! ### laws_eqGiveBoxS: function 27 -/
def claws_eqGiveBoxS_L0 : ACode := (.seq ((.seq (.reg [] [MV 11 5,
 MV 12 0,
 LE 13 12,
 OP 14 (.bin .lss (.t 11) (.t 13))])
(.cond (.t 14) (.skip) (.exit 0))))
((.seq (.block 1 ((.seq (.regD [] [MV 17 0,
 MV 18 5,
 IA 19 6 17 18,
 OP 20 (.loadN 6 (.t 19)),
 MV 21 1,
 MV 22 5,
 IA 23 6 21 22,
 OP 24 (.loadN 6 (.t 23)),
 OP 25 (.call 89 [.t 20, .t 24]),
 OP 26 (.un .not (.t 25))] [])
(.cond (.t 26) ((.seq (.reg [] [MF 4])
(.ret))) (.skip)))))
(.reg [] [MV 15 5,
 OP 16 (.bin .add (.t 15) (KI 1)),
 MV 5 16]))))
def claws_eqGiveBoxS : ACode := (.seq (.reg [] [MF 4])
((.seq ((.seq (.reg [] [MV 6 0,
 LE 7 6,
 MV 8 1,
 LE 9 8,
 OP 10 (.bin .neq (.t 7) (.t 9))])
(.cond (.t 10) ((.seq (.reg [] [MF 4])
(.ret))) (.skip))))
((.seq ((.seq (.reg [] [OP 5 (.mov (KI 0))])
(.block 0 (.loop claws_eqGiveBoxS_L0))))
((.seq (.reg [] [OP 4 (.mov KT)])
(.ret))))))))
noncomputable def elaws_eqGiveBoxS : Env := envL [(89, Flaws_eqGiveBox)]
noncomputable def Flaws_eqGiveBoxS : Fun := runF elaws_eqGiveBoxS claws_eqGiveBoxS [.t 4]
theorem elaws_eqGiveBoxS_laws_eqGiveBox : elaws_eqGiveBoxS 89 = some Flaws_eqGiveBox := by simp [elaws_eqGiveBoxS, envL_cons]

/-! ### laws_FnExactGiveNear: function 4 -/
def claws_FnExactGiveNear : ACode := (.seq (.reg [] [MF 4])
((.seq (.reg [] [OP 5 (.mov (KI 1048576))])
((.seq (.reg [] [MV 10 0,
 MV 11 5,
 OP 12 (.call 23 [.t 10, .t 11]),
 MV 5 12])
((.seq ((.seq (.reg [] [MV 13 5,
 OP 14 (.bin .lss (.t 13) (KI 0))])
(.cond (.t 14) ((.seq (.reg [] [OP 4 (.mov KT)])
(.ret))) (.skip))))
((.seq (.reg [] [MV 15 1,
 MV 16 5,
 OP 17 (.call 23 [.t 15, .t 16]),
 MV 5 17])
((.seq ((.seq (.reg [] [MV 18 5,
 OP 19 (.bin .lss (.t 18) (KI 0))])
(.cond (.t 19) ((.seq (.reg [] [OP 4 (.mov KT)])
(.ret))) (.skip))))
((.seq (.reg [] [MV 20 0,
 OP 21 (.call 25 [.t 20]),
 MV 22 1,
 OP 23 (.call 25 [.t 22]),
 OP 24 (.call 24 [.t 21, .t 23]),
 MV 6 24])
((.seq (.reg [] [MV 25 0,
 OP 26 (.call 25 [.t 25]),
 MV 7 26])
((.seq (.reg [] [MV 27 1,
 OP 28 (.call 25 [.t 27]),
 MV 8 28])
((.seq (.reg [] [MV 29 7,
 MV 30 8,
 OP 31 (.call 26 [.t 29, .t 30]),
 MV 9 31])
((.seq ((.seq (.reg [] [MV 32 9,
 MV 33 6,
 OP 34 (.binB true (.t 32) (.t 33))])
(.cond (.t 34) ((.seq (.reg [] [MF 4])
(.ret))) (.skip))))
((.seq ((.seq (.reg [] [MV 35 7,
 MV 36 0,
 OP 37 (.call 25 [.t 36]),
 OP 38 (.call 27 [.t 35, .t 37]),
 OP 39 (.un .not (.t 38))])
(.cond (.t 39) ((.seq (.reg [] [MF 4])
(.ret))) (.skip))))
((.seq ((.seq (.reg [] [MV 40 8,
 MV 41 1,
 OP 42 (.call 25 [.t 41]),
 OP 43 (.call 27 [.t 40, .t 42]),
 OP 44 (.un .not (.t 43))])
(.cond (.t 44) ((.seq (.reg [] [MF 4])
(.ret))) (.skip))))
((.seq (.reg [] [OP 4 (.mov KT)])
(.ret))))))))))))))))))))))))))))
noncomputable def elaws_FnExactGiveNear : Env := envL [(23, Flaws_szGiveBoxS), (24, Fspec_GiveNear), (25, Flaws_toGiveBoxS), (26, Fimpl_GiveNear), (27, Flaws_eqGiveBoxS)]
noncomputable def Flaws_FnExactGiveNear : Fun := runF elaws_FnExactGiveNear claws_FnExactGiveNear [.t 4]
theorem elaws_FnExactGiveNear_laws_szGiveBoxS : elaws_FnExactGiveNear 23 = some Flaws_szGiveBoxS := by simp [elaws_FnExactGiveNear, envL_cons]
theorem elaws_FnExactGiveNear_spec_GiveNear : elaws_FnExactGiveNear 24 = some Fspec_GiveNear := by simp [elaws_FnExactGiveNear, envL_cons]
theorem elaws_FnExactGiveNear_laws_toGiveBoxS : elaws_FnExactGiveNear 25 = some Flaws_toGiveBoxS := by simp [elaws_FnExactGiveNear, envL_cons]
theorem elaws_FnExactGiveNear_impl_GiveNear : elaws_FnExactGiveNear 26 = some Fimpl_GiveNear := by simp [elaws_FnExactGiveNear, envL_cons]
theorem elaws_FnExactGiveNear_laws_eqGiveBoxS : elaws_FnExactGiveNear 27 = some Flaws_eqGiveBoxS := by simp [elaws_FnExactGiveNear, envL_cons]

/-! ### spec_GiveCut: function 28 -/
def cspec_GiveCut_L0 : ACode := (.seq ((.seq (.reg [] [MV 9 6,
 MV 10 0,
 LE 11 10,
 OP 12 (.bin .lss (.t 9) (.t 11))])
(.cond (.t 12) (.skip) (.exit 0))))
((.seq (.block 1 ((.seq (.reg [7] [MV 15 0,
 MV 16 6,
 IA 17 6 15 16,
 OP 18 (.loadN 6 (.t 17)),
 OP 7 (.allocL 6 Z6),
 OX (.store 6 (.t 7) (.t 18))])
((.seq ((.seq (.reg [] [FA 19 5 7,
 LD 20 19,
 MV 21 1,
 OP 22 (.bin .lss (.t 20) (.t 21))])
(.cond (.t 22) (.exit 1) (.skip))))
((.seq ((.seq (.reg [] [FA 23 4 7,
 LD 24 23,
 MV 25 1,
 OP 26 (.bin .lss (.t 24) (.t 25))])
(.cond (.t 26) (.reg [] [MV 27 1,
 FA 28 4 7,
 OX (.store 1 (.t 28) (.t 27))]) (.skip))))
(.reg [31] [MV 29 5,
 OP 30 (.loadN 6 (.t 7)),
 OP 31 (.mkSlL 6 1 Z6 [(0, 6, .t 30)]),
 OP 32 (.append 6 (.t 29) (.t 31)),
 MV 5 32]))))))))
(.reg [] [MV 13 6,
 OP 14 (.bin .add (.t 13) (KI 1)),
 MV 6 14]))))
def cspec_GiveCut : ACode := (.seq (.reg [] [OP 4 (.mov KN)])
((.seq (.reg [] [OP 8 (.mkSlH 6 0 Z6 []),
 MV 5 8])
((.seq ((.seq (.reg [] [OP 6 (.mov (KI 0))])
(.block 0 (.loop cspec_GiveCut_L0))))
((.seq (.reg [] [MV 33 5,
 MV 4 33])
(.ret))))))))
noncomputable def espec_GiveCut : Env := envL []
noncomputable def Fspec_GiveCut : Fun := runF espec_GiveCut cspec_GiveCut [.t 4]

/-! ### impl_GiveCut: function 29 -/
def cimpl_GiveCut_L0 : ACode := (.seq (.reg [] [OP 12 (.bin .lss (.t 11) (.t 10))])
((.seq (.cond (.t 12) (.skip) (.exit 0))
((.seq (.block 1 ((.seq (.reg [7] [IA 13 6 9 11,
 OP 14 (.loadN 6 (.t 13)),
 OP 7 (.allocL 6 Z6),
 OX (.store 6 (.t 7) (.t 14))])
((.seq (.reg [] [FA 15 5 7,
 LD 16 15,
 MV 17 1,
 OP 18 (.bin .geq (.t 16) (.t 17))])
(.cond (.t 18) ((.seq (.reg [] [FA 19 4 7,
 LD 20 19,
 MV 21 1,
 OP 22 (.maxs [.t 20, .t 21]),
 FA 23 4 7,
 OX (.store 1 (.t 23) (.t 22))])
(.reg [26] [MV 24 5,
 OP 25 (.loadN 6 (.t 7)),
 OP 26 (.mkSlL 6 1 Z6 [(0, 6, .t 25)]),
 OP 27 (.append 6 (.t 24) (.t 26)),
 MV 5 27]))) (.skip)))))))
(.reg [] [OP 28 (.bin .add (.t 11) (KI 1)),
 MV 11 28]))))))
def cimpl_GiveCut : ACode := (.seq (.reg [] [OP 4 (.mov KN)])
((.seq (.reg [] [OP 8 (.mkSlH 6 0 Z6 []),
 MV 5 8])
((.seq ((.seq (.reg [] [MV 9 0,
 LE 10 9,
 OP 11 (.mov (KI 0))])
(.block 0 (.loop cimpl_GiveCut_L0))))
((.seq (.reg [] [MV 29 5,
 MV 4 29])
(.ret))))))))
noncomputable def eimpl_GiveCut : Env := envL []
noncomputable def Fimpl_GiveCut : Fun := runF eimpl_GiveCut cimpl_GiveCut [.t 4]

/-! ### laws_markGiveBoxS: function 30 -/
def claws_markGiveBoxS_L0 : ACode := (.seq ((.seq (.reg [] [MV 6 5,
 MV 7 0,
 LE 8 7,
 OP 9 (.bin .lss (.t 6) (.t 8))])
(.cond (.t 9) (.skip) (.exit 0))))
((.seq (.block 1 ((.seq (.reg [] [MV 12 0,
 MV 13 5,
 MV 14 1,
 IA 15 6 12 13,
 FA 16 0 15,
 OX (.store 1 (.t 16) (.t 14))])
((.seq (.reg [] [MV 17 1,
 OP 18 (.bin .add (.t 17) (KI 1)),
 MV 1 18])
((.seq (.reg [] [MV 19 0,
 MV 20 5,
 MV 21 1,
 IA 22 6 19 20,
 FA 23 1 22,
 OX (.store 1 (.t 23) (.t 21))])
((.seq (.reg [] [MV 24 1,
 OP 25 (.bin .add (.t 24) (KI 1)),
 MV 1 25])
((.seq (.reg [] [MV 26 0,
 MV 27 5,
 MV 28 1,
 IA 29 6 26 27,
 FA 30 2 29,
 OX (.store 1 (.t 30) (.t 28))])
((.seq (.reg [] [MV 31 1,
 OP 32 (.bin .add (.t 31) (KI 1)),
 MV 1 32])
((.seq (.reg [] [MV 33 0,
 MV 34 5,
 MV 35 1,
 IA 36 6 33 34,
 FA 37 3 36,
 OX (.store 1 (.t 37) (.t 35))])
((.seq (.reg [] [MV 38 1,
 OP 39 (.bin .add (.t 38) (KI 1)),
 MV 1 39])
((.seq (.reg [] [MV 40 0,
 MV 41 5,
 MV 42 1,
 IA 43 6 40 41,
 FA 44 4 43,
 OX (.store 1 (.t 44) (.t 42))])
((.seq (.reg [] [MV 45 1,
 OP 46 (.bin .add (.t 45) (KI 1)),
 MV 1 46])
((.seq (.reg [] [MV 47 0,
 MV 48 5,
 MV 49 1,
 IA 50 6 47 48,
 FA 51 5 50,
 OX (.store 1 (.t 51) (.t 49))])
(.reg [] [MV 52 1,
 OP 53 (.bin .add (.t 52) (KI 1)),
 MV 1 53]))))))))))))))))))))))))
(.reg [] [MV 10 5,
 OP 11 (.bin .add (.t 10) (KI 1)),
 MV 5 11]))))
def claws_markGiveBoxS : ACode := (.seq (.reg [] [OP 4 (.mov (KI 0))])
((.seq ((.seq (.reg [] [OP 5 (.mov (KI 0))])
(.block 0 (.loop claws_markGiveBoxS_L0))))
((.seq (.reg [] [MV 54 1,
 MV 4 54])
(.ret))))))
noncomputable def elaws_markGiveBoxS : Env := envL []
noncomputable def Flaws_markGiveBoxS : Fun := runF elaws_markGiveBoxS claws_markGiveBoxS [.t 4]

/-! ### laws_heldGiveBoxS: function 31 -/
def claws_heldGiveBoxS_L0 : ACode := (.seq ((.seq (.reg [] [MV 6 5,
 MV 7 0,
 LE 8 7,
 OP 9 (.bin .lss (.t 6) (.t 8))])
(.cond (.t 9) (.skip) (.exit 0))))
((.seq (.block 1 ((.seq ((.seq (.reg [] [MV 12 0,
 MV 13 5,
 IA 14 6 12 13,
 FA 15 0 14,
 LD 16 15,
 MV 17 1,
 OP 18 (.bin .neq (.t 16) (.t 17))])
(.cond (.t 18) ((.seq (.reg [] [OP 4 (.mov (KI (-1)))])
(.ret))) (.skip))))
((.seq (.reg [] [MV 19 1,
 OP 20 (.bin .add (.t 19) (KI 1)),
 MV 1 20])
((.seq ((.seq (.reg [] [MV 21 0,
 MV 22 5,
 IA 23 6 21 22,
 FA 24 1 23,
 LD 25 24,
 MV 26 1,
 OP 27 (.bin .neq (.t 25) (.t 26))])
(.cond (.t 27) ((.seq (.reg [] [OP 4 (.mov (KI (-1)))])
(.ret))) (.skip))))
((.seq (.reg [] [MV 28 1,
 OP 29 (.bin .add (.t 28) (KI 1)),
 MV 1 29])
((.seq ((.seq (.reg [] [MV 30 0,
 MV 31 5,
 IA 32 6 30 31,
 FA 33 2 32,
 LD 34 33,
 MV 35 1,
 OP 36 (.bin .neq (.t 34) (.t 35))])
(.cond (.t 36) ((.seq (.reg [] [OP 4 (.mov (KI (-1)))])
(.ret))) (.skip))))
((.seq (.reg [] [MV 37 1,
 OP 38 (.bin .add (.t 37) (KI 1)),
 MV 1 38])
((.seq ((.seq (.reg [] [MV 39 0,
 MV 40 5,
 IA 41 6 39 40,
 FA 42 3 41,
 LD 43 42,
 MV 44 1,
 OP 45 (.bin .neq (.t 43) (.t 44))])
(.cond (.t 45) ((.seq (.reg [] [OP 4 (.mov (KI (-1)))])
(.ret))) (.skip))))
((.seq (.reg [] [MV 46 1,
 OP 47 (.bin .add (.t 46) (KI 1)),
 MV 1 47])
((.seq ((.seq (.reg [] [MV 48 0,
 MV 49 5,
 IA 50 6 48 49,
 FA 51 4 50,
 LD 52 51,
 MV 53 1,
 OP 54 (.bin .neq (.t 52) (.t 53))])
(.cond (.t 54) ((.seq (.reg [] [OP 4 (.mov (KI (-1)))])
(.ret))) (.skip))))
((.seq (.reg [] [MV 55 1,
 OP 56 (.bin .add (.t 55) (KI 1)),
 MV 1 56])
((.seq ((.seq (.reg [] [MV 57 0,
 MV 58 5,
 IA 59 6 57 58,
 FA 60 5 59,
 LD 61 60,
 MV 62 1,
 OP 63 (.bin .neq (.t 61) (.t 62))])
(.cond (.t 63) ((.seq (.reg [] [OP 4 (.mov (KI (-1)))])
(.ret))) (.skip))))
(.reg [] [MV 64 1,
 OP 65 (.bin .add (.t 64) (KI 1)),
 MV 1 65]))))))))))))))))))))))))
(.reg [] [MV 10 5,
 OP 11 (.bin .add (.t 10) (KI 1)),
 MV 5 11]))))
def claws_heldGiveBoxS : ACode := (.seq (.reg [] [OP 4 (.mov (KI 0))])
((.seq ((.seq (.reg [] [OP 5 (.mov (KI 0))])
(.block 0 (.loop claws_heldGiveBoxS_L0))))
((.seq (.reg [] [MV 66 1,
 MV 4 66])
(.ret))))))
noncomputable def elaws_heldGiveBoxS : Env := envL []
noncomputable def Flaws_heldGiveBoxS : Fun := runF elaws_heldGiveBoxS claws_heldGiveBoxS [.t 4]

/-! ### laws_FnExactGiveCut: function 5 -/
def claws_FnExactGiveCut : ACode := (.seq (.reg [] [MF 4])
((.seq (.reg [] [OP 5 (.mov (KI 1048576))])
((.seq (.reg [] [MV 13 0,
 MV 14 5,
 OP 15 (.call 23 [.t 13, .t 14]),
 MV 5 15])
((.seq ((.seq (.reg [] [MV 16 5,
 OP 17 (.bin .lss (.t 16) (KI 0))])
(.cond (.t 17) ((.seq (.reg [] [OP 4 (.mov KT)])
(.ret))) (.skip))))
((.seq (.reg [] [MV 18 0,
 OP 19 (.call 25 [.t 18]),
 MV 20 1,
 OP 21 (.call 28 [.t 19, .t 20]),
 MV 6 21])
((.seq (.reg [] [MV 22 0,
 OP 23 (.call 25 [.t 22]),
 MV 7 23])
((.seq (.reg [] [MV 24 7,
 MV 25 1,
 OP 26 (.call 29 [.t 24, .t 25]),
 MV 8 26])
((.seq ((.seq (.reg [] [MV 27 8,
 MV 28 6,
 OP 29 (.call 27 [.t 27, .t 28]),
 OP 30 (.un .not (.t 29))])
(.cond (.t 30) ((.seq (.reg [] [MF 4])
(.ret))) (.skip))))
((.seq ((.seq (.reg [] [MV 31 7,
 MV 32 0,
 OP 33 (.call 25 [.t 32]),
 OP 34 (.call 27 [.t 31, .t 33]),
 OP 35 (.un .not (.t 34))])
(.cond (.t 35) ((.seq (.reg [] [MF 4])
(.ret))) (.skip))))
((.seq (.reg [] [OP 9 (.mov (KI 1))])
((.seq (.reg [] [MV 36 7,
 MV 37 9,
 OP 38 (.call 30 [.t 36, .t 37]),
 MV 9 38])
((.seq ((.seq (.reg [] [MV 39 9,
 OP 40 (.bin .lss (.t 39) (KI 0)),
 MV 41 40,
 OF 42 41 (.mov (.t 8)),
 OF 43 41 (.mov (.t 6)),
 OF 44 41 (.call 27 [.t 42, .t 43]),
 OF 45 41 (.un .not (.t 44)),
 OP 46 (.pick (.t 41) KT (.t 45))])
(.cond (.t 46) ((.seq (.reg [] [MF 4])
(.ret))) (.skip))))
((.seq (.reg [] [OP 10 (.mov (KI 1))])
((.seq (.reg [] [MV 47 8,
 MV 48 10,
 OP 49 (.call 30 [.t 47, .t 48]),
 MV 10 49])
((.seq (.reg [] [OP 11 (.mov (KI 1))])
((.seq (.reg [] [MV 50 8,
 MV 51 11,
 OP 52 (.call 31 [.t 50, .t 51]),
 MV 11 52])
((.seq ((.seq (.reg [] [MV 53 11,
 OP 54 (.bin .lss (.t 53) (KI 0))])
(.cond (.t 54) ((.seq (.reg [] [MF 4])
(.ret))) (.skip))))
((.seq ((.seq (.reg [] [MV 55 11,
 MV 56 10,
 OP 57 (.bin .neq (.t 55) (.t 56))])
(.cond (.t 57) ((.seq (.reg [] [MF 4])
(.ret))) (.skip))))
((.seq (.reg [] [MV 58 0,
 OP 59 (.call 25 [.t 58]),
 MV 60 1,
 OP 61 (.call 29 [.t 59, .t 60]),
 MV 12 61])
((.seq ((.seq (.reg [] [MV 62 12,
 MV 63 6,
 OP 64 (.call 27 [.t 62, .t 63]),
 OP 65 (.un .not (.t 64))])
(.cond (.t 65) ((.seq (.reg [] [MF 4])
(.ret))) (.skip))))
((.seq (.reg [] [OP 11 (.mov (KI 1))])
((.seq (.reg [] [MV 66 8,
 MV 67 11,
 OP 68 (.call 31 [.t 66, .t 67]),
 MV 11 68])
((.seq ((.seq (.reg [] [MV 69 11,
 OP 70 (.bin .lss (.t 69) (KI 0))])
(.cond (.t 70) ((.seq (.reg [] [MF 4])
(.ret))) (.skip))))
((.seq ((.seq (.reg [] [MV 71 11,
 MV 72 10,
 OP 73 (.bin .neq (.t 71) (.t 72))])
(.cond (.t 73) ((.seq (.reg [] [MF 4])
(.ret))) (.skip))))
((.seq (.reg [] [OP 4 (.mov KT)])
(.ret))))))))))))))))))))))))))))))))))))))))))))))))))
noncomputable def elaws_FnExactGiveCut : Env := envL [(23, Flaws_szGiveBoxS), (25, Flaws_toGiveBoxS), (27, Flaws_eqGiveBoxS), (28, Fspec_GiveCut), (29, Fimpl_GiveCut), (30, Flaws_markGiveBoxS), (31, Flaws_heldGiveBoxS)]
noncomputable def Flaws_FnExactGiveCut : Fun := runF elaws_FnExactGiveCut claws_FnExactGiveCut [.t 4]
theorem elaws_FnExactGiveCut_laws_szGiveBoxS : elaws_FnExactGiveCut 23 = some Flaws_szGiveBoxS := by simp [elaws_FnExactGiveCut, envL_cons]
theorem elaws_FnExactGiveCut_laws_toGiveBoxS : elaws_FnExactGiveCut 25 = some Flaws_toGiveBoxS := by simp [elaws_FnExactGiveCut, envL_cons]
theorem elaws_FnExactGiveCut_laws_eqGiveBoxS : elaws_FnExactGiveCut 27 = some Flaws_eqGiveBoxS := by simp [elaws_FnExactGiveCut, envL_cons]
theorem elaws_FnExactGiveCut_spec_GiveCut : elaws_FnExactGiveCut 28 = some Fspec_GiveCut := by simp [elaws_FnExactGiveCut, envL_cons]
theorem elaws_FnExactGiveCut_impl_GiveCut : elaws_FnExactGiveCut 29 = some Fimpl_GiveCut := by simp [elaws_FnExactGiveCut, envL_cons]
theorem elaws_FnExactGiveCut_laws_markGiveBoxS : elaws_FnExactGiveCut 30 = some Flaws_markGiveBoxS := by simp [elaws_FnExactGiveCut, envL_cons]
theorem elaws_FnExactGiveCut_laws_heldGiveBoxS : elaws_FnExactGiveCut 31 = some Flaws_heldGiveBoxS := by simp [elaws_FnExactGiveCut, envL_cons]

end Go.Abs
