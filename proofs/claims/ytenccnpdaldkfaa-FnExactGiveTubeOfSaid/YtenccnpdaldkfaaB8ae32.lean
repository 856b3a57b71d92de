/-
  The codes of the functions, for the abstract machine (printed by wip/tools/gen3.py; not typed by hand).
-/
import Derived.Test.YtenccnpdaldkfaaB6a6d4
import Derived.Test.YtenccnpdaldkfaaB7f1f4
set_option linter.unusedSimpArgs false
set_option linter.unusedVariables false
namespace Go.Abs

/-! ### spec_l3Asked: function 133 -/
def cspec_l3Asked : ACode := (.seq (.reg [3] [OP 3 (.boxL 3 (.t 0)),
 MF 6])
((.seq (.reg [] [OP 7 (.loadN 3 (.t 3)),
 OP 8 (.call 49 [.t 7]),
 MV 9 8,
 OT 10 9 (.faddr 1 (.t 3)),
 OT 11 9 (.load1 (.t 10)),
 OT 12 9 (.mov (.t 1)),
 OT 13 9 (.call 33 [.t 11, .t 12]),
 OP 14 (.pick (.t 9) (.t 13) KF),
 MV 15 14,
 OT 16 15 (.mov (.t 2)),
 OT 17 15 (.call 91 [.t 16, KI 0, KI 300]),
 OP 18 (.pick (.t 15) (.t 17) KF),
 MV 6 18])
(.ret))))
noncomputable def espec_l3Asked : Env := envL [(33, Fspec_GiveTubeOk), (49, Fspec_GiveBookOk), (91, Fspec_l1In)]
noncomputable def Fspec_l3Asked : Fun := runF espec_l3Asked cspec_l3Asked [.t 6]
theorem espec_l3Asked_spec_GiveTubeOk : espec_l3Asked 33 = some Fspec_GiveTubeOk := by simp [espec_l3Asked, envL_cons]
theorem espec_l3Asked_spec_GiveBookOk : espec_l3Asked 49 = some Fspec_GiveBookOk := by simp [espec_l3Asked, envL_cons]
theorem espec_l3Asked_spec_l1In : espec_l3Asked 91 = some Fspec_l1In := by simp [espec_l3Asked, envL_cons]

/-! ### spec_l2Tube: function 146 -/
def cspec_l2Tube : ACode := (.seq (.reg [] [OP 2 (.mov KN)])
((.seq (.reg [] [OP 3 (.mkSlH 6 0 Z6 []),
 MV 4 0,
 OP 5 (.append 6 (.t 3) (.t 4)),
 MV 2 5])
(.ret))))
noncomputable def espec_l2Tube : Env := envL []
noncomputable def Fspec_l2Tube : Fun := runF espec_l2Tube cspec_l2Tube [.t 2]

/-! ### spec_l3Later: function 149 -/
def cspec_l3Later_L0 : ACode := (.seq ((.seq (.reg [] [MV 9 6,
 MV 10 5,
 LE 11 10,
 OP 12 (.bin .lss (.t 9) (.t 11))])
(.cond (.t 12) (.skip) (.exit 0))))
((.seq (.block 1 ((.seq (.reg [] [MV 15 5,
 MV 16 6,
 MV 17 5,
 MV 18 6,
 IA 19 6 17 18,
 FA 20 4 19,
 LD 21 20,
 MV 22 1,
 OP 23 (.bin .add (.t 21) (.t 22)),
 IA 24 6 15 16,
 FA 25 4 24,
 OX (.store 1 (.t 25) (.t 23))])
(.reg [] [MV 26 5,
 MV 27 6,
 MV 28 5,
 MV 29 6,
 IA 30 6 28 29,
 FA 31 5 30,
 LD 32 31,
 MV 33 1,
 OP 34 (.bin .add (.t 32) (.t 33)),
 IA 35 6 26 27,
 FA 36 5 35,
 OX (.store 1 (.t 36) (.t 34))]))))
(.reg [] [MV 13 6,
 OP 14 (.bin .add (.t 13) (KI 1)),
 MV 6 14]))))
def cspec_l3Later : ACode := (.seq (.reg [] [OP 4 (.mov KN)])
((.seq (.reg [] [MV 7 0,
 OP 8 (.call 146 [.t 7]),
 MV 5 8])
((.seq ((.seq (.reg [] [OP 6 (.mov (KI 0))])
(.block 0 (.loop cspec_l3Later_L0))))
((.seq (.reg [] [MV 37 5,
 MV 4 37])
(.ret))))))))
noncomputable def espec_l3Later : Env := envL [(146, Fspec_l2Tube)]
noncomputable def Fspec_l3Later : Fun := runF espec_l3Later cspec_l3Later [.t 4]
theorem espec_l3Later_spec_l2Tube : espec_l3Later 146 = some Fspec_l2Tube := by simp [espec_l3Later, envL_cons]

/-! ### spec_l3Can: function 134 -/
def cspec_l3Can : ACode := (.seq (.reg [4] [OP 4 (.boxL 3 (.t 0)),
 MF 8])
((.seq (.reg [] [MV 10 2,
 MV 11 3,
 OP 12 (.call 149 [.t 10, .t 11]),
 MV 9 12])
((.seq (.reg [] [FA 13 1 4,
 LD 14 13,
 MV 15 9,
 OP 16 (.call 33 [.t 14, .t 15]),
 MV 17 16,
 OT 18 17 (.loadN 3 (.t 4)),
 OT 19 17 (.mov (.t 1)),
 OT 20 17 (.mov (.t 9)),
 OT 21 17 (.call 131 [.t 18, .t 19, .t 20]),
 OP 22 (.pick (.t 17) (.t 21) KF),
 MV 8 22])
(.ret))))))
noncomputable def espec_l3Can : Env := envL [(33, Fspec_GiveTubeOk), (131, Fspec_l3Free), (149, Fspec_l3Later)]
noncomputable def Fspec_l3Can : Fun := runF espec_l3Can cspec_l3Can [.t 8]
theorem espec_l3Can_spec_GiveTubeOk : espec_l3Can 33 = some Fspec_GiveTubeOk := by simp [espec_l3Can, envL_cons]
theorem espec_l3Can_spec_l3Free : espec_l3Can 131 = some Fspec_l3Free := by simp [espec_l3Can, envL_cons]
theorem espec_l3Can_spec_l3Later : espec_l3Can 149 = some Fspec_l3Later := by simp [espec_l3Can, envL_cons]

/-! ### spec_GiveEarliest: function 55 -/
def cspec_GiveEarliest_L0 : ACode := (.seq ((.seq (.reg [] [MV 16 10,
 MV 17 3,
 OP 18 (.bin .leq (.t 16) (.t 17))])
(.cond (.t 18) (.skip) (.exit 0))))
((.seq (.block 1 ((.seq (.reg [] [OP 21 (.loadN 3 (.t 4)),
 MV 22 1,
 MV 23 2,
 MV 24 10,
 OP 25 (.call 134 [.t 21, .t 22, .t 23, .t 24])])
(.cond (.t 25) ((.seq (.reg [] [MV 26 10,
 MV 8 26,
 OP 9 (.mov KT)])
(.ret))) (.skip)))))
(.reg [] [MV 19 10,
 OP 20 (.bin .add (.t 19) (KI 1)),
 MV 10 20]))))
def cspec_GiveEarliest : ACode := (.seq (.reg [4] [OP 4 (.boxL 3 (.t 0)),
 OP 8 (.mov (KI 0)),
 MF 9])
((.seq ((.seq (.reg [] [OP 11 (.loadN 3 (.t 4)),
 MV 12 2,
 MV 13 3,
 OP 14 (.call 133 [.t 11, .t 12, .t 13]),
 OP 15 (.un .not (.t 14))])
(.cond (.t 15) ((.seq (.reg [] [OP 8 (.mov (KI 0)),
 MF 9])
(.ret))) (.skip))))
((.seq ((.seq (.reg [] [OP 10 (.mov (KI 0))])
(.block 0 (.loop cspec_GiveEarliest_L0))))
((.seq (.reg [] [OP 8 (.mov (KI 0)),
 MF 9])
(.ret))))))))
noncomputable def espec_GiveEarliest : Env := envL [(133, Fspec_l3Asked), (134, Fspec_l3Can)]
noncomputable def Fspec_GiveEarliest : Fun := runF espec_GiveEarliest cspec_GiveEarliest [.t 8, .t 9]
theorem espec_GiveEarliest_spec_l3Asked : espec_GiveEarliest 133 = some Fspec_l3Asked := by simp [espec_GiveEarliest, envL_cons]
theorem espec_GiveEarliest_spec_l3Can : espec_GiveEarliest 134 = some Fspec_l3Can := by simp [espec_GiveEarliest, envL_cons]

/-! ### impl_GiveBook_barred_1: function 166 -/
def cimpl_GiveBook_barred_1_L0 : ACode := (.seq ((.seq (.reg [] [MV 9 6,
 MV 10 1,
 OP 11 (.bin .leq (.t 9) (.t 10)),
 MV 12 11,
 OT 13 12 (.mov (.t 6)),
 OT 14 12 (.load1 (.t 2)),
 OT 15 12 (.bin .leq (.t 13) (.t 14)),
 OP 16 (.pick (.t 12) (.t 15) KF)])
(.cond (.t 16) (.skip) (.exit 0))))
((.seq (.block 1 (.reg [] [LD 19 3,
 MV 20 6,
 IA 21 1 19 20,
 OX (.store 1 (.t 21) KT)]))
(.reg [] [MV 17 6,
 OP 18 (.bin .add (.t 17) (KI 1)),
 MV 6 18]))))
def cimpl_GiveBook_barred_1 : ACode := (.seq (.reg [] [MV 7 0,
 OP 8 (.maxs [.t 7, KI 0]),
 MV 6 8])
(.block 0 (.loop cimpl_GiveBook_barred_1_L0)))
noncomputable def eimpl_GiveBook_barred_1 : Env := envL []
noncomputable def Fimpl_GiveBook_barred_1 : Fun := runF eimpl_GiveBook_barred_1 cimpl_GiveBook_barred_1 []

/-! ### impl_GiveBook_barred: function 135 -/
def cimpl_GiveBook_barred_L4 : ACode := (.seq (.reg [] [OP 69 (.bin .lss (.t 68) (.t 67))])
((.seq (.cond (.t 69) (.skip) (.exit 8))
((.seq (.block 9 ((.seq (.reg [20] [IA 70 6 66 68,
 OP 71 (.loadN 6 (.t 70)),
 OP 20 (.allocL 6 Z6),
 OX (.store 6 (.t 20) (.t 71))])
((.seq (.reg [] [OP 72 (.loadN 6 (.t 20)),
 OP 73 (.loadN 6 (.t 18)),
 OP 74 (.call 88 [.t 72, .t 73])])
(.cond (.t 74) (.reg [] [MV 75 10,
 FA 76 4 18,
 LD 77 76,
 FA 78 5 20,
 LD 79 78,
 OP 80 (.bin .sub (.t 77) (.t 79)),
 FA 81 5 18,
 LD 82 81,
 FA 83 4 20,
 LD 84 83,
 OP 85 (.bin .sub (.t 82) (.t 84)),
 OP 86 (.callV (.t 75) [.t 80, .t 85])]) (.skip)))))))
(.reg [] [OP 87 (.bin .add (.t 68) (KI 1)),
 MV 68 87]))))))
def cimpl_GiveBook_barred_L3 : ACode := (.seq (.reg [] [OP 63 (.bin .lss (.t 62) (.t 61))])
((.seq (.cond (.t 63) (.skip) (.exit 6))
((.seq (.block 7 ((.seq (.reg [18] [IA 64 6 60 62,
 OP 65 (.loadN 6 (.t 64)),
 OP 18 (.allocL 6 Z6),
 OX (.store 6 (.t 18) (.t 65))])
((.seq (.reg [] [MV 66 2,
 LE 67 66,
 OP 68 (.mov (KI 0))])
(.block 8 (.loop cimpl_GiveBook_barred_L4)))))))
(.reg [] [OP 88 (.bin .add (.t 62) (KI 1)),
 MV 62 88]))))))
def cimpl_GiveBook_barred_L2 : ACode := (.seq (.reg [] [OP 57 (.bin .lss (.t 56) (.t 55))])
((.seq (.cond (.t 57) (.skip) (.exit 4))
((.seq (.block 5 ((.seq (.reg [] [IA 58 1 54 56,
 LD 59 58,
 MV 16 59])
((.seq (.reg [] [MV 60 16,
 LE 61 60,
 OP 62 (.mov (KI 0))])
(.block 6 (.loop cimpl_GiveBook_barred_L3)))))))
(.reg [] [OP 89 (.bin .add (.t 56) (KI 1)),
 MV 56 89]))))))
def cimpl_GiveBook_barred_L1 : ACode := (.seq (.reg [] [OP 43 (.bin .lss (.t 42) (.t 41))])
((.seq (.cond (.t 43) (.skip) (.exit 2))
((.seq (.block 3 ((.seq (.reg [14] [IA 44 3 40 42,
 OP 45 (.loadN 3 (.t 44)),
 ⟨some 14, .allocL 3 [.str ⟨#[]⟩, .nils, .nils], none⟩,
 OX (.store 3 (.t 14) (.t 45))])
((.seq ((.seq (.reg [] [FA 46 0 14,
 LD 47 46,
 MV 48 1,
 OP 49 (.bin .eql (.t 47) (.t 48))])
(.cond (.t 49) (.exit 3) (.skip))))
((.seq (.reg [] [FA 50 1 14,
 LD 51 50,
 FA 52 2 14,
 LD 53 52,
 OP 54 (.mkSlH 1 2 [.nils] [(0, 1, .t 51), (1, 1, .t 53)]),
 LE 55 54,
 OP 56 (.mov (KI 0))])
(.block 4 (.loop cimpl_GiveBook_barred_L2)))))))))
(.reg [] [OP 90 (.bin .add (.t 42) (KI 1)),
 MV 42 90]))))))
def cimpl_GiveBook_barred_L0 : ACode := (.seq (.reg [] [OP 28 (.bin .lss (.t 27) (.t 26))])
((.seq (.cond (.t 28) (.skip) (.exit 0))
((.seq (.block 1 ((.seq (.reg [12] [IA 29 6 25 27,
 OP 30 (.loadN 6 (.t 29)),
 OP 12 (.allocL 6 Z6),
 OX (.store 6 (.t 12) (.t 30))])
(.reg [] [MV 31 10,
 FA 32 5 12,
 LD 33 32,
 OP 34 (.bin .sub (KI 10000) (.t 33)),
 OP 35 (.bin .add (.t 34) (KI 1)),
 LD 36 7,
 OP 37 (.callV (.t 31) [.t 35, .t 36])]))))
(.reg [] [OP 38 (.bin .add (.t 27) (KI 1)),
 MV 27 38]))))))
def cimpl_GiveBook_barred : ACode := (.seq (.reg [4] [OP 4 (.boxL 3 (.t 0)),
 OP 7 (.boxH 1 (.t 3)),
 OP 8 (.mov KN)])
((.seq (.reg [] [LD 21 7,
 OP 22 (.bin .add (.t 21) (KI 1)),
 OP 23 (.make 1 [.bool false] (.t 22) (.t 22)),
 OP 9 (.allocH 1 [.nils]),
 OX (.store 1 (.t 9) (.t 23))])
((.seq (.reg [] [OP 24 (.mkfn 166 [.t 7, .t 9]),
 MV 10 24])
((.seq ((.seq (.reg [] [MV 25 2,
 LE 26 25,
 OP 27 (.mov (KI 0))])
(.block 0 (.loop cimpl_GiveBook_barred_L0))))
((.seq ((.seq (.reg [] [FA 39 2 4,
 LD 40 39,
 LE 41 40,
 OP 42 (.mov (KI 0))])
(.block 2 (.loop cimpl_GiveBook_barred_L1))))
((.seq (.reg [] [LD 91 9,
 MV 8 91])
(.ret))))))))))))
noncomputable def eimpl_GiveBook_barred : Env := envL [(88, Fimpl_beside), (166, Fimpl_GiveBook_barred_1)]
noncomputable def Fimpl_GiveBook_barred : Fun := runF eimpl_GiveBook_barred cimpl_GiveBook_barred [.t 8]
theorem eimpl_GiveBook_barred_impl_beside : eimpl_GiveBook_barred 88 = some Fimpl_beside := by simp [eimpl_GiveBook_barred, envL_cons]
theorem eimpl_GiveBook_barred_impl_GiveBook_barred_1 : eimpl_GiveBook_barred 166 = some Fimpl_GiveBook_barred_1 := by simp [eimpl_GiveBook_barred, envL_cons]

/-! ### impl_GiveEarliest: function 56 -/
def cimpl_GiveEarliest_L0 : ACode := (.seq (.reg [] [OP 34 (.bin .lss (.t 33) (.t 32))])
((.seq (.cond (.t 34) (.skip) (.exit 0))
((.seq (.block 1 ((.seq (.reg [] [MV 35 33,
 IA 36 1 31 33,
 LD 37 36,
 MV 10 35,
 MV 11 37])
((.seq (.reg [] [MV 38 11,
 OP 39 (.un .not (.t 38))])
(.cond (.t 39) ((.seq (.reg [] [MV 40 10,
 MV 8 40,
 OP 9 (.mov KT)])
(.ret))) (.skip)))))))
(.reg [] [OP 41 (.bin .add (.t 33) (KI 1)),
 MV 33 41]))))))
def cimpl_GiveEarliest : ACode := (.seq (.reg [4] [OP 4 (.boxL 3 (.t 0)),
 OP 8 (.mov (KI 0)),
 MF 9])
((.seq ((.seq (.reg [] [OP 12 (.loadN 3 (.t 4)),
 OP 13 (.call 51 [.t 12]),
 OP 14 (.un .not (.t 13)),
 MV 15 14,
 OF 16 15 (.faddr 1 (.t 4)),
 OF 17 15 (.load1 (.t 16)),
 OF 18 15 (.mov (.t 2)),
 OF 19 15 (.call 35 [.t 17, .t 18]),
 OF 20 15 (.un .not (.t 19)),
 OP 21 (.pick (.t 15) KT (.t 20)),
 MV 22 21,
 OF 23 22 (.mov (.t 3)),
 OF 24 22 (.call 96 [.t 23, KI 0, KI 300]),
 OF 25 22 (.un .not (.t 24)),
 OP 26 (.pick (.t 22) KT (.t 25))])
(.cond (.t 26) ((.seq (.reg [] [OP 8 (.mov (KI 0)),
 MF 9])
(.ret))) (.skip))))
((.seq ((.seq (.reg [] [OP 27 (.loadN 3 (.t 4)),
 MV 28 1,
 MV 29 2,
 MV 30 3,
 OP 31 (.call 135 [.t 27, .t 28, .t 29, .t 30]),
 LE 32 31,
 OP 33 (.mov (KI 0))])
(.block 0 (.loop cimpl_GiveEarliest_L0))))
((.seq (.reg [] [OP 8 (.mov (KI 0)),
 MF 9])
(.ret))))))))
noncomputable def eimpl_GiveEarliest : Env := envL [(35, Fimpl_GiveTubeOk), (51, Fimpl_GiveBookOk), (96, Fimpl_in), (135, Fimpl_GiveBook_barred)]
noncomputable def Fimpl_GiveEarliest : Fun := runF eimpl_GiveEarliest cimpl_GiveEarliest [.t 8, .t 9]
theorem eimpl_GiveEarliest_impl_GiveTubeOk : eimpl_GiveEarliest 35 = some Fimpl_GiveTubeOk := by simp [eimpl_GiveEarliest, envL_cons]
theorem eimpl_GiveEarliest_impl_GiveBookOk : eimpl_GiveEarliest 51 = some Fimpl_GiveBookOk := by simp [eimpl_GiveEarliest, envL_cons]
theorem eimpl_GiveEarliest_impl_in : eimpl_GiveEarliest 96 = some Fimpl_in := by simp [eimpl_GiveEarliest, envL_cons]
theorem eimpl_GiveEarliest_impl_GiveBook_barred : eimpl_GiveEarliest 135 = some Fimpl_GiveBook_barred := by simp [eimpl_GiveEarliest, envL_cons]

/-! ### laws_FnExactGiveEarliest: function 12 -/
def claws_FnExactGiveEarliest : ACode := (.seq (.reg [4] [OP 4 (.boxL 3 (.t 0)),
 MF 8])
((.seq ((.seq (.reg [] [MV 16 1,
 OP 17 (.lenS (.t 16)),
 OP 18 (.bin .gtr (.t 17) (KI 1048576))])
(.cond (.t 18) ((.seq (.reg [] [OP 8 (.mov KT)])
(.ret))) (.skip))))
((.seq (.reg [] [OP 9 (.mov (KI 1048576))])
((.seq (.reg [] [OP 19 (.loadN 3 (.t 4)),
 MV 20 9,
 OP 21 (.call 48 [.t 19, .t 20]),
 MV 9 21])
((.seq ((.seq (.reg [] [MV 22 9,
 OP 23 (.bin .lss (.t 22) (KI 0))])
(.cond (.t 23) ((.seq (.reg [] [OP 8 (.mov KT)])
(.ret))) (.skip))))
((.seq (.reg [] [MV 24 2,
 MV 25 9,
 OP 26 (.call 23 [.t 24, .t 25]),
 MV 9 26])
((.seq ((.seq (.reg [] [MV 27 9,
 OP 28 (.bin .lss (.t 27) (KI 0))])
(.cond (.t 28) ((.seq (.reg [] [OP 8 (.mov KT)])
(.ret))) (.skip))))
((.seq (.reg [] [OP 30 (.loadN 3 (.t 4)),
 OP 31 (.call 50 [.t 30]),
 MV 32 1,
 MV 33 2,
 OP 34 (.call 25 [.t 33]),
 MV 35 3,
 OP 36 (.call 55 [.t 31, .t 32, .t 34, .t 35]),
 MV 29 36,
 OP 37 (.extract (.t 29) 0),
 OP 38 (.extract (.t 29) 1),
 MV 10 37,
 MV 11 38])
((.seq (.reg [12] [OP 39 (.loadN 3 (.t 4)),
 OP 40 (.call 50 [.t 39]),
 OP 12 (.allocL 3 [.int .i64 0, .nils, .nils]),
 OX (.store 3 (.t 12) (.t 40))])
((.seq (.reg [] [MV 41 2,
 OP 42 (.call 25 [.t 41]),
 MV 13 42])
((.seq (.reg [] [OP 44 (.loadN 3 (.t 12)),
 MV 45 1,
 MV 46 13,
 MV 47 3,
 OP 48 (.call 56 [.t 44, .t 45, .t 46, .t 47]),
 MV 43 48,
 OP 49 (.extract (.t 43) 0),
 OP 50 (.extract (.t 43) 1),
 MV 14 49,
 MV 15 50])
((.seq ((.seq (.reg [] [MV 51 14,
 MV 52 10,
 OP 53 (.bin .neq (.t 51) (.t 52)),
 MV 54 53,
 OF 55 54 (.mov (.t 15)),
 OF 56 54 (.mov (.t 11)),
 OF 57 54 (.binB true (.t 55) (.t 56)),
 OP 58 (.pick (.t 54) KT (.t 57))])
(.cond (.t 58) ((.seq (.reg [] [MF 8])
(.ret))) (.skip))))
((.seq ((.seq (.regD [] [OP 59 (.loadN 3 (.t 12)),
 OP 60 (.loadN 3 (.t 4)),
 OP 61 (.call 50 [.t 60]),
 OP 62 (.call 52 [.t 59, .t 61]),
 OP 63 (.un .not (.t 62))] [(2, 0)])
(.cond (.t 63) ((.seq (.reg [] [MF 8])
(.ret))) (.skip))))
((.seq ((.seq (.reg [] [MV 64 13,
 MV 65 2,
 OP 66 (.call 25 [.t 65]),
 OP 67 (.call 27 [.t 64, .t 66]),
 OP 68 (.un .not (.t 67))])
(.cond (.t 68) ((.seq (.reg [] [MF 8])
(.ret))) (.skip))))
((.seq (.reg [] [OP 8 (.mov KT)])
(.ret))))))))))))))))))))))))))))))
noncomputable def elaws_FnExactGiveEarliest : Env := envL [(23, Flaws_szGiveBoxS), (25, Flaws_toGiveBoxS), (27, Flaws_eqGiveBoxS), (48, Flaws_szGiveBook), (50, Flaws_toGiveBook), (52, Flaws_eqGiveBook), (55, Fspec_GiveEarliest), (56, Fimpl_GiveEarliest)]
noncomputable def Flaws_FnExactGiveEarliest : Fun := runF elaws_FnExactGiveEarliest claws_FnExactGiveEarliest [.t 8]
theorem elaws_FnExactGiveEarliest_laws_szGiveBoxS : elaws_FnExactGiveEarliest 23 = some Flaws_szGiveBoxS := by simp [elaws_FnExactGiveEarliest, envL_cons]
theorem elaws_FnExactGiveEarliest_laws_toGiveBoxS : elaws_FnExactGiveEarliest 25 = some Flaws_toGiveBoxS := by simp [elaws_FnExactGiveEarliest, envL_cons]
theorem elaws_FnExactGiveEarliest_laws_eqGiveBoxS : elaws_FnExactGiveEarliest 27 = some Flaws_eqGiveBoxS := by simp [elaws_FnExactGiveEarliest, envL_cons]
theorem elaws_FnExactGiveEarliest_laws_szGiveBook : elaws_FnExactGiveEarliest 48 = some Flaws_szGiveBook := by simp [elaws_FnExactGiveEarliest, envL_cons]
theorem elaws_FnExactGiveEarliest_laws_toGiveBook : elaws_FnExactGiveEarliest 50 = some Flaws_toGiveBook := by simp [elaws_FnExactGiveEarliest, envL_cons]
theorem elaws_FnExactGiveEarliest_laws_eqGiveBook : elaws_FnExactGiveEarliest 52 = some Flaws_eqGiveBook := by simp [elaws_FnExactGiveEarliest, envL_cons]
theorem elaws_FnExactGiveEarliest_spec_GiveEarliest : elaws_FnExactGiveEarliest 55 = some Fspec_GiveEarliest := by simp [elaws_FnExactGiveEarliest, envL_cons]
theorem elaws_FnExactGiveEarliest_impl_GiveEarliest : elaws_FnExactGiveEarliest 56 = some Fimpl_GiveEarliest := by simp [elaws_FnExactGiveEarliest, envL_cons]

/-! ### spec_GiveBars: function 57 -/
def cspec_GiveBars_L0 : ACode := (.seq ((.seq (.reg [] [MV 19 10,
 MV 20 3,
 OP 21 (.bin .leq (.t 19) (.t 20))])
(.cond (.t 21) (.skip) (.exit 0))))
((.seq (.block 1 ((.seq ((.seq (.reg [] [OP 24 (.loadN 3 (.t 4)),
 MV 25 1,
 MV 26 2,
 MV 27 10,
 OP 28 (.call 134 [.t 24, .t 25, .t 26, .t 27])])
(.cond (.t 28) (.exit 1) (.skip))))
((.seq (.reg [] [MV 29 9,
 LE 30 29,
 MV 11 30])
((.seq (.reg [] [MV 31 11,
 OP 32 (.bin .gtr (.t 31) (KI 0)),
 MV 33 32,
 OT 34 33 (.mov (.t 9)),
 OT 35 33 (.mov (.t 11)),
 OT 36 33 (.bin .sub (.t 35) (KI 1)),
 OT 37 33 (.iaddr 2 (.t 34) (.t 36)),
 OT 38 33 (.faddr 1 (.t 37)),
 OT 39 33 (.load1 (.t 38)),
 OT 40 33 (.mov (.t 10)),
 OT 41 33 (.bin .sub (.t 40) (KI 1)),
 OT 42 33 (.bin .eql (.t 39) (.t 41)),
 OP 43 (.pick (.t 33) (.t 42) KF)])
(.cond (.t 43) (.reg [] [MV 44 9,
 MV 45 11,
 OP 46 (.bin .sub (.t 45) (KI 1)),
 MV 47 10,
 IA 48 2 44 46,
 FA 49 1 48,
 OX (.store 1 (.t 49) (.t 47))]) (.reg [54] [MV 50 9,
 MV 51 10,
 MV 52 10,
 OP 53 (.build [.int .i64 0, .int .i64 0] [(0, 1, .t 51), (1, 1, .t 52)]),
 OP 54 (.mkSlL 2 1 [.int .i64 0, .int .i64 0] [(0, 2, .t 53)]),
 OP 55 (.append 2 (.t 50) (.t 54)),
 MV 9 55])))))))))
(.reg [] [MV 22 10,
 OP 23 (.bin .add (.t 22) (KI 1)),
 MV 10 23]))))
def cspec_GiveBars : ACode := (.seq (.reg [4] [OP 4 (.boxL 3 (.t 0)),
 OP 8 (.mov KN)])
((.seq (.reg [] [OP 12 (.mkSlH 2 0 [.int .i64 0, .int .i64 0] []),
 MV 9 12])
((.seq ((.seq (.reg [] [OP 13 (.loadN 3 (.t 4)),
 MV 14 2,
 MV 15 3,
 OP 16 (.call 133 [.t 13, .t 14, .t 15]),
 OP 17 (.un .not (.t 16))])
(.cond (.t 17) ((.seq (.reg [] [MV 18 9,
 MV 8 18])
(.ret))) (.skip))))
((.seq ((.seq (.reg [] [OP 10 (.mov (KI 0))])
(.block 0 (.loop cspec_GiveBars_L0))))
((.seq (.reg [] [MV 56 9,
 MV 8 56])
(.ret))))))))))
noncomputable def espec_GiveBars : Env := envL [(133, Fspec_l3Asked), (134, Fspec_l3Can)]
noncomputable def Fspec_GiveBars : Fun := runF espec_GiveBars cspec_GiveBars [.t 8]
theorem espec_GiveBars_spec_l3Asked : espec_GiveBars 133 = some Fspec_l3Asked := by simp [espec_GiveBars, envL_cons]
theorem espec_GiveBars_spec_l3Can : espec_GiveBars 134 = some Fspec_l3Can := by simp [espec_GiveBars, envL_cons]

/-! ### impl_GiveBars: function 58 -/
def cimpl_GiveBars_L0 : ACode := (.seq (.reg [] [OP 36 (.bin .lss (.t 35) (.t 34))])
((.seq (.cond (.t 36) (.skip) (.exit 0))
((.seq (.block 1 ((.seq (.reg [] [MV 37 35,
 IA 38 1 33 35,
 LD 39 38,
 MV 10 37,
 MV 11 39])
((.seq ((.seq (.reg [] [MV 40 11,
 OP 41 (.un .not (.t 40))])
(.cond (.t 41) (.exit 1) (.skip))))
((.seq ((.seq (.reg [] [MV 42 9,
 LE 43 42,
 OP 44 (.bin .sub (.t 43) (KI 1)),
 MV 12 44])
((.seq (.reg [] [MV 45 12,
 OP 46 (.bin .geq (.t 45) (KI 0)),
 MV 47 46,
 OT 48 47 (.mov (.t 9)),
 OT 49 47 (.mov (.t 12)),
 OT 50 47 (.iaddr 2 (.t 48) (.t 49)),
 OT 51 47 (.faddr 1 (.t 50)),
 OT 52 47 (.load1 (.t 51)),
 OT 53 47 (.mov (.t 10)),
 OT 54 47 (.bin .sub (.t 53) (KI 1)),
 OT 55 47 (.bin .eql (.t 52) (.t 54)),
 OP 56 (.pick (.t 47) (.t 55) KF)])
(.cond (.t 56) ((.seq (.reg [] [MV 57 9,
 MV 58 12,
 MV 59 10,
 IA 60 2 57 58,
 FA 61 1 60,
 OX (.store 1 (.t 61) (.t 59))])
(.exit 1))) (.skip))))))
(.reg [66] [MV 62 9,
 MV 63 10,
 MV 64 10,
 OP 65 (.build [.int .i64 0, .int .i64 0] [(0, 1, .t 63), (1, 1, .t 64)]),
 OP 66 (.mkSlL 2 1 [.int .i64 0, .int .i64 0] [(0, 2, .t 65)]),
 OP 67 (.append 2 (.t 62) (.t 66)),
 MV 9 67]))))))))
(.reg [] [OP 68 (.bin .add (.t 35) (KI 1)),
 MV 35 68]))))))
def cimpl_GiveBars : ACode := (.seq (.reg [4] [OP 4 (.boxL 3 (.t 0)),
 OP 8 (.mov KN)])
((.seq ((.seq (.reg [] [OP 13 (.loadN 3 (.t 4)),
 OP 14 (.call 51 [.t 13]),
 OP 15 (.un .not (.t 14)),
 MV 16 15,
 OF 17 16 (.faddr 1 (.t 4)),
 OF 18 16 (.load1 (.t 17)),
 OF 19 16 (.mov (.t 2)),
 OF 20 16 (.call 35 [.t 18, .t 19]),
 OF 21 16 (.un .not (.t 20)),
 OP 22 (.pick (.t 16) KT (.t 21)),
 MV 23 22,
 OF 24 23 (.mov (.t 3)),
 OF 25 23 (.call 96 [.t 24, KI 0, KI 300]),
 OF 26 23 (.un .not (.t 25)),
 OP 27 (.pick (.t 23) KT (.t 26))])
(.cond (.t 27) ((.seq (.reg [] [OP 8 (.mov KN)])
(.ret))) (.skip))))
((.seq (.reg [] [OP 28 (.mkSlH 2 0 [.int .i64 0, .int .i64 0] []),
 MV 9 28])
((.seq ((.seq (.reg [] [OP 29 (.loadN 3 (.t 4)),
 MV 30 1,
 MV 31 2,
 MV 32 3,
 OP 33 (.call 135 [.t 29, .t 30, .t 31, .t 32]),
 LE 34 33,
 OP 35 (.mov (KI 0))])
(.block 0 (.loop cimpl_GiveBars_L0))))
((.seq (.reg [] [MV 69 9,
 MV 8 69])
(.ret))))))))))
noncomputable def eimpl_GiveBars : Env := envL [(35, Fimpl_GiveTubeOk), (51, Fimpl_GiveBookOk), (96, Fimpl_in), (135, Fimpl_GiveBook_barred)]
noncomputable def Fimpl_GiveBars : Fun := runF eimpl_GiveBars cimpl_GiveBars [.t 8]
theorem eimpl_GiveBars_impl_GiveTubeOk : eimpl_GiveBars 35 = some Fimpl_GiveTubeOk := by simp [eimpl_GiveBars, envL_cons]
theorem eimpl_GiveBars_impl_GiveBookOk : eimpl_GiveBars 51 = some Fimpl_GiveBookOk := by simp [eimpl_GiveBars, envL_cons]
theorem eimpl_GiveBars_impl_in : eimpl_GiveBars 96 = some Fimpl_in := by simp [eimpl_GiveBars, envL_cons]
theorem eimpl_GiveBars_impl_GiveBook_barred : eimpl_GiveBars 135 = some Fimpl_GiveBook_barred := by simp [eimpl_GiveBars, envL_cons]

/-! ### laws_eqGiveSpan: function 136 -/
def claws_eqGiveSpan : ACode := (.seq (.reg [2, 3] [OP 2 (.boxL 2 (.t 0)),
 OP 3 (.boxL 2 (.t 1)),
 MF 4])
((.seq ((.seq (.reg [] [FA 5 0 2,
 LD 6 5,
 FA 7 0 3,
 LD 8 7,
 OP 9 (.bin .neq (.t 6) (.t 8))])
(.cond (.t 9) ((.seq (.reg [] [MF 4])
(.ret))) (.skip))))
((.seq ((.seq (.reg [] [FA 10 1 2,
 LD 11 10,
 FA 12 1 3,
 LD 13 12,
 OP 14 (.bin .neq (.t 11) (.t 13))])
(.cond (.t 14) ((.seq (.reg [] [MF 4])
(.ret))) (.skip))))
((.seq (.reg [] [OP 4 (.mov KT)])
(.ret))))))))
noncomputable def elaws_eqGiveSpan : Env := envL []
noncomputable def Flaws_eqGiveSpan : Fun := runF elaws_eqGiveSpan claws_eqGiveSpan [.t 4]

/-! ### laws_eqGiveSpanS: function 59 -/
def claws_eqGiveSpanS_L0 : ACode := (.seq ((.seq (.reg [] [MV 11 5,
 MV 12 0,
 LE 13 12,
 OP 14 (.bin .lss (.t 11) (.t 13))])
(.cond (.t 14) (.skip) (.exit 0))))
((.seq (.block 1 ((.seq (.regD [] [MV 17 0,
 MV 18 5,
 IA 19 2 17 18,
 OP 20 (.loadN 2 (.t 19)),
 MV 21 1,
 MV 22 5,
 IA 23 2 21 22,
 OP 24 (.loadN 2 (.t 23)),
 OP 25 (.call 136 [.t 20, .t 24]),
 OP 26 (.un .not (.t 25))] [])
(.cond (.t 26) ((.seq (.reg [] [MF 4])
(.ret))) (.skip)))))
(.reg [] [MV 15 5,
 OP 16 (.bin .add (.t 15) (KI 1)),
 MV 5 16]))))
def claws_eqGiveSpanS : ACode := (.seq (.reg [] [MF 4])
((.seq ((.seq (.reg [] [MV 6 0,
 LE 7 6,
 MV 8 1,
 LE 9 8,
 OP 10 (.bin .neq (.t 7) (.t 9))])
(.cond (.t 10) ((.seq (.reg [] [MF 4])
(.ret))) (.skip))))
((.seq ((.seq (.reg [] [OP 5 (.mov (KI 0))])
(.block 0 (.loop claws_eqGiveSpanS_L0))))
((.seq (.reg [] [OP 4 (.mov KT)])
(.ret))))))))
noncomputable def elaws_eqGiveSpanS : Env := envL [(136, Flaws_eqGiveSpan)]
noncomputable def Flaws_eqGiveSpanS : Fun := runF elaws_eqGiveSpanS claws_eqGiveSpanS [.t 4]
theorem elaws_eqGiveSpanS_laws_eqGiveSpan : elaws_eqGiveSpanS 136 = some Flaws_eqGiveSpan := by simp [elaws_eqGiveSpanS, envL_cons]

/-! ### laws_markText: function 167 -/
def claws_markText_L0 : ACode := (.seq ((.seq (.reg [] [MV 6 0,
 OP 7 (.bin .gtr (.t 6) (KI 0))])
(.cond (.t 7) (.skip) (.exit 0))))
(.block 1 ((.seq (.reg [] [MV 8 0,
 OP 9 (.bin .rem (.t 8) (KI 10)),
 OP 10 (.bin .add (KI 48) (.t 9)),
 OP 11 (.conv .u8 (.t 10)),
 OP 12 (.mkSlH 1 1 [.int .u8 0] [(0, 1, .t 11)]),
 OP 13 (.convSB (.t 12)),
 MV 14 3,
 OP 15 (.bin .add (.t 13) (.t 14)),
 MV 3 15])
(.reg [] [MV 16 0,
 OP 17 (.bin .quo (.t 16) (KI 10)),
 MV 0 17])))))
def claws_markText : ACode := (.seq (.reg [] [⟨some 2, .mov (.k (.v (.c (.str ⟨#[]⟩)))), none⟩])
((.seq ((.seq (.reg [] [MV 4 0,
 OP 5 (.bin .leq (.t 4) (KI 0))])
(.cond (.t 5) ((.seq (.reg [] [⟨some 2, .mov (.k (.v (.c (.str ⟨#[109, 48]⟩)))), none⟩])
(.ret))) (.skip))))
((.seq (.reg [] [⟨some 3, .mov (.k (.v (.c (.str ⟨#[]⟩)))), none⟩])
((.seq (.block 0 (.loop claws_markText_L0))
((.seq (.reg [] [MV 18 3,
 ⟨some 19, .bin .add (.k (.v (.c (.str ⟨#[109]⟩)))) (.t 18), none⟩,
 MV 2 19])
(.ret))))))))))
noncomputable def elaws_markText : Env := envL []
noncomputable def Flaws_markText : Fun := runF elaws_markText claws_markText [.t 2]

/-! ### laws_markGiveFieldS: function 137 -/
def claws_markGiveFieldS_L0 : ACode := (.seq ((.seq (.reg [] [MV 6 5,
 MV 7 0,
 LE 8 7,
 OP 9 (.bin .lss (.t 6) (.t 8))])
(.cond (.t 9) (.skip) (.exit 0))))
((.seq (.block 1 ((.seq (.reg [] [MV 12 0,
 MV 13 5,
 MV 14 1,
 OP 15 (.call 167 [.t 14]),
 IA 16 3 12 13,
 FA 17 0 16,
 OX (.store 1 (.t 17) (.t 15))])
((.seq (.reg [] [MV 18 1,
 OP 19 (.bin .add (.t 18) (KI 1)),
 MV 1 19])
((.seq (.reg [] [MV 20 0,
 MV 21 5,
 MV 22 1,
 IA 23 3 20 21,
 FA 24 1 23,
 OX (.store 1 (.t 24) (.t 22))])
((.seq (.reg [] [MV 25 1,
 OP 26 (.bin .add (.t 25) (KI 1)),
 MV 1 26])
((.seq (.reg [] [MV 27 0,
 MV 28 5,
 MV 29 1,
 IA 30 3 27 28,
 FA 31 2 30,
 OX (.store 1 (.t 31) (.t 29))])
(.reg [] [MV 32 1,
 OP 33 (.bin .add (.t 32) (KI 1)),
 MV 1 33]))))))))))))
(.reg [] [MV 10 5,
 OP 11 (.bin .add (.t 10) (KI 1)),
 MV 5 11]))))
def claws_markGiveFieldS : ACode := (.seq (.reg [] [OP 4 (.mov (KI 0))])
((.seq ((.seq (.reg [] [OP 5 (.mov (KI 0))])
(.block 0 (.loop claws_markGiveFieldS_L0))))
((.seq (.reg [] [MV 34 1,
 MV 4 34])
(.ret))))))
noncomputable def elaws_markGiveFieldS : Env := envL [(167, Flaws_markText)]
noncomputable def Flaws_markGiveFieldS : Fun := runF elaws_markGiveFieldS claws_markGiveFieldS [.t 4]
theorem elaws_markGiveFieldS_laws_markText : elaws_markGiveFieldS 167 = some Flaws_markText := by simp [elaws_markGiveFieldS, envL_cons]

/-! ### laws_markGiveHeldS: function 138 -/
def claws_markGiveHeldS_L0 : ACode := (.seq ((.seq (.reg [] [MV 6 5,
 MV 7 0,
 LE 8 7,
 OP 9 (.bin .lss (.t 6) (.t 8))])
(.cond (.t 9) (.skip) (.exit 0))))
((.seq (.block 1 ((.seq (.reg [] [MV 12 0,
 MV 13 5,
 MV 14 1,
 OP 15 (.call 167 [.t 14]),
 IA 16 3 12 13,
 FA 17 0 16,
 OX (.store 1 (.t 17) (.t 15))])
((.seq (.reg [] [MV 18 1,
 OP 19 (.bin .add (.t 18) (KI 1)),
 MV 1 19])
((.seq (.reg [] [MV 20 0,
 MV 21 5,
 IA 22 3 20 21,
 FA 23 1 22,
 LD 24 23,
 MV 25 1,
 OP 26 (.call 30 [.t 24, .t 25]),
 MV 1 26])
(.reg [] [MV 27 0,
 MV 28 5,
 IA 29 3 27 28,
 FA 30 2 29,
 LD 31 30,
 MV 32 1,
 OP 33 (.call 30 [.t 31, .t 32]),
 MV 1 33]))))))))
(.reg [] [MV 10 5,
 OP 11 (.bin .add (.t 10) (KI 1)),
 MV 5 11]))))
def claws_markGiveHeldS : ACode := (.seq (.reg [] [OP 4 (.mov (KI 0))])
((.seq ((.seq (.reg [] [OP 5 (.mov (KI 0))])
(.block 0 (.loop claws_markGiveHeldS_L0))))
((.seq (.reg [] [MV 34 1,
 MV 4 34])
(.ret))))))
noncomputable def elaws_markGiveHeldS : Env := envL [(30, Flaws_markGiveBoxS), (167, Flaws_markText)]
noncomputable def Flaws_markGiveHeldS : Fun := runF elaws_markGiveHeldS claws_markGiveHeldS [.t 4]
theorem elaws_markGiveHeldS_laws_markGiveBoxS : elaws_markGiveHeldS 30 = some Flaws_markGiveBoxS := by simp [elaws_markGiveHeldS, envL_cons]
theorem elaws_markGiveHeldS_laws_markText : elaws_markGiveHeldS 167 = some Flaws_markText := by simp [elaws_markGiveHeldS, envL_cons]

/-! ### laws_markGiveBook: function 60 -/
def claws_markGiveBook : ACode := (.seq (.reg [2] [OP 2 (.boxL 3 (.t 0)),
 OP 4 (.mov (KI 0))])
((.seq (.reg [] [FA 5 1 2,
 LD 6 5,
 MV 7 1,
 OP 8 (.call 137 [.t 6, .t 7]),
 MV 1 8])
((.seq (.reg [] [FA 9 2 2,
 LD 10 9,
 MV 11 1,
 OP 12 (.call 138 [.t 10, .t 11]),
 MV 1 12])
((.seq (.reg [] [MV 13 1,
 MV 4 13])
(.ret))))))))
noncomputable def elaws_markGiveBook : Env := envL [(137, Flaws_markGiveFieldS), (138, Flaws_markGiveHeldS)]
noncomputable def Flaws_markGiveBook : Fun := runF elaws_markGiveBook claws_markGiveBook [.t 4]
theorem elaws_markGiveBook_laws_markGiveFieldS : elaws_markGiveBook 137 = some Flaws_markGiveFieldS := by simp [elaws_markGiveBook, envL_cons]
theorem elaws_markGiveBook_laws_markGiveHeldS : elaws_markGiveBook 138 = some Flaws_markGiveHeldS := by simp [elaws_markGiveBook, envL_cons]

/-! ### laws_markGiveSpanS: function 61 -/
def claws_markGiveSpanS_L0 : ACode := (.seq ((.seq (.reg [] [MV 6 5,
 MV 7 0,
 LE 8 7,
 OP 9 (.bin .lss (.t 6) (.t 8))])
(.cond (.t 9) (.skip) (.exit 0))))
((.seq (.block 1 ((.seq (.reg [] [MV 12 0,
 MV 13 5,
 MV 14 1,
 IA 15 2 12 13,
 FA 16 0 15,
 OX (.store 1 (.t 16) (.t 14))])
((.seq (.reg [] [MV 17 1,
 OP 18 (.bin .add (.t 17) (KI 1)),
 MV 1 18])
((.seq (.reg [] [MV 19 0,
 MV 20 5,
 MV 21 1,
 IA 22 2 19 20,
 FA 23 1 22,
 OX (.store 1 (.t 23) (.t 21))])
(.reg [] [MV 24 1,
 OP 25 (.bin .add (.t 24) (KI 1)),
 MV 1 25]))))))))
(.reg [] [MV 10 5,
 OP 11 (.bin .add (.t 10) (KI 1)),
 MV 5 11]))))
def claws_markGiveSpanS : ACode := (.seq (.reg [] [OP 4 (.mov (KI 0))])
((.seq ((.seq (.reg [] [OP 5 (.mov (KI 0))])
(.block 0 (.loop claws_markGiveSpanS_L0))))
((.seq (.reg [] [MV 26 1,
 MV 4 26])
(.ret))))))
noncomputable def elaws_markGiveSpanS : Env := envL []
noncomputable def Flaws_markGiveSpanS : Fun := runF elaws_markGiveSpanS claws_markGiveSpanS [.t 4]

/-! ### laws_heldGiveSpanS: function 62 -/
def claws_heldGiveSpanS_L0 : ACode := (.seq ((.seq (.reg [] [MV 6 5,
 MV 7 0,
 LE 8 7,
 OP 9 (.bin .lss (.t 6) (.t 8))])
(.cond (.t 9) (.skip) (.exit 0))))
((.seq (.block 1 ((.seq ((.seq (.reg [] [MV 12 0,
 MV 13 5,
 IA 14 2 12 13,
 FA 15 0 14,
 LD 16 15,
 MV 17 1,
 OP 18 (.bin .neq (.t 16) (.t 17))])
(.cond (.t 18) ((.seq (.reg [] [OP 4 (.mov (KI (-1)))])
(.ret))) (.skip))))
((.seq (.reg [] [MV 19 1,
 OP 20 (.bin .add (.t 19) (KI 1)),
 MV 1 20])
((.seq ((.seq (.reg [] [MV 21 0,
 MV 22 5,
 IA 23 2 21 22,
 FA 24 1 23,
 LD 25 24,
 MV 26 1,
 OP 27 (.bin .neq (.t 25) (.t 26))])
(.cond (.t 27) ((.seq (.reg [] [OP 4 (.mov (KI (-1)))])
(.ret))) (.skip))))
(.reg [] [MV 28 1,
 OP 29 (.bin .add (.t 28) (KI 1)),
 MV 1 29]))))))))
(.reg [] [MV 10 5,
 OP 11 (.bin .add (.t 10) (KI 1)),
 MV 5 11]))))
def claws_heldGiveSpanS : ACode := (.seq (.reg [] [OP 4 (.mov (KI 0))])
((.seq ((.seq (.reg [] [OP 5 (.mov (KI 0))])
(.block 0 (.loop claws_heldGiveSpanS_L0))))
((.seq (.reg [] [MV 30 1,
 MV 4 30])
(.ret))))))
noncomputable def elaws_heldGiveSpanS : Env := envL []
noncomputable def Flaws_heldGiveSpanS : Fun := runF elaws_heldGiveSpanS claws_heldGiveSpanS [.t 4]

/-! ### laws_FnExactGiveBars: function 13 -/
def claws_FnExactGiveBars : ACode := (.seq (.reg [4] [OP 4 (.boxL 3 (.t 0)),
 MF 8])
((.seq ((.seq (.reg [] [MV 18 1,
 OP 19 (.lenS (.t 18)),
 OP 20 (.bin .gtr (.t 19) (KI 1048576))])
(.cond (.t 20) ((.seq (.reg [] [OP 8 (.mov KT)])
(.ret))) (.skip))))
((.seq (.reg [] [OP 9 (.mov (KI 1048576))])
((.seq (.reg [] [OP 21 (.loadN 3 (.t 4)),
 MV 22 9,
 OP 23 (.call 48 [.t 21, .t 22]),
 MV 9 23])
((.seq ((.seq (.reg [] [MV 24 9,
 OP 25 (.bin .lss (.t 24) (KI 0))])
(.cond (.t 25) ((.seq (.reg [] [OP 8 (.mov KT)])
(.ret))) (.skip))))
((.seq (.reg [] [MV 26 2,
 MV 27 9,
 OP 28 (.call 23 [.t 26, .t 27]),
 MV 9 28])
((.seq ((.seq (.reg [] [MV 29 9,
 OP 30 (.bin .lss (.t 29) (KI 0))])
(.cond (.t 30) ((.seq (.reg [] [OP 8 (.mov KT)])
(.ret))) (.skip))))
((.seq (.reg [] [OP 31 (.loadN 3 (.t 4)),
 OP 32 (.call 50 [.t 31]),
 MV 33 1,
 MV 34 2,
 OP 35 (.call 25 [.t 34]),
 MV 36 3,
 OP 37 (.call 57 [.t 32, .t 33, .t 35, .t 36]),
 MV 10 37])
((.seq (.reg [11] [OP 38 (.loadN 3 (.t 4)),
 OP 39 (.call 50 [.t 38]),
 OP 11 (.allocL 3 [.int .i64 0, .nils, .nils]),
 OX (.store 3 (.t 11) (.t 39))])
((.seq (.reg [] [MV 40 2,
 OP 41 (.call 25 [.t 40]),
 MV 12 41])
((.seq (.reg [] [OP 42 (.loadN 3 (.t 11)),
 MV 43 1,
 MV 44 12,
 MV 45 3,
 OP 46 (.call 58 [.t 42, .t 43, .t 44, .t 45]),
 MV 13 46])
((.seq ((.seq (.reg [] [MV 47 13,
 MV 48 10,
 OP 49 (.call 59 [.t 47, .t 48]),
 OP 50 (.un .not (.t 49))])
(.cond (.t 50) ((.seq (.reg [] [MF 8])
(.ret))) (.skip))))
((.seq ((.seq (.regD [] [OP 51 (.loadN 3 (.t 11)),
 OP 52 (.loadN 3 (.t 4)),
 OP 53 (.call 50 [.t 52]),
 OP 54 (.call 52 [.t 51, .t 53]),
 OP 55 (.un .not (.t 54))] [(2, 0)])
(.cond (.t 55) ((.seq (.reg [] [MF 8])
(.ret))) (.skip))))
((.seq ((.seq (.reg [] [MV 56 12,
 MV 57 2,
 OP 58 (.call 25 [.t 57]),
 OP 59 (.call 27 [.t 56, .t 58]),
 OP 60 (.un .not (.t 59))])
(.cond (.t 60) ((.seq (.reg [] [MF 8])
(.ret))) (.skip))))
((.seq (.reg [] [OP 14 (.mov (KI 1))])
((.seq (.reg [] [OP 61 (.loadN 3 (.t 11)),
 MV 62 14,
 OP 63 (.call 60 [.t 61, .t 62]),
 MV 14 63])
((.seq (.reg [] [MV 64 12,
 MV 65 14,
 OP 66 (.call 30 [.t 64, .t 65]),
 MV 14 66])
((.seq ((.seq (.reg [] [MV 67 14,
 OP 68 (.bin .lss (.t 67) (KI 0)),
 MV 69 68,
 OF 70 69 (.mov (.t 13)),
 OF 71 69 (.mov (.t 10)),
 OF 72 69 (.call 59 [.t 70, .t 71]),
 OF 73 69 (.un .not (.t 72)),
 OP 74 (.pick (.t 69) KT (.t 73))])
(.cond (.t 74) ((.seq (.reg [] [MF 8])
(.ret))) (.skip))))
((.seq (.reg [] [OP 15 (.mov (KI 1))])
((.seq (.reg [] [MV 75 13,
 MV 76 15,
 OP 77 (.call 61 [.t 75, .t 76]),
 MV 15 77])
((.seq (.reg [] [OP 16 (.mov (KI 1))])
((.seq (.reg [] [MV 78 13,
 MV 79 16,
 OP 80 (.call 62 [.t 78, .t 79]),
 MV 16 80])
((.seq ((.seq (.reg [] [MV 81 16,
 OP 82 (.bin .lss (.t 81) (KI 0))])
(.cond (.t 82) ((.seq (.reg [] [MF 8])
(.ret))) (.skip))))
((.seq ((.seq (.reg [] [MV 83 16,
 MV 84 15,
 OP 85 (.bin .neq (.t 83) (.t 84))])
(.cond (.t 85) ((.seq (.reg [] [MF 8])
(.ret))) (.skip))))
((.seq (.reg [] [OP 86 (.loadN 3 (.t 4)),
 OP 87 (.call 50 [.t 86]),
 MV 88 1,
 MV 89 2,
 OP 90 (.call 25 [.t 89]),
 MV 91 3,
 OP 92 (.call 58 [.t 87, .t 88, .t 90, .t 91]),
 MV 17 92])
((.seq ((.seq (.reg [] [MV 93 17,
 MV 94 10,
 OP 95 (.call 59 [.t 93, .t 94]),
 OP 96 (.un .not (.t 95))])
(.cond (.t 96) ((.seq (.reg [] [MF 8])
(.ret))) (.skip))))
((.seq (.reg [] [OP 16 (.mov (KI 1))])
((.seq (.reg [] [MV 97 13,
 MV 98 16,
 OP 99 (.call 62 [.t 97, .t 98]),
 MV 16 99])
((.seq ((.seq (.reg [] [MV 100 16,
 OP 101 (.bin .lss (.t 100) (KI 0))])
(.cond (.t 101) ((.seq (.reg [] [MF 8])
(.ret))) (.skip))))
((.seq ((.seq (.reg [] [MV 102 16,
 MV 103 15,
 OP 104 (.bin .neq (.t 102) (.t 103))])
(.cond (.t 104) ((.seq (.reg [] [MF 8])
(.ret))) (.skip))))
((.seq (.reg [] [OP 8 (.mov KT)])
(.ret))))))))))))))))))))))))))))))))))))))))))))))))))))))))))))))
noncomputable def elaws_FnExactGiveBars : Env := envL [(23, Flaws_szGiveBoxS), (25, Flaws_toGiveBoxS), (27, Flaws_eqGiveBoxS), (30, Flaws_markGiveBoxS), (48, Flaws_szGiveBook), (50, Flaws_toGiveBook), (52, Flaws_eqGiveBook), (57, Fspec_GiveBars), (58, Fimpl_GiveBars), (59, Flaws_eqGiveSpanS), (60, Flaws_markGiveBook), (61, Flaws_markGiveSpanS), (62, Flaws_heldGiveSpanS)]
noncomputable def Flaws_FnExactGiveBars : Fun := runF elaws_FnExactGiveBars claws_FnExactGiveBars [.t 8]
theorem elaws_FnExactGiveBars_laws_szGiveBoxS : elaws_FnExactGiveBars 23 = some Flaws_szGiveBoxS := by simp [elaws_FnExactGiveBars, envL_cons]
theorem elaws_FnExactGiveBars_laws_toGiveBoxS : elaws_FnExactGiveBars 25 = some Flaws_toGiveBoxS := by simp [elaws_FnExactGiveBars, envL_cons]
theorem elaws_FnExactGiveBars_laws_eqGiveBoxS : elaws_FnExactGiveBars 27 = some Flaws_eqGiveBoxS := by simp [elaws_FnExactGiveBars, envL_cons]
theorem elaws_FnExactGiveBars_laws_markGiveBoxS : elaws_FnExactGiveBars 30 = some Flaws_markGiveBoxS := by simp [elaws_FnExactGiveBars, envL_cons]
theorem elaws_FnExactGiveBars_laws_szGiveBook : elaws_FnExactGiveBars 48 = some Flaws_szGiveBook := by simp [elaws_FnExactGiveBars, envL_cons]
theorem elaws_FnExactGiveBars_laws_toGiveBook : elaws_FnExactGiveBars 50 = some Flaws_toGiveBook := by simp [elaws_FnExactGiveBars, envL_cons]
theorem elaws_FnExactGiveBars_laws_eqGiveBook : elaws_FnExactGiveBars 52 = some Flaws_eqGiveBook := by simp [elaws_FnExactGiveBars, envL_cons]
theorem elaws_FnExactGiveBars_spec_GiveBars : elaws_FnExactGiveBars 57 = some Fspec_GiveBars := by simp [elaws_FnExactGiveBars, envL_cons]
theorem elaws_FnExactGiveBars_impl_GiveBars : elaws_FnExactGiveBars 58 = some Fimpl_GiveBars := by simp [elaws_FnExactGiveBars, envL_cons]
theorem elaws_FnExactGiveBars_laws_eqGiveSpanS : elaws_FnExactGiveBars 59 = some Flaws_eqGiveSpanS := by simp [elaws_FnExactGiveBars, envL_cons]
theorem elaws_FnExactGiveBars_laws_markGiveBook : elaws_FnExactGiveBars 60 = some Flaws_markGiveBook := by simp [elaws_FnExactGiveBars, envL_cons]
theorem elaws_FnExactGiveBars_laws_markGiveSpanS : elaws_FnExactGiveBars 61 = some Flaws_markGiveSpanS := by simp [elaws_FnExactGiveBars, envL_cons]
theorem elaws_FnExactGiveBars_laws_heldGiveSpanS : elaws_FnExactGiveBars 62 = some Flaws_heldGiveSpanS := by simp [elaws_FnExactGiveBars, envL_cons]

end Go.Abs

/-
  Tubes later; what is asked; the first that is free: the specification's side.
-/

namespace Go.Abs
set_option linter.unusedSimpArgs false
set_option linter.unusedVariables false
attribute [local simp] AW_skip AW_exit AW_ret AW_seq AW_block AW_cond CW_ite AW_reg AW_regD AW_regDc RD_nil RD_cons keyEq hasP hasH hasL chkL chkH recK recH inRange lightKey BookC.len BookC.take WishC.len WishC.take RW_nil RW_cons RW_guard GW_t GW_f GW_gt GW_gf GW_tup GY_some GY_tt GY_ff gd_t gd_f pk_t pk_f pk_and pk_or pk_andc pk_orc pk_bool gd_gd SW_some ThenQ_normal ThenQ_exit ThenQ_ret BlockQ_normal BlockQ_exit BlockQ_ret kill_nil kill_cons killT_at killL_at upo_some upo_none ev_t ev_k FinQ_ret FinQ_normal upd_eq upd_ne argsT_zero argsT_succ aop.eq_1 aop_pick aop.eq_3 aop.eq_4 aop.eq_5 aop.eq_6 aop.eq_7 aop.eq_8 aop.eq_9 aop.eq_10 aop.eq_11 aop.eq_12 aop.eq_13 aop.eq_14 aop.eq_15 aop.eq_16 aop.eq_17 aop.eq_18 aop.eq_19 aop.eq_20 aop.eq_21 aop_slice_hi aop_slice_lo aop.eq_23 aop.eq_24 aop.eq_26 aop.eq_27 aop.eq_28 aop.eq_29 aop.eq_31 aop.eq_32 aop_maxs2 aop_mins2 aop_mins3 aop_len aop_iaddr Av.bool? Av.ptr? Av.int? Av.int64? Av.str? Av.agg? ressA resA resOf noLoc_int noLoc_bool noLoc_str noLoc_nils noLoc_nilp noLoc_ptrl noLoc_ptrr noLoc_sll noLoc_slr noLoc_fn noLoc_tc noLoc_tagg noLoc_av noLoc_atup ce_c tv_v cells_c cells_agg noLocs keyLoc evs callA St.set St.get unAv binCe killV_int killV_bool killV_str killV_nils killV_nilp killV_agg killV_no killV_tup killV_ptrl killV_ptrr killV_sll killV_slr killV_fn killV_noLoc fillA repl
attribute [local congr] GY_congr
def laterB (d : Int) (t : List Box) : List Box := t.map fun b => { b with tin := wrap64 (b.tin + d), tout := wrap64 (b.tout + d) }
def canB (b : Book) (n : ByteArray) (t : List Box) (d : Int) : Bool := tubeOkB b.fields (laterB d t) && freeB b n (laterB d t)
def askedB (b : Book) (t : List Box) (most : Int) : Bool := bookOkB b && tubeOkB b.fields t && inB most 0 300

theorem append_copy {α : Type} {F : Fl α} {S : Nat → Prop} {h : Heap} {c : Ce} {l : List α} (ho : HOk h) (hc : RdF F S h c l) (hl : l.length ≤ lim) :
    ∃ c' h' fp, NewF F h h' c' l fp ∧ ∀ lc, appendA ⟨h.push ⟨[], F.sz, true⟩, lc⟩ F.sz (.sl (.inr h.nx) 0 0 .own) c = some (c', ⟨h', lc⟩) := by
  have n0 := NewF.push (F := F) ho ([] : List α) 0 rfl
  have hc' := hc.keep ho n0.fr
  obtain ⟨c'', h'', fp'', h1, _, _, _, h5⟩ := n0.appends l (by simpa using hl)
  exact ⟨c'', h'', fp'', h1, fun lc => h5 lc c (hc'.elemsA lc) hc'.slen⟩
theorem spec_l2Tube {S : Nat → Prop} (h : Heap) (c : Ce) (l : List Box) (ho : HOk h) (hc : RdF fBox S h c l) (hl : l.length ≤ 1048576) :
    ∃ c' h' fp, Fspec_l2Tube [.v (.c c)] h = some (.v (.c c'), h') ∧ NewF fBox h h' c' l fp := by
  unfold Fspec_l2Tube
  obtain ⟨c', h', fp, nw, hap⟩ := append_copy ho hc (by simp only [lim]; omega)
  simp only [show fBox.sz = 6 from rfl] at hap
  refine ⟨c', h', fp, runF_eq ?_, nw⟩
  simp [cspec_l2Tube, hc.noLoc, nw.own.noLoc, St.push, hap]
theorem spec_l3Later {S : Nat → Prop} (h : Heap) (c : Ce) (l : List Box) (d : Int) (ho : HOk h) (hc : RdF fBox S h c l) (hl : l.length ≤ 1048576) :
    ∃ c' h' fp, Fspec_l3Later [.v (.c c), .v (.c (.int .i64 d))] h = some (.v (.c c'), h') ∧ NewF fBox h h' c' (laterB d l) fp := by
  unfold Fspec_l3Later
  obtain ⟨c1, h1, fp1, t1, nw⟩ := spec_l2Tube h c l ho hc hl
  have hle : ∀ i, (l.take i ++ l.drop i).length = l.length := by intro i; simp
  rcases nw.own with ⟨rfl, rfl, rfl⟩ | ⟨b, rfl, hb, rfl⟩
  · refine ⟨.nils, h1, [], runF_eq ?_, by simpa [laterB] using nw⟩
    simp [cspec_l3Later, hc.noLoc, espec_l3Later_spec_l2Tube, t1]
    refine AW_each 0 (fun i x => x.1 5 = .v (.c .nils) ∧ x.1 6 = .v (.c (.int .i64 0)) ∧ x.2 = ⟨h1, nol⟩) (by simp) (by intros; omega) ?_
    rintro ⟨T, s⟩ ⟨h5, h6, rfl⟩
    simp only at h5 h6
    simp [cspec_l3Later_L0, h5, h6, Ce.slen]
  · have hblt := nw.own.lt nw.fr.ok (b := b) (by simp)
    have hge := nw.ge b (by simp)
    refine ⟨.sl (.inr b) 0 l.length .own, ⟨h1.nx, upd h1.hp b (some ⟨fBox.all (laterB d l), 6, true⟩)⟩, [b], runF_eq ?_, ⟨.inr ⟨b, by simp [laterB], by simp [upd, fBox], rfl⟩, ?_, by simpa using hge⟩⟩
    · simp [cspec_l3Later, hc.noLoc, espec_l3Later_spec_l2Tube, t1]
      refine AW_each l.length (fun i x => x.1 1 = .v (.c (.int .i64 d)) ∧ x.1 5 = .v (.c (.sl (.inr b) 0 l.length .own)) ∧ x.1 6 = .v (.c (.int .i64 i)) ∧ x.2 = ⟨⟨h1.nx, upd h1.hp b (some ⟨fBox.all ((laterB d l).take i ++ l.drop i), 6, true⟩)⟩, nol⟩) ?_ ?_ ?_
      · have := upd_same hb
        simp only [show fBox.sz = 6 from rfl] at this
        simp [this]
      · rintro i ⟨T, s⟩ hin ⟨h1', h5, h6, rfl⟩
        simp only at h1' h5 h6
        have hll : (laterB d l).length = l.length := by simp [laterB]
        obtain ⟨L, hL⟩ : ∃ L, L = (laterB d l).take i ++ l.drop i := ⟨_, rfl⟩
        rw [← hL]
        have hiL : i < L.length := by rw [hL]; simp [hll]; omega
        have hLi : L[i] = l[i] := by
          simp only [hL]
          rw [List.getElem_append_right (by simp; omega)]
          simp [hll, Nat.min_eq_left (Nat.le_of_lt hin)]
        have hlen : (fBox.all L).length = l.length * 6 := by rw [fBox.all_length, hL]; simp [fBox, hll]; omega
        have hlenS : ∀ B, (fBox.all (L.set i B)).length = l.length * 6 := by intro B; rw [fBox.all_length, List.length_set, ← fBox.all_length, hlen]
        have s4 := fBox.all_set L (i := i) (k := 4) hiL (by decide) (b := { l[i] with tin := wrap64 (l[i].tin + d) }) (v := .int .i64 (wrap64 (l[i].tin + d))) (by simp [fBox, hLi])
        have s5 := fBox.all_set (L.set i { l[i] with tin := wrap64 (l[i].tin + d) }) (i := i) (k := 5) (by simpa using hiL) (by decide) (b := { l[i] with tin := wrap64 (l[i].tin + d), tout := wrap64 (l[i].tout + d) }) (v := .int .i64 (wrap64 (l[i].tout + d))) (by simp [fBox])
        rw [List.set_set] at s5
        have c4 := fBox.all_cell L (i := i) (k := 4) hiL (by decide)
        have c5 := fBox.all_cell (L.set i { l[i] with tin := wrap64 (l[i].tin + d) }) (i := i) (k := 5) (by simpa using hiL) (by decide)
        simp only [show fBox.sz = 6 from rfl, Nat.add_assoc, Nat.reduceAdd] at s4 s5 c4 c5
        have c4' : (fBox.all L)[i * 6 + 4]? = some (.int .i64 l[i].tin) := by rw [c4, hLi]; rfl
        have c5' : (fBox.all (L.set i { l[i] with tin := wrap64 (l[i].tin + d) }))[i * 6 + 5]? = some (.int .i64 l[i].tout) := by rw [c5, List.getElem_set_self]; rfl
        have g4 := hlenS { l[i] with tin := wrap64 (l[i].tin + d) }
        have q5 : i * 6 + 5 ≤ l.length * 6 := by omega
        have q6 : i * 6 + 6 ≤ l.length * 6 := by omega
        have hw := wrap1 (i := i) (by omega)
        have he2 : (Ce.sl (Sum.inr b) 0 l.length .own).eltAt 6 i = some (.inr b, i * 6) := by simp [Ce.eltAt, hin]
        have hend : L.set i { l[i] with tin := wrap64 (l[i].tin + d), tout := wrap64 (l[i].tout + d) } = (laterB d l).take (i + 1) ++ l.drop (i + 1) := by
          rw [hL, ← take_drop_set _ _ hin (by rw [hll]; omega)]
          simp [laterB]
        unfold wrap64 at s4 s5 c5' g4 hend
        simp [cspec_l3Later_L0, h1', h5, h6, Ce.slen, hin, he2, upd_upd, hlen, c4', s4, g4, c5', s5, q5, q6, hw]
        rw [hend]
      · rintro ⟨T, s⟩ ⟨h1', h5, h6, rfl⟩
        simp only at h1' h5 h6
        have e1 : (laterB d l).take l.length = laterB d l := List.take_of_length_le (by simp [laterB])
        simp [cspec_l3Later_L0, h1', h5, h6, Ce.slen, e1]
    · have c1 := Chg.one nw.fr.ok hblt (some ⟨fBox.all (laterB d l), 6, true⟩)
      refine ⟨Nat.le_trans nw.fr.nx c1.nx, fun x hx => ?_, c1.ok⟩
      rw [c1.hp x (Nat.lt_of_lt_of_le hx nw.fr.nx) (by simp; omega)]
      exact nw.fr.hp x hx

theorem laterB_length (d : Int) (t : List Box) : (laterB d t).length = t.length := by simp [laterB]
theorem spec_l3Can {S S' : Nat → Prop} (h : Heap) (c : BookC) (b : Book) (n : ByteArray) (ct : Ce) (t : List Box) (d : Int) (ho : HOk h) (hr : RdBook S h c b) (ht : RdF fBox S' h ct t) (hl : t.length ≤ 1048576) :
    ∃ h', Fspec_l3Can [.v (.agg c.ces), .v (.c (.str n)), .v (.c ct), .v (.c (.int .i64 d))] h = some (.v (.c (.bool (canB b n t d))), h') ∧ Fr h h' := by
  unfold Fspec_l3Can canB
  obtain ⟨c1, h1, fp1, t1, nw⟩ := spec_l3Later h ct t d ho ht hl
  have hx := nw.rd (by rw [laterB_length]; omega)
  have hr1 := hr.keep ho nw.fr
  have T1 := spec_GiveTubeOk h1 _ _ _ _ hr1.f hx
  have F1 := spec_l3Free h1 c b n c1 _ hr1 hx
  have hf := hr.f.noLoc
  refine ⟨h1, runF_eq ?_, nw.fr⟩
  have hcf : c.ces[1]? = some c.f := rfl
  simp +contextual [cspec_l3Can, ht.noLoc, hf, hcf, nw.own.noLoc, espec_l3Can_spec_l3Later, espec_l3Can_spec_GiveTubeOk, espec_l3Can_spec_l3Free, t1, T1, F1]
theorem spec_l3Asked {S S' : Nat → Prop} (h : Heap) (c : BookC) (b : Book) (ct : Ce) (t : List Box) (most : Int) (hr : RdBook S h c b) (hw : BookWf b) (ht : RdF fBox S' h ct t) :
    Fspec_l3Asked [.v (.agg c.ces), .v (.c ct), .v (.c (.int .i64 most))] h = some (.v (.c (.bool (askedB b t most))), h) := by
  unfold Fspec_l3Asked askedB
  have B := spec_GiveBookOk h c b hr hw
  have T1 := spec_GiveTubeOk h _ _ _ _ hr.f ht
  have hf := hr.f.noLoc
  have hcf : c.ces[1]? = some c.f := rfl
  refine runF_eq ?_
  simp +contextual [cspec_l3Asked, ht.noLoc, hf, hcf, espec_l3Asked_spec_GiveBookOk, espec_l3Asked_spec_GiveTubeOk, espec_l3Asked_spec_l1In, spec_l1In, B, T1, Bool.and_assoc]
/-- The first below n that p lets by. -/
def firstN (n : Nat) (p : Nat → Bool) : Option Nat := (List.range n).find? p
theorem firstN_some {n i : Nat} {p : Nat → Bool} (hi : i < n) (hp : p i = true) (h : ∀ j, j < i → p j = false) : firstN n p = some i := by
  unfold firstN
  rw [List.find?_eq_some_iff_getElem]
  refine ⟨hp, i, by simpa using hi, by simp, fun j hj => by simp [h j hj]⟩
theorem firstN_none {n : Nat} {p : Nat → Bool} (h : ∀ j, j < n → p j = false) : firstN n p = none := by
  unfold firstN
  rw [List.find?_eq_none]
  intro x hx
  simp at hx
  simp [h x hx]
def earlB (b : Book) (n : ByteArray) (t : List Box) (most : Int) : Option Nat := if askedB b t most = true then firstN (most.toNat + 1) (fun d => canB b n t d) else none

theorem spec_GiveEarliest {S S' : Nat → Prop} (h : Heap) (c : BookC) (b : Book) (n : ByteArray) (ct : Ce) (t : List Box) (most : Int) (ho : HOk h) (hr : RdBook S h c b) (hw : BookWf b) (ht : RdF fBox S' h ct t) (hl : t.length ≤ 1048576) :
    ∃ h', Fspec_GiveEarliest [.v (.agg c.ces), .v (.c (.str n)), .v (.c ct), .v (.c (.int .i64 most))] h = some (.tup [.c (.int .i64 (((earlB b n t most).getD 0 : Nat) : Int)), .c (.bool (earlB b n t most).isSome)], h') ∧ Fr h h' := by
  unfold Fspec_GiveEarliest
  have A := spec_l3Asked h c b ct t most hr hw ht
  cases ha : askedB b t most
  · rw [ha] at A
    have : earlB b n t most = none := by simp [earlB, ha]
    refine ⟨h, runF_eq ?_, Fr.refl ho⟩
    simp [cspec_GiveEarliest, ht.noLoc, espec_GiveEarliest_spec_l3Asked, A, this]
  rw [ha] at A
  have hm : 0 ≤ most ∧ most ≤ 300 := by
    simp only [askedB, inB, Bool.and_eq_true, decide_eq_true_eq] at ha
    exact ha.2
  have he : earlB b n t most = firstN (most.toNat + 1) (fun d => canB b n t d) := by simp [earlB, ha]
  obtain ⟨v, h', h1, rfl, h2⟩ := runF_of (env := espec_GiveEarliest) (code := cspec_GiveEarliest) (rs := [.t 8, .t 9]) (args := [.v (.agg c.ces), .v (.c (.str n)), .v (.c ct), .v (.c (.int .i64 most))]) (h := h) (K := fun v h' => v = .tup [.c (.int .i64 (((earlB b n t most).getD 0 : Nat) : Int)), .c (.bool (earlB b n t most).isSome)] ∧ Fr h h') (by
    simp [cspec_GiveEarliest, ht.noLoc, espec_GiveEarliest_spec_l3Asked, A]
    refine AW_for1 (most.toNat + 1) (fun d => canB b n t d) (fun i x => x.1 1 = .v (.c (.str n)) ∧ x.1 2 = .v (.c ct) ∧ x.1 3 = .v (.c (.int .i64 most)) ∧ x.1 4 = .v (.c (.ptr (.inl 4) 0)) ∧ x.1 10 = .v (.c (.int .i64 i)) ∧ x.2.lc 4 = some ⟨c.ces, 3, true⟩ ∧ Fr h x.2.h) (by simp [Fr.refl ho, ht.noLoc]) ?_ ?_
    · rintro i ⟨T, ⟨h', lc⟩⟩ hin hpre ⟨h1, h2, h3, h4, h10, hl4, fr⟩
      simp only at h1 h2 h3 h4 h10 hl4 fr
      obtain ⟨h'', C, fr2⟩ := spec_l3Can h' c b n ct t i fr.ok (hr.keep ho fr) (ht.keep ho fr) hl
      have hle : (i : Int) ≤ most := by omega
      have hw1 := wrap1 (i := i) (by omega)
      cases hc : canB b n t i
      · rw [hc] at C
        simp [cspec_GiveEarliest_L0, h1, h2, h3, h4, h10, hl4, ht.noLoc, hle, espec_GiveEarliest_spec_l3Can, C, hw1, fr.trans fr2]
      · rw [hc] at C
        have := firstN_some (p := fun d => canB b n t d) hin hc hpre
        rw [← he] at this
        simp [cspec_GiveEarliest_L0, h1, h2, h3, h4, h10, hl4, ht.noLoc, hle, espec_GiveEarliest_spec_l3Can, C, this, fr.trans fr2]
    · rintro ⟨T, ⟨h', lc⟩⟩ hno ⟨h1, h2, h3, h4, h10, hl4, fr⟩
      simp only at h1 h2 h3 h4 h10 hl4 fr
      have hle : ¬ (max most 0 + 1 ≤ most) := by omega
      have := firstN_none (p := fun d => canB b n t d) hno
      rw [← he] at this
      simp [cspec_GiveEarliest_L0, h3, h10, hle, this, fr])
  exact ⟨h', h1, h2⟩
end Go.Abs

/-
  What is barred: the program's walk.
-/

namespace Go.Abs
set_option linter.unusedSimpArgs false
set_option linter.unusedVariables false
attribute [local simp] AW_skip AW_exit AW_ret AW_seq AW_block AW_cond CW_ite AW_reg AW_regD AW_regDc RD_nil RD_cons keyEq hasP hasH hasL chkL chkH recK recH inRange lightKey BookC.len BookC.take WishC.len WishC.take RW_nil RW_cons RW_guard GW_t GW_f GW_gt GW_gf GW_tup GY_some GY_tt GY_ff gd_t gd_f pk_t pk_f pk_and pk_or pk_andc pk_orc pk_bool gd_gd SW_some ThenQ_normal ThenQ_exit ThenQ_ret BlockQ_normal BlockQ_exit BlockQ_ret kill_nil kill_cons killT_at killL_at upo_some upo_none ev_t ev_k FinQ_ret FinQ_normal upd_eq upd_ne argsT_zero argsT_succ aop.eq_1 aop_pick aop.eq_3 aop.eq_4 aop.eq_5 aop.eq_6 aop.eq_7 aop.eq_8 aop.eq_9 aop.eq_10 aop.eq_11 aop.eq_12 aop.eq_13 aop.eq_14 aop.eq_15 aop.eq_16 aop.eq_17 aop.eq_18 aop.eq_19 aop.eq_20 aop.eq_21 aop_slice_hi aop_slice_lo aop.eq_23 aop.eq_24 aop.eq_26 aop.eq_27 aop.eq_28 aop.eq_29 aop.eq_31 aop.eq_32 aop_maxs2 aop_mins2 aop_mins3 aop_len aop_iaddr Av.bool? Av.ptr? Av.int? Av.int64? Av.str? Av.agg? ressA resA resOf noLoc_int noLoc_bool noLoc_str noLoc_nils noLoc_nilp noLoc_ptrl noLoc_ptrr noLoc_sll noLoc_slr noLoc_fn noLoc_tc noLoc_tagg noLoc_av noLoc_atup ce_c tv_v cells_c cells_agg noLocs keyLoc evs callA St.set St.get unAv binCe killV_int killV_bool killV_str killV_nils killV_nilp killV_agg killV_no killV_tup killV_ptrl killV_ptrr killV_sll killV_slr killV_fn killV_noLoc fillA repl ptrs List.map
attribute [local congr] GY_congr
def boolL (m : Nat) (f : Nat → Bool) : List Bool := (List.range (m + 1)).map f
theorem boolL_length (m : Nat) (f : Nat → Bool) : (boolL m f).length = m + 1 := by simp [boolL]
theorem boolL_set {m d : Nat} {f : Nat → Bool} (hd : d ≤ m) : (boolL m f).set d true = boolL m (fun x => f x || x == d) := by
  apply List.ext_getElem
  · simp [boolL]
  · intro i h1 h2
    simp [boolL, List.getElem_set]
    by_cases hid : d = i
    · simp [hid]
    · simp [hid, Ne.symm hid]
theorem boolL_congr {m : Nat} {f g : Nat → Bool} (h : ∀ d, d ≤ m → f d = g d) : boolL m f = boolL m g := by
  apply List.map_congr_left
  intro d hd
  simp at hd
  exact h d (by omega)
def barF (lo hi : Int) (f : Nat → Bool) : Nat → Bool := fun d => f d || (decide (lo ≤ (d : Int)) && decide ((d : Int) ≤ hi))

/-- The memory of the bars: most, the variable that holds them, and they themselves. -/
structure BarSt (h : Heap) (m bm bo q : Nat) (H : Heap) (f : Nat → Bool) : Prop where
  fr : Fr h H
  rm : H.hp bm = some ⟨[.int .i64 m], 1, true⟩
  ro : H.hp bo = some ⟨[.sl (.inr q) 0 (m + 1) .own], 1, true⟩
  rq : H.hp q = some ⟨fBool.all (boolL m f), 1, true⟩
  gm : h.nx ≤ bm
  go : h.nx ≤ bo
  gq : h.nx ≤ q
  n1 : bm ≠ q
  n2 : bo ≠ q
  n3 : bm ≠ bo
theorem BarSt.set {h : Heap} {m bm bo q : Nat} {H : Heap} {f : Nat → Bool} (s : BarSt h m bm bo q H f) (g : Nat → Bool) : BarSt h m bm bo q ⟨H.nx, upd H.hp q (some ⟨fBool.all (boolL m g), 1, true⟩)⟩ g := by
  have c := Chg.one s.fr.ok (s.fr.ok.lt s.rq) (some ⟨fBool.all (boolL m g), 1, true⟩)
  have q1 := s.gq
  refine ⟨⟨Nat.le_trans s.fr.nx c.nx, fun x hx => ?_, c.ok⟩, ?_, ?_, by simp [upd], s.gm, s.go, s.gq, s.n1, s.n2, s.n3⟩
  · rw [c.hp x (Nat.lt_of_lt_of_le hx s.fr.nx) (by simp; omega)]
    exact s.fr.hp x hx
  · simp only [upd]; rw [if_neg s.n1]; exact s.rm
  · simp only [upd]; rw [if_neg s.n2]; exact s.ro
theorem BarSt.frame {h : Heap} {m bm bo q : Nat} {H H' : Heap} {f : Nat → Bool} (s : BarSt h m bm bo q H f) (k : Fr H H') : BarSt h m bm bo q H' f :=
  ⟨s.fr.trans k, by rw [k.hp _ (s.fr.ok.lt s.rm)]; exact s.rm, by rw [k.hp _ (s.fr.ok.lt s.ro)]; exact s.ro, by rw [k.hp _ (s.fr.ok.lt s.rq)]; exact s.rq, s.gm, s.go, s.gq, s.n1, s.n2, s.n3⟩

theorem impl_barred_1 {h : Heap} {m bm bo q : Nat} {H : Heap} {f : Nat → Bool} (s : BarSt h m bm bo q H f) (lo hi : Int) (hm : m ≤ 300) (hlo : lo ≤ 1000000) :
    ∃ H', Fimpl_GiveBook_barred_1 [.v (.c (.int .i64 lo)), .v (.c (.int .i64 hi)), .v (.c (.ptr (.inr bm) 0)), .v (.c (.ptr (.inr bo) 0))] H = some (.tup [], H') ∧ BarSt h m bm bo q H' (barF lo hi f) ∧ Chg [q] H H' := by
  unfold Fimpl_GiveBook_barred_1
  have hql := s.fr.ok.lt s.rq
  obtain ⟨d0, hd0⟩ : ∃ d0 : Nat, (d0 : Int) = max2 lo 0 := ⟨(max2 lo 0).toNat, by rw [max2_eq]; omega⟩
  have hd1 : (d0 : Int) = max lo 0 := by rw [hd0, max2_eq]
  let F : Nat → Nat → Bool := fun k x => f x || (decide (d0 ≤ x) && decide (x < d0 + k))
  have hF0 : boolL m f = boolL m (F 0) := boolL_congr fun x _ => by
    have : (decide (d0 ≤ x) && decide (x < d0 + 0)) = false := by simp
    simp only [F, this, Bool.or_false]
  have hend : ∀ k, ((¬ ((d0 + k : Nat) : Int) ≤ hi) ∨ m < d0 + k) → (∀ j, j < k → ((d0 + j : Nat) : Int) ≤ hi) → boolL m (F k) = boolL m (barF lo hi f) := by
    intro k h1 h2
    apply boolL_congr
    intro x hx
    simp only [F, barF]
    congr 1
    rw [Bool.eq_iff_iff]
    simp only [Bool.and_eq_true, decide_eq_true_eq]
    constructor
    · rintro ⟨a1, a2⟩
      have := h2 (x - d0) (by omega)
      omega
    · rintro ⟨a1, a2⟩
      refine ⟨by omega, ?_⟩
      rcases h1 with h1 | h1
      · omega
      · omega
  refine ⟨_, runF_eq (h' := ⟨H.nx, upd H.hp q (some ⟨fBool.all (boolL m (barF lo hi f)), 1, true⟩)⟩) ?_, s.set _, Chg.one s.fr.ok hql _⟩
  have hI0 : (⟨H.nx, upd H.hp q (some ⟨fBool.all (boolL m (F 0)), 1, true⟩)⟩ : Heap) = H := by
    have := upd_same (f := H.hp) (i := q) s.rq
    rw [hF0] at this
    rw [this]
  simp [cimpl_GiveBook_barred_1, ← hd0]
  refine AW_for1 (m + 1) (fun i => decide (¬ (((d0 + i : Nat) : Int) ≤ hi)) || decide (m < d0 + i)) (fun i x => x.1 1 = .v (.c (.int .i64 hi)) ∧ x.1 2 = .v (.c (.ptr (.inr bm) 0)) ∧ x.1 3 = .v (.c (.ptr (.inr bo) 0)) ∧ x.1 6 = .v (.c (.int .i64 ((d0 + i : Nat) : Int))) ∧ x.2.h = ⟨H.nx, upd H.hp q (some ⟨fBool.all (boolL m (F i)), 1, true⟩)⟩) ?_ ?_ ?_
  · rw [hI0]
    simp
  · rintro i ⟨T, ⟨h', lc⟩⟩ hin hpre ⟨h1, h2, h3, h6, hs⟩
    simp only at h1 h2 h3 h6 hs
    subst hs
    have e1 : ∀ X, upd H.hp q X bm = some ⟨[.int .i64 m], 1, true⟩ := by intro X; simp only [upd]; rw [if_neg s.n1]; exact s.rm
    have e2 : ∀ X, upd H.hp q X bo = some ⟨[.sl (.inr q) 0 (m + 1) .own], 1, true⟩ := by intro X; simp only [upd]; rw [if_neg s.n2]; exact s.ro
    have hwd : IntKind.i64.wrap (((d0 + i : Nat) : Int) + 1) = ((d0 + (i + 1) : Nat) : Int) := by
      rw [wrap1 (by omega)]; rfl
    by_cases a1 : ((d0 + i : Nat) : Int) ≤ hi
    · by_cases a2 : d0 + i ≤ m
      · have he2 : (Ce.sl (Sum.inr q) 0 (m + 1) .own).eltAt 1 ((d0 + i : Nat) : Int) = some (.inr q, d0 + i) := by
          simp only [Ce.eltAt]
          rw [if_pos ⟨by omega, by omega⟩, Int.toNat_natCast, Nat.zero_add, Nat.mul_one]
        have hlen : (fBool.all (boolL m (F i))).length = m + 1 := by rw [fBool.all_length, boolL_length]; simp [fBool]
        have hset := fBool.all_set (boolL m (F i)) (i := d0 + i) (k := 0) (by rw [boolL_length]; omega) (by decide) (b := true) (v := .bool true) (by simp [fBool])
        rw [boolL_set a2] at hset
        have hFs : boolL m (fun x => F i x || x == d0 + i) = boolL m (F (i + 1)) := boolL_congr fun x _ => by
          simp only [F]
          rw [Bool.eq_iff_iff]
          simp only [Bool.or_eq_true, Bool.and_eq_true, decide_eq_true_eq, beq_iff_eq]
          constructor
          · rintro ((k | ⟨k1, k2⟩) | k)
            · exact .inl k
            · exact .inr ⟨k1, by omega⟩
            · exact .inr ⟨by omega, by omega⟩
          · rintro (k | ⟨k1, k2⟩)
            · exact .inl (.inl k)
            · by_cases hx : x = d0 + i
              · exact .inr hx
              · exact .inl (.inr ⟨k1, by omega⟩)
        rw [hFs] at hset
        simp only [show fBool.sz = 1 from rfl, Nat.mul_one, Nat.add_zero] at hset
        have a2' : ((d0 + i : Nat) : Int) ≤ m := by omega
        have a3 : ¬ m < d0 + i := by omega
        have a4 : d0 + i + 1 ≤ m + 1 := by omega
        generalize hD : ((d0 + i : Nat) : Int) = D at *
        have a5 : d0 + i < m + 1 := by omega
        simp [cimpl_GiveBook_barred_1_L0, h1, h2, h3, h6, e1, e2, a1, a2', he2, hlen, hset, hwd, upd_upd, a3, a5, a2]
      · have a2' : ¬ ((d0 + i : Nat) : Int) ≤ m := by omega
        have a3 : m < d0 + i := by omega
        have hE := hend i (.inr a3) (fun j hj => by omega)
        generalize hD : ((d0 + i : Nat) : Int) = D at *
        simp [cimpl_GiveBook_barred_1_L0, h1, h2, h3, h6, e1, e2, a1, a2', a3, hE]
    · have hE := hend i (.inl a1) (fun j hj => by
        have := hpre j hj
        simp at this
        omega)
      generalize hD : ((d0 + i : Nat) : Int) = D at *
      simp [cimpl_GiveBook_barred_1_L0, h1, h2, h3, h6, e1, e2, a1, hE]
  · rintro ⟨T, ⟨h', lc⟩⟩ hno ⟨h1, h2, h3, h6, hs⟩
    simp only at h1 h2 h3 h6 hs
    subst hs
    have e1 : ∀ X, upd H.hp q X bm = some ⟨[.int .i64 m], 1, true⟩ := by intro X; simp only [upd]; rw [if_neg s.n1]; exact s.rm
    have a2' : ¬ ((d0 + (m + 1) : Nat) : Int) ≤ m := by omega
    have hE := hend (m + 1) (.inr (by omega)) (fun j hj => by
      have := hno j hj
      simp at this
      omega)
    generalize hD : ((d0 + (m + 1) : Nat) : Int) = D at *
    by_cases a1 : D ≤ hi
    · simp [cimpl_GiveBook_barred_1_L0, h1, h2, h3, h6, e1, a1, a2', hE]
    · simp [cimpl_GiveBook_barred_1_L0, h1, h2, h3, h6, e1, a1, hE]
def hitB (x y : Box) (d : Nat) : Bool := besideB x y && decide (y.tin - x.tout ≤ (d : Int)) && decide ((d : Int) ≤ y.tout - x.tin)
def F1 (t l : List Box) (d : Nat) : Bool := l.any fun y => t.any fun x => hitB x y d
def F0 (t : List Box) (d : Nat) : Bool := t.any fun x => decide (10001 - x.tout ≤ (d : Int))
def barredF (b : Book) (n : ByteArray) (t : List Box) (d : Nat) : Bool := F0 t d || b.held.any fun a => !decide (a.name = n) && (F1 t a.tube d || F1 t a.next d)
theorem any_take_succ {α : Type} (l : List α) (p : α → Bool) {i : Nat} (hi : i < l.length) : (l.take (i + 1)).any p = ((l.take i).any p || p l[i]) := by
  rw [List.take_add_one, List.getElem?_eq_getElem hi, List.any_append]
  simp
theorem BarSt.congr {h : Heap} {m bm bo q : Nat} {H : Heap} {f g : Nat → Bool} (s : BarSt h m bm bo q H f) (k : ∀ d, d ≤ m → f d = g d) : BarSt h m bm bo q H g :=
  ⟨s.fr, s.rm, s.ro, by rw [← boolL_congr k]; exact s.rq, s.gm, s.go, s.gq, s.n1, s.n2, s.n3⟩

section
variable {h : Heap} {m bm bo q : Nat} {n : ByteArray} {ct chd : Ce} {t : List Box} {nh : Nat}
/-- The slots that live through the loops. -/
def A1 (n : ByteArray) (ct chd : Ce) (nh bm bo : Nat) (i : Nat) (T : Nat → Av) : Prop :=
  T 1 = .v (.c (.str n)) ∧ T 2 = .v (.c ct) ∧ T 9 = .v (.c (.ptr (.inr bo) 0)) ∧ T 10 = .v (.c (.fn 166 [(.inr bm, 0), (.inr bo, 0)])) ∧ T 40 = .v (.c chd) ∧ T 41 = .v (.c (.int .i64 nh)) ∧ T 42 = .v (.c (.int .i64 i))
def A2 (n : ByteArray) (ct chd : Ce) (nh bm bo : Nat) (i b54 k : Nat) (T : Nat → Av) : Prop :=
  A1 n ct chd nh bm bo i T ∧ T 54 = .v (.c (.sl (.inr b54) 0 2 .own)) ∧ T 55 = .v (.c (.int .i64 2)) ∧ T 56 = .v (.c (.int .i64 k))
def A3 (n : ByteArray) (ct chd : Ce) (nh bm bo : Nat) (i b54 k : Nat) (cl : Ce) (nl j : Nat) (T : Nat → Av) : Prop :=
  A2 n ct chd nh bm bo i b54 k T ∧ T 60 = .v (.c cl) ∧ T 61 = .v (.c (.int .i64 nl)) ∧ T 62 = .v (.c (.int .i64 j))

theorem barred_L4 {S : Nat → Prop} {i b54 k : Nat} {cl : Ce} {nl j : Nat} (hm : m ≤ 300) (ht : RdF fBox S h ct t) (ho : HOk h) (hok : ∀ x, x ∈ t → okB x = true) (hcl : cl.noLoc = true) (hch : chd.noLoc = true) (y : Box)
    {T : Nat → Av} {lc : Nat → Option Row} {H : Heap} {f : Nat → Bool} (s : BarSt h m bm bo q H f) (a : A3 n ct chd nh bm bo i b54 k cl nl j T) (h18 : T 18 = .v (.c (.ptr (.inl 18) 0))) (l18 : lc 18 = some ⟨fBox.ces y, 6, true⟩) (h66 : T 66 = .v (.c ct)) (h67 : T 67 = .v (.c (.int .i64 t.length))) (h68 : T 68 = .v (.c (.int .i64 0))) :
    AW eimpl_GiveBook_barred (.loop cimpl_GiveBook_barred_L4) (fun e x => e = .exit 8 ∧ A3 n ct chd nh bm bo i b54 k cl nl j x.1 ∧ BarSt h m bm bo q x.2.h (fun d => f d || t.any fun x => hitB x y d) ∧ Chg [q] H x.2.h) (T, ⟨H, lc⟩) := by
  have htl := ht.le
  refine AW_each t.length (fun r x => A3 n ct chd nh bm bo i b54 k cl nl j x.1 ∧ x.1 18 = .v (.c (.ptr (.inl 18) 0)) ∧ x.2.lc 18 = some ⟨fBox.ces y, 6, true⟩ ∧ x.1 66 = .v (.c ct) ∧ x.1 67 = .v (.c (.int .i64 t.length)) ∧ x.1 68 = .v (.c (.int .i64 r)) ∧ BarSt h m bm bo q x.2.h (fun d => f d || (t.take r).any fun x => hitB x y d) ∧ Chg [q] H x.2.h) ⟨a, h18, l18, h66, h67, h68, s.congr (by simp), Chg.refl s.fr.ok⟩ ?_ ?_
  · rintro r ⟨T, ⟨H', lc⟩⟩ hr ⟨⟨⟨⟨h1, h2, h9, h10, h40, h41, h42⟩, h54, h55, h56⟩, h60, h61, h62⟩, h18, l18, h66, h67, h68, st, cg⟩
    simp only at h1 h2 h9 h10 h40 h41 h42 h54 h55 h56 h60 h61 h62 h18 l18 h66 h67 h68 st cg
    have ht' := ht.keep ho st.fr
    obtain ⟨eb, ep, er, e1, _, e2, e3, e4, _⟩ := ht'.box hr
    have hw := wrap1 (i := r) (by omega)
    have B := impl_beside H' t[r] y
    simp only [fBox] at B l18
    cases hb : besideB t[r] y
    · rw [hb] at B
      have st' : BarSt h m bm bo q H' (fun d => f d || (t.take (r + 1)).any fun x => hitB x y d) := st.congr fun d _ => by
        rw [any_take_succ _ _ hr]
        simp [hitB, hb]
      simp [cimpl_GiveBook_barred_L4, A3, A2, A1, h1, h2, h9, h10, h40, h41, h42, h54, h55, h56, h60, h61, h62, h18, l18, h66, h67, h68, ht.noLoc, hcl, hch, hr, e1, e2, e3, e4, eimpl_GiveBook_barred_impl_beside, B, hw]
      exact ⟨rfl, st', cg⟩
    · rw [hb] at B
      have hx := hok _ (List.getElem_mem hr)
      have hy : okB y = true := by
        simp only [besideB, Bool.and_eq_true] at hb
        exact hb.1.1.1.2
      simp only [okB, inB, Bool.and_eq_true, decide_eq_true_eq] at hx hy
      have w1 : IntKind.i64.wrap (y.tin - t[r].tout) = y.tin - t[r].tout := wrap_i64 (by omega) (by omega)
      have w2 : IntKind.i64.wrap (y.tout - t[r].tin) = y.tout - t[r].tin := wrap_i64 (by omega) (by omega)
      obtain ⟨H'', t1, st2, cg2⟩ := impl_barred_1 st (y.tin - t[r].tout) (y.tout - t[r].tin) hm (by omega)
      have st' : BarSt h m bm bo q H'' (fun d => f d || (t.take (r + 1)).any fun x => hitB x y d) := st2.congr fun d _ => by
        rw [any_take_succ _ _ hr]
        simp [barF, hitB, hb, Bool.or_assoc]
      simp [cimpl_GiveBook_barred_L4, A3, A2, A1, h1, h2, h9, h10, h40, h41, h42, h54, h55, h56, h60, h61, h62, h18, l18, h66, h67, h68, ht.noLoc, hcl, hch, hr, e1, e2, e3, e4, eimpl_GiveBook_barred_impl_beside, eimpl_GiveBook_barred_impl_GiveBook_barred_1, B, w1, w2, t1, hw]
      exact ⟨rfl, st', cg.trans cg2 (fun _ h => h) (fun _ h => h)⟩
  · rintro ⟨T, ⟨H', lc⟩⟩ ⟨⟨⟨⟨h1, h2, h9, h10, h40, h41, h42⟩, h54, h55, h56⟩, h60, h61, h62⟩, h18, l18, h66, h67, h68, st, cg⟩
    simp only at h1 h2 h9 h10 h40 h41 h42 h54 h55 h56 h60 h61 h62 h18 l18 h66 h67 h68 st cg
    rw [List.take_length] at st
    simp [cimpl_GiveBook_barred_L4, A3, A2, A1, h1, h2, h9, h10, h40, h41, h42, h54, h55, h56, h60, h61, h62, h67, h68]
    exact ⟨st, cg⟩
theorem barred_L3 {S S' : Nat → Prop} {i b54 k : Nat} {cl : Ce} {l : List Box} (hm : m ≤ 300) (ht : RdF fBox S h ct t) (hl : RdF fBox S' h cl l) (ho : HOk h) (hok : ∀ x, x ∈ t → okB x = true) (hch : chd.noLoc = true)
    {T : Nat → Av} {lc : Nat → Option Row} {H : Heap} {f : Nat → Bool} (s : BarSt h m bm bo q H f) (a : A3 n ct chd nh bm bo i b54 k cl l.length 0 T) :
    AW eimpl_GiveBook_barred (.loop cimpl_GiveBook_barred_L3) (fun e x => e = .exit 6 ∧ A2 n ct chd nh bm bo i b54 k x.1 ∧ BarSt h m bm bo q x.2.h (fun d => f d || F1 t l d) ∧ Chg [q] H x.2.h) (T, ⟨H, lc⟩) := by
  have hll := hl.le
  refine AW_each l.length (fun r x => A3 n ct chd nh bm bo i b54 k cl l.length r x.1 ∧ BarSt h m bm bo q x.2.h (fun d => f d || F1 t (l.take r) d) ∧ Chg [q] H x.2.h) ⟨a, s.congr (by simp [F1]), Chg.refl s.fr.ok⟩ ?_ ?_
  · rintro r ⟨T, ⟨H', lc⟩⟩ hr ⟨⟨⟨⟨h1, h2, h9, h10, h40, h41, h42⟩, h54, h55, h56⟩, h60, h61, h62⟩, st, cg⟩
    simp only at h1 h2 h9 h10 h40 h41 h42 h54 h55 h56 h60 h61 h62 st cg
    have hl' := hl.keep ho st.fr
    obtain ⟨eb, ep, er, e1, _, e2, e3, e4, _⟩ := hl'.box hr
    have hw := wrap1 (i := r) (by omega)
    simp [cimpl_GiveBook_barred_L3, h1, h2, h9, h10, h40, h41, h42, h54, h55, h56, h60, h61, h62, ht.noLoc, hl.noLoc, hch, hr, e1, e2, e3, e4, ht.slen]
    refine AW_mono (barred_L4 (k := k) (b54 := b54) (cl := cl) (nl := l.length) (j := r) (n := n) (chd := chd) (nh := nh) (i := i) hm ht ho hok hl.noLoc hch l[r] st ?_ ?_ ?_ ?_ ?_ ?_) ?_
    · simp [A3, A2, A1, h1, h2, h9, h10, h40, h41, h42, h54, h55, h56, h60, h61, h62, ht.noLoc, hl.noLoc, hch]
    · simp
    · simp [fBox]
    · simp [h2, ht.noLoc]
    · simp
    · simp
    · rintro e ⟨T, ⟨H2, lc2⟩⟩ ⟨rfl, ⟨⟨⟨h1, h2, h9, h10, h40, h41, h42⟩, h54, h55, h56⟩, h60, h61, h62⟩, st2, cg2⟩
      simp only at h1 h2 h9 h10 h40 h41 h42 h54 h55 h56 h60 h61 h62 st2 cg2
      have st' : BarSt h m bm bo q H2 (fun d => f d || F1 t (l.take (r + 1)) d) := st2.congr fun d _ => by
        unfold F1
        rw [any_take_succ _ _ hr, Bool.or_assoc]
      simp [A3, A2, A1, h1, h2, h9, h10, h40, h41, h42, h54, h55, h56, h60, h61, h62, hw]
      exact ⟨st', cg.trans cg2 (fun _ h => h) (fun _ h => h)⟩
  · rintro ⟨T, ⟨H', lc⟩⟩ ⟨⟨⟨⟨h1, h2, h9, h10, h40, h41, h42⟩, h54, h55, h56⟩, h60, h61, h62⟩, st, cg⟩
    simp only at h1 h2 h9 h10 h40 h41 h42 h54 h55 h56 h60 h61 h62 st cg
    rw [List.take_length] at st
    simp [cimpl_GiveBook_barred_L3, A3, A2, A1, h1, h2, h9, h10, h40, h41, h42, h54, h55, h56, h60, h61, h62]
    exact ⟨st, cg⟩

theorem barred_L2 {S S' : Nat → Prop} {i b54 : Nat} {c1 c2 : Ce} {l1 l2 : List Box} (hm : m ≤ 300) (ht : RdF fBox S h ct t) (hl1 : RdF fBox S' h c1 l1) (hl2 : RdF fBox S' h c2 l2) (ho : HOk h) (hok : ∀ x, x ∈ t → okB x = true) (hch : chd.noLoc = true) (hbq : b54 ≠ q)
    {T : Nat → Av} {lc : Nat → Option Row} {H : Heap} {f : Nat → Bool} (s : BarSt h m bm bo q H f) (a : A2 n ct chd nh bm bo i b54 0 T) (hb : H.hp b54 = some ⟨[c1, c2], 1, true⟩) :
    AW eimpl_GiveBook_barred (.loop cimpl_GiveBook_barred_L2) (fun e x => e = .exit 4 ∧ A1 n ct chd nh bm bo i x.1 ∧ BarSt h m bm bo q x.2.h (fun d => f d || (F1 t l1 d || F1 t l2 d))) (T, ⟨H, lc⟩) := by
  refine AW_each 2 (fun r x => A2 n ct chd nh bm bo i b54 r x.1 ∧ BarSt h m bm bo q x.2.h (fun d => f d || ([l1, l2].take r).any fun l => F1 t l d) ∧ x.2.h.hp b54 = some ⟨[c1, c2], 1, true⟩) ⟨a, s.congr (by simp), hb⟩ ?_ ?_
  · rintro r ⟨T, ⟨H', lc⟩⟩ hr ⟨⟨⟨h1, h2, h9, h10, h40, h41, h42⟩, h54, h55, h56⟩, st, hb⟩
    simp only at h1 h2 h9 h10 h40 h41 h42 h54 h55 h56 st hb
    have go : ∀ (cl : Ce) (l : List Box), RdF fBox S' h cl l → ((r = 0 ∧ cl = c1 ∧ l = l1) ∨ (r = 1 ∧ cl = c2 ∧ l = l2)) → AW eimpl_GiveBook_barred cimpl_GiveBook_barred_L2 (fun e y => e = .normal ∧ A2 n ct chd nh bm bo i b54 (r + 1) y.1 ∧ BarSt h m bm bo q y.2.h (fun d => f d || ([l1, l2].take (r + 1)).any fun l => F1 t l d) ∧ y.2.h.hp b54 = some ⟨[c1, c2], 1, true⟩) (T, ⟨H', lc⟩) := by
      intro cl l hl hcase
      have e2 : (Ce.sl (Sum.inr b54) 0 2 .own).eltAt 1 (r : Int) = some (.inr b54, r) := by
        rcases hcase with ⟨rfl, _⟩ | ⟨rfl, _⟩ <;> rfl
      have e3 : [c1, c2][r]? = some cl := by
        rcases hcase with ⟨rfl, rfl, _⟩ | ⟨rfl, rfl, _⟩ <;> rfl
      have hrl : (r : Int) < 2 := by omega
      have hw := wrap1 (i := r) (by omega)
      simp [cimpl_GiveBook_barred_L2, h1, h2, h9, h10, h40, h41, h42, h54, h55, h56, hrl, e2, hb, e3, hl.slen]
      refine AW_mono (barred_L3 (k := r) (b54 := b54) (cl := cl) (l := l) (n := n) (chd := chd) (nh := nh) (i := i) hm ht hl ho hok hch st ?_) ?_
      · simp [A3, A2, A1, h1, h2, h9, h10, h40, h41, h42, h54, h55, h56]
      · rintro e ⟨T, ⟨H2, lc2⟩⟩ ⟨rfl, ⟨⟨h1, h2, h9, h10, h40, h41, h42⟩, h54, h55, h56⟩, st2, cg2⟩
        simp only at h1 h2 h9 h10 h40 h41 h42 h54 h55 h56 st2 cg2
        have hb2 : H2.hp b54 = some ⟨[c1, c2], 1, true⟩ := by rw [cg2.hp _ (st.fr.ok.lt hb) (by simpa using hbq)]; exact hb
        have st' : BarSt h m bm bo q H2 (fun d => f d || ([l1, l2].take (r + 1)).any fun l => F1 t l d) := st2.congr fun d _ => by
          rcases hcase with ⟨rfl, _, rfl⟩ | ⟨rfl, _, rfl⟩ <;> simp [Bool.or_assoc]
        simp [A2, A1, h1, h2, h9, h10, h40, h41, h42, h54, h55, h56, hw]
        exact ⟨by simpa using st', hb2⟩
    rcases (show r = 0 ∨ r = 1 by omega) with rfl | rfl
    · exact go c1 l1 hl1 (.inl ⟨rfl, rfl, rfl⟩)
    · exact go c2 l2 hl2 (.inr ⟨rfl, rfl, rfl⟩)
  · rintro ⟨T, ⟨H', lc⟩⟩ ⟨⟨⟨h1, h2, h9, h10, h40, h41, h42⟩, h54, h55, h56⟩, st, hb⟩
    simp only at h1 h2 h9 h10 h40 h41 h42 h54 h55 h56 st hb
    simp [cimpl_GiveBook_barred_L2, A1, h1, h2, h9, h10, h40, h41, h42, h54, h55, h56]
    simpa using st
end
theorem barred_L1 {S S' : Nat → Prop} {h : Heap} {m bm bo q : Nat} {n : ByteArray} {ct chd : Ce} {t : List Box} {l : List Held} {hs : List HeldC} (hm : m ≤ 300) (ht : RdF fBox S h ct t) (hh : RdF fHeld S' h chd hs) (hlen : hs.length = l.length) (hel : ∀ i (hi : i < hs.length) (hi' : i < l.length), RdHeld S' h hs[i] l[i]) (ho : HOk h) (hok : ∀ x, x ∈ t → okB x = true)
    {T : Nat → Av} {lc : Nat → Option Row} {H : Heap} {f : Nat → Bool} (s : BarSt h m bm bo q H f) (a : A1 n ct chd hs.length bm bo 0 T) :
    AW eimpl_GiveBook_barred (.loop cimpl_GiveBook_barred_L1) (fun e x => e = .exit 2 ∧ x.1 9 = .v (.c (.ptr (.inr bo) 0)) ∧ BarSt h m bm bo q x.2.h (fun d => f d || l.any fun a => !decide (a.name = n) && (F1 t a.tube d || F1 t a.next d))) (T, ⟨H, lc⟩) := by
  have hll := hh.le
  refine AW_each hs.length (fun r x => A1 n ct chd hs.length bm bo r x.1 ∧ BarSt h m bm bo q x.2.h (fun d => f d || (l.take r).any fun a => !decide (a.name = n) && (F1 t a.tube d || F1 t a.next d))) ⟨a, s.congr (by simp)⟩ ?_ ?_
  · rintro r ⟨T, ⟨H', lc⟩⟩ hr ⟨⟨h1, h2, h9, h10, h40, h41, h42⟩, st⟩
    simp only at h1 h2 h9 h10 h40 h41 h42 st
    have hh' := hh.keep ho st.fr
    obtain ⟨eb, ep, er, e1, _, e2, e3, e4, _⟩ := hh'.heldc hr
    have hr' : r < l.length := by omega
    have hri := hel r hr hr'
    have hn := hri.name
    rw [hn] at e4
    have hw := wrap1 (i := r) (by omega)
    by_cases hnm : l[r].name = n
    · have st' : BarSt h m bm bo q H' (fun d => f d || (l.take (r + 1)).any fun a => !decide (a.name = n) && (F1 t a.tube d || F1 t a.next d)) := st.congr fun d _ => by
        rw [any_take_succ _ _ hr']
        simp [hnm]
      simp [cimpl_GiveBook_barred_L1, A1, h1, h2, h9, h10, h40, h41, h42, ht.noLoc, hh.noLoc, hr, e1, e2, e3, e4, bytes_beq, hnm, hw]
      exact st'
    · have fp := Fr.push st.fr.ok ⟨[hs[r].t, hs[r].x], 1, true⟩
      have st1 := st.frame fp
      have hbq : H'.nx ≠ q := by have := st.fr.ok.lt st.rq; omega
      simp [cimpl_GiveBook_barred_L1, h1, h2, h9, h10, h40, h41, h42, ht.noLoc, hh.noLoc, hri.t.noLoc, hri.x.noLoc, hr, e1, e2, e3, e4, bytes_beq, hnm, Ce.slen]
      refine AW_mono (barred_L2 (b54 := H'.nx) (c1 := hs[r].t) (c2 := hs[r].x) (n := n) (chd := chd) (nh := hs.length) (i := r) hm ht hri.t hri.x ho hok hh.noLoc hbq st1 ?_ ?_) ?_
      · simp [A2, A1, h1, h2, h9, h10, h40, h41, h42, ht.noLoc, hh.noLoc]
      · exact push_at _ _
      · rintro e ⟨T, ⟨H2, lc2⟩⟩ ⟨rfl, ⟨h1, h2, h9, h10, h40, h41, h42⟩, st2⟩
        simp only at h1 h2 h9 h10 h40 h41 h42 st2
        have st' : BarSt h m bm bo q H2 (fun d => f d || (l.take (r + 1)).any fun a => !decide (a.name = n) && (F1 t a.tube d || F1 t a.next d)) := st2.congr fun d _ => by
          rw [any_take_succ _ _ hr']
          simp [hnm, Bool.or_assoc]
        simp [A1, h1, h2, h9, h10, h40, h41, h42, hw]
        exact st'
  · rintro ⟨T, ⟨H', lc⟩⟩ ⟨⟨h1, h2, h9, h10, h40, h41, h42⟩, st⟩
    simp only at h1 h2 h9 h10 h40 h41 h42 st
    rw [hlen, List.take_length] at st
    simp [cimpl_GiveBook_barred_L1, h9, h41, h42]
    exact st

theorem barred_L0 {S : Nat → Prop} {h : Heap} {m bm bo q : Nat} {n : ByteArray} {ct : Ce} {t : List Box} {ces : List Ce} (hm : m ≤ 300) (ht : RdF fBox S h ct t) (ho : HOk h) (hok : ∀ x, x ∈ t → okB x = true)
    {T : Nat → Av} {lc : Nat → Option Row} {H : Heap} {f : Nat → Bool} (s : BarSt h m bm bo q H f) (h1 : T 1 = .v (.c (.str n))) (h2 : T 2 = .v (.c ct)) (h4 : T 4 = .v (.c (.ptr (.inl 4) 0))) (h7 : T 7 = .v (.c (.ptr (.inr bm) 0))) (h9 : T 9 = .v (.c (.ptr (.inr bo) 0))) (h10 : T 10 = .v (.c (.fn 166 [(.inr bm, 0), (.inr bo, 0)])))
    (h25 : T 25 = .v (.c ct)) (h26 : T 26 = .v (.c (.int .i64 t.length))) (h27 : T 27 = .v (.c (.int .i64 0))) (l4 : lc 4 = some ⟨ces, 3, true⟩) :
    AW eimpl_GiveBook_barred (.loop cimpl_GiveBook_barred_L0) (fun e x => e = .exit 0 ∧ x.1 1 = .v (.c (.str n)) ∧ x.1 2 = .v (.c ct) ∧ x.1 4 = .v (.c (.ptr (.inl 4) 0)) ∧ x.1 9 = .v (.c (.ptr (.inr bo) 0)) ∧ x.1 10 = .v (.c (.fn 166 [(.inr bm, 0), (.inr bo, 0)])) ∧ x.2.lc 4 = some ⟨ces, 3, true⟩ ∧ BarSt h m bm bo q x.2.h (fun d => f d || F0 t d)) (T, ⟨H, lc⟩) := by
  have htl := ht.le
  refine AW_each t.length (fun r x => x.1 1 = .v (.c (.str n)) ∧ x.1 2 = .v (.c ct) ∧ x.1 4 = .v (.c (.ptr (.inl 4) 0)) ∧ x.1 7 = .v (.c (.ptr (.inr bm) 0)) ∧ x.1 9 = .v (.c (.ptr (.inr bo) 0)) ∧ x.1 10 = .v (.c (.fn 166 [(.inr bm, 0), (.inr bo, 0)])) ∧ x.1 25 = .v (.c ct) ∧ x.1 26 = .v (.c (.int .i64 t.length)) ∧ x.1 27 = .v (.c (.int .i64 r)) ∧ x.2.lc 4 = some ⟨ces, 3, true⟩ ∧ BarSt h m bm bo q x.2.h (fun d => f d || F0 (t.take r) d)) ⟨h1, h2, h4, h7, h9, h10, h25, h26, h27, l4, s.congr (by simp [F0])⟩ ?_ ?_
  · rintro r ⟨T, ⟨H', lc⟩⟩ hr ⟨h1, h2, h4, h7, h9, h10, h25, h26, h27, l4, st⟩
    simp only at h1 h2 h4 h7 h9 h10 h25 h26 h27 l4 st
    have ht' := ht.keep ho st.fr
    obtain ⟨eb, ep, er, e1, _, e2, e3, e4, _⟩ := ht'.box hr
    have hx := hok _ (List.getElem_mem hr)
    simp only [okB, inB, Bool.and_eq_true, decide_eq_true_eq] at hx
    have hw := wrap1 (i := r) (by omega)
    have w1 : IntKind.i64.wrap (10000 - t[r].tout) = 10000 - t[r].tout := wrap_i64 (by omega) (by omega)
    have w2 : IntKind.i64.wrap (10000 - t[r].tout + 1) = 10000 - t[r].tout + 1 := wrap_i64 (by omega) (by omega)
    obtain ⟨H2, t1, st2, cg2⟩ := impl_barred_1 st (10000 - t[r].tout + 1) m hm (by omega)
    have st' : BarSt h m bm bo q H2 (fun d => f d || F0 (t.take (r + 1)) d) := st2.congr fun d hd => by
      unfold F0
      rw [any_take_succ _ _ hr]
      have k1 : decide ((d : Int) ≤ m) = true := by simp; omega
      have k2 : decide (10000 - t[r].tout + 1 ≤ (d : Int)) = decide (10001 - t[r].tout ≤ (d : Int)) := by
        rw [Bool.eq_iff_iff]; simp; omega
      simp only [barF, k1, k2, Bool.and_true, Bool.or_assoc]
    have rm := st.rm
    simp [cimpl_GiveBook_barred_L0, h1, h2, h4, h7, h9, h10, h25, h26, h27, l4, ht.noLoc, hr, e1, e2, e3, e4, w1, w2, rm, eimpl_GiveBook_barred_impl_GiveBook_barred_1, t1, hw]
    exact st'
  · rintro ⟨T, ⟨H', lc⟩⟩ ⟨h1, h2, h4, h7, h9, h10, h25, h26, h27, l4, st⟩
    simp only at h1 h2 h4 h7 h9 h10 h25 h26 h27 l4 st
    rw [List.take_length] at st
    simp [cimpl_GiveBook_barred_L0, h1, h2, h4, h9, h10, h26, h27, l4]
    exact st

theorem impl_barred {S S' : Nat → Prop} (h : Heap) (c : BookC) (b : Book) (n : ByteArray) (ct : Ce) (t : List Box) (m : Nat) (ho : HOk h) (hm : m ≤ 300) (hr : RdBook S h c b) (ht : RdF fBox S' h ct t) (hok : ∀ x, x ∈ t → okB x = true) :
    ∃ c' h' fp, Fimpl_GiveBook_barred [.v (.agg c.ces), .v (.c (.str n)), .v (.c ct), .v (.c (.int .i64 m))] h = some (.v (.c c'), h') ∧ NewF fBool h h' c' (boolL m (barredF b n t)) fp := by
  unfold Fimpl_GiveBook_barred
  obtain ⟨hnow, hf, hs, hh, hlen, hel⟩ := hr
  have f1 := Fr.push ho ⟨[.int .i64 (m : Int)], 1, true⟩
  have hrep : List.replicate (m + 1) (Ce.bool false) = fBool.all (boolL m fun _ => false) := by
    have : boolL m (fun _ => false) = List.replicate (m + 1) false := by
      apply List.ext_getElem
      · simp [boolL]
      · intro i h1 h2; simp [boolL]
    rw [this, ← fBool.all_repl]
    simp [repl, fBool]
  obtain ⟨v, h', h1, c', fp, rfl, h2⟩ := runF_of (env := eimpl_GiveBook_barred) (code := cimpl_GiveBook_barred) (rs := [.t 8]) (args := [.v (.agg c.ces), .v (.c (.str n)), .v (.c ct), .v (.c (.int .i64 m))]) (h := h) (K := fun v h' => ∃ c' fp, v = .v (.c c') ∧ NewF fBool h h' c' (boolL m (barredF b n t)) fp) (by
    have w1 := wrap1 (i := m) (by omega)
    have hmp : (0 : Int) ≤ (m : Int) + 1 ∧ (m : Int) + 1 ≤ 4294967296 := by omega
    have hnat : ((m : Int) + 1).toNat = m + 1 := by omega
    have w1' : IntKind.i64.wrap ((m : Int) + 1) = (m : Int) + 1 := by rw [w1]; rfl
    let H : Heap := ((h.push ⟨[.int .i64 (m : Int)], 1, true⟩).push ⟨fBool.all (boolL m fun _ => false), 1, true⟩).push ⟨[.sl (.inr (h.nx + 1)) 0 (m + 1) .own], 1, true⟩
    have f2 := Fr.push f1.ok ⟨fBool.all (boolL m fun _ => false), 1, true⟩
    have f3 := Fr.push f2.ok ⟨[.sl (.inr (h.nx + 1)) 0 (m + 1) .own], 1, true⟩
    have sH : BarSt h m h.nx (h.nx + 1 + 1) (h.nx + 1) H (fun _ => false) := by
      refine ⟨(f1.trans f2).trans f3, ?_, ?_, ?_, Nat.le_refl _, by omega, by omega, by omega, by omega, by omega⟩
      · simp [H, Heap.push, upd]
        omega
      · simp [H, Heap.push, upd]
      · simp [H, Heap.push, upd]
    have hHeq : ∀ lc : Nat → Option Row, (⟨⟨h.nx + 1 + 1 + 1, upd (upd (upd (upd h.hp h.nx (some ⟨[.int .i64 (m : Int)], 1, true⟩)) (h.nx + 1) (some ⟨fBool.all (boolL m fun _ => false), 1, true⟩)) (h.nx + 1 + 1) (some ⟨[.nils], 1, true⟩)) (h.nx + 1 + 1) (some ⟨[.sl (.inr (h.nx + 1)) 0 (m + 1) .own], 1, true⟩)⟩, lc⟩ : St) = ⟨H, lc⟩ := by
      intro lc
      simp only [H, Heap.push, upd_upd]
    have hn2 : ∀ (r : Option Row), upd h.hp h.nx r h.nx = r := fun r => by simp [upd]
    have x1 : ¬ h.nx = h.nx + 1 + 1 := by omega
    have x2 : ¬ h.nx = h.nx + 1 := by omega
    have hcH : c.ces[2]? = some c.hd := rfl
    simp [cimpl_GiveBook_barred, St.push, Heap.push, lim, w1', hmp, hnat, hrep, ht.noLoc, ht.slen, hn2]
    rw [hHeq]
    refine AW_mono (barred_L0 (n := n) (ces := c.ces) hm ht ho hok sH ?_ ?_ ?_ ?_ ?_ ?_ ?_ ?_ ?_ ?_) ?_
    · simp
    · simp [ht.noLoc]
    · simp
    · simp
    · simp
    · simp
    · simp [ht.noLoc]
    · simp
    · simp
    · simp
    · rintro e ⟨T, ⟨H2, lc2⟩⟩ ⟨rfl, h1, h2, h4, h9, h10, l4, st⟩
      simp only at h1 h2 h4 h9 h10 l4 st
      simp [h1, h2, h4, h9, h10, l4, hcH, hh.slen, hh.noLoc, ht.noLoc]
      refine AW_mono (barred_L1 (n := n) (ct := ct) (chd := c.hd) hm ht hh hlen hel ho hok st ?_) ?_
      · simp [A1, h1, h2, h9, h10, hh.noLoc, ht.noLoc]
      · rintro e ⟨T, ⟨H3, lc3⟩⟩ ⟨rfl, h9, st3⟩
        simp only at h9 st3
        simp [h9, st3.ro]
        have st4 : BarSt h m h.nx (h.nx + 1 + 1) (h.nx + 1) H3 (barredF b n t) := st3.congr fun d _ => by simp [barredF]
        exact ⟨[h.nx + 1], .inr ⟨h.nx + 1, by rw [boolL_length], st4.rq, rfl⟩, st4.fr, by simp⟩)
  exact ⟨c', h', fp, h1, h2⟩
end Go.Abs

/-
  Bars and the earliest: what the functions compute.
-/

namespace Go.Abs
set_option linter.unusedSimpArgs false
set_option linter.unusedVariables false
attribute [local simp] AW_skip AW_exit AW_ret AW_seq AW_block AW_cond CW_ite AW_reg AW_regD AW_regDc RD_nil RD_cons keyEq hasP hasH hasL chkL chkH recK recH inRange lightKey BookC.len BookC.take WishC.len WishC.take RW_nil RW_cons RW_guard GW_t GW_f GW_gt GW_gf GW_tup GY_some GY_tt GY_ff gd_t gd_f pk_t pk_f pk_and pk_or pk_andc pk_orc pk_bool gd_gd SW_some ThenQ_normal ThenQ_exit ThenQ_ret BlockQ_normal BlockQ_exit BlockQ_ret kill_nil kill_cons killT_at killL_at upo_some upo_none ev_t ev_k FinQ_ret FinQ_normal upd_eq upd_ne argsT_zero argsT_succ aop.eq_1 aop_pick aop.eq_3 aop.eq_4 aop.eq_5 aop.eq_6 aop.eq_7 aop.eq_8 aop.eq_9 aop.eq_10 aop.eq_11 aop.eq_12 aop.eq_13 aop.eq_14 aop.eq_15 aop.eq_16 aop.eq_17 aop.eq_18 aop.eq_19 aop.eq_20 aop.eq_21 aop_slice_hi aop_slice_lo aop.eq_23 aop.eq_24 aop.eq_26 aop.eq_27 aop.eq_28 aop.eq_29 aop.eq_31 aop.eq_32 aop_maxs2 aop_mins2 aop_mins3 aop_len aop_iaddr Av.bool? Av.ptr? Av.int? Av.int64? Av.str? Av.agg? ressA resA resOf noLoc_int noLoc_bool noLoc_str noLoc_nils noLoc_nilp noLoc_ptrl noLoc_ptrr noLoc_sll noLoc_slr noLoc_fn noLoc_tc noLoc_tagg noLoc_av noLoc_atup ce_c tv_v cells_c cells_agg noLocs keyLoc evs callA St.set St.get unAv binCe killV_int killV_bool killV_str killV_nils killV_nilp killV_agg killV_no killV_tup killV_ptrl killV_ptrr killV_sll killV_slr killV_fn killV_noLoc fillA repl ptrs List.map
attribute [local congr] GY_congr

/-- A tube that is ok is ok box by box. -/
theorem tubeOk_all {fs : List Fld} {t : List Box} (h : tubeOkB fs t = true) : ∀ x, x ∈ t → okB x = true := by
  intro x hx
  obtain ⟨i, hi, rfl⟩ := List.getElem_of_mem hx
  simp only [tubeOkB, Bool.and_eq_true] at h
  have := allN_iff.1 h.1.2 i hi
  simp only [stepB, Bool.and_eq_true] at this
  simpa [hi] using this.1
theorem tubeOk_len {fs : List Fld} {t : List Box} (h : tubeOkB fs t = true) : 1 ≤ t.length ∧ t.length ≤ 40 := by
  simp only [tubeOkB, Bool.and_eq_true, decide_eq_true_eq] at h
  exact h.1.1

/-- A box later. -/
def lat (d : Int) (b : Box) : Box := { b with tin := wrap64 (b.tin + d), tout := wrap64 (b.tout + d) }
theorem laterB_eq (d : Int) (t : List Box) : laterB d t = t.map (lat d) := rfl
theorem lat_of {b : Box} {d : Nat} (h : okB b = true) (hd : d ≤ 300) : lat d b = { b with tin := b.tin + d, tout := b.tout + d } := by
  simp only [okB, inB, Bool.and_eq_true, decide_eq_true_eq] at h
  unfold lat
  rw [wrap64_id (by omega) (by omega), wrap64_id (by omega) (by omega)]
theorem lat_ok {b : Box} {d : Nat} (h : okB b = true) (hd : d ≤ 300) : okB (lat d b) = decide (b.tout + d ≤ 10000) := by
  rw [lat_of h hd]
  simp only [okB, inB, Bool.and_eq_true, decide_eq_true_eq] at h
  rw [Bool.eq_iff_iff]
  simp only [okB, inB, Bool.and_eq_true, decide_eq_true_eq]
  constructor
  · intro k; exact k.2
  · intro k; refine ⟨⟨⟨⟨⟨?_, ?_⟩, ?_⟩, ?_⟩, ?_⟩, k⟩ <;> omega
theorem lat_next {a b : Box} {d : Nat} (ha : okB a = true) (hb : okB b = true) (hd : d ≤ 300) : nextB (lat d a) (lat d b) = nextB a b := by
  rw [lat_of ha hd, lat_of hb hd]
  simp only [okB, inB, Bool.and_eq_true, decide_eq_true_eq] at ha hb
  unfold nextB
  simp only
  have e1 : wrap64 (a.tout + d + 1) = a.tout + d + 1 := wrap64_id (by omega) (by omega)
  have e2 : wrap64 (a.tout + 1) = a.tout + 1 := wrap64_id (by omega) (by omega)
  rw [e1, e2]
  have q1 : decide (a.tin + (d : Int) ≤ b.tin + d) = decide (a.tin ≤ b.tin) := by rw [Bool.eq_iff_iff]; simp
  have q2 : decide (a.tout + (d : Int) ≤ b.tout + d) = decide (a.tout ≤ b.tout) := by rw [Bool.eq_iff_iff]; simp
  have q3 : decide (b.tin + (d : Int) ≤ a.tout + d + 1) = decide (b.tin ≤ a.tout + 1) := by rw [Bool.eq_iff_iff]; simp; omega
  rw [q1, q2, q3]
/-- A tube that is ok is ok later just if it is not too late. -/
theorem later_ok {fs : List Fld} {t : List Box} {d : Nat} (h : tubeOkB fs t = true) (hd : d ≤ 300) : tubeOkB fs (laterB d t) = !F0 t d := by
  have hall := tubeOk_all h
  have hlen := tubeOk_len h
  have hs : ∀ i, i < t.length → stepB (laterB d t) i = decide (((t.getD i default).tout + d) ≤ 10000) := by
    intro i hi
    simp only [tubeOkB, Bool.and_eq_true] at h
    have hst := allN_iff.1 h.1.2 i hi
    have e1 : (laterB d t).getD i default = lat d t[i] := by simp [laterB_eq, hi]
    have e2 : t.getD i default = t[i] := by simp [hi]
    have hok := hall _ (List.getElem_mem hi)
    unfold stepB at hst ⊢
    rw [e1, e2, lat_ok hok hd]
    rcases i with _ | k
    · simp
    · have hk : k < t.length := by omega
      have e3 : (laterB d t).getD (k + 1 - 1) default = lat d t[k] := by simp [laterB_eq, hk]
      have e4 : t.getD (k + 1 - 1) default = t[k] := by simp [hk]
      rw [e3, lat_next (hall _ (List.getElem_mem hk)) hok hd]
      rw [e2, e4] at hst
      simp only [Bool.and_eq_true, Bool.or_eq_true] at hst
      rcases hst.2 with k' | k'
      · simp at k'
      · rw [k']; simp
  have hg : groundB fs ((laterB d t).getD ((laterB d t).length - 1) default) = true := by
    simp only [tubeOkB, Bool.and_eq_true] at h
    have e1 : (laterB d t).getD ((laterB d t).length - 1) default = lat d (t.getD (t.length - 1) default) := by
      have : t.length - 1 < t.length := by omega
      simp [laterB_eq, this]
    rw [e1]
    exact h.2
  unfold tubeOkB
  rw [hg, laterB_length]
  rw [Bool.eq_iff_iff]
  simp only [Bool.and_eq_true, decide_eq_true_eq, Bool.not_eq_true', and_true]
  constructor
  · rintro ⟨_, k⟩
    apply any_no
    intro i hi
    have := allN_iff.1 k i hi
    rw [hs i hi] at this
    simp [hi] at this ⊢
    omega
  · intro k
    refine ⟨hlen, allN_of fun i hi => ?_⟩
    rw [hs i hi]
    unfold F0 at k
    rw [List.any_eq_false] at k
    have := k t[i] (List.getElem_mem hi)
    simp [hi] at this ⊢
    omega
/-- Two boxes, one of them later. -/
theorem close_later {x y : Box} {d : Nat} (hx : okB x = true) (hd : d ≤ 300) (hl : okB (lat d x) = true) : closeB y (lat d x) = hitB x y d := by
  rw [lat_ok hx hd] at hl
  have hxo := hx
  have e := lat_of hx hd
  have hok := lat_ok hx hd
  simp only [okB, inB, Bool.and_eq_true, decide_eq_true_eq] at hx
  rw [decide_eq_true_eq] at hl
  unfold closeB hitB besideB
  rw [hok, e]
  simp only [hxo, hl, decide_true, Bool.and_true, Bool.true_and]
  cases hy : okB y
  · simp
  simp only [okB, inB, Bool.and_eq_true, decide_eq_true_eq] at hy
  have w1 : wrap64 (y.x - x.x) = y.x - x.x := wrap64_id (by omega) (by omega)
  have w2 : wrap64 (x.x - y.x) = x.x - y.x := wrap64_id (by omega) (by omega)
  have w3 : wrap64 (y.y - x.y) = y.y - x.y := wrap64_id (by omega) (by omega)
  have w4 : wrap64 (x.y - y.y) = x.y - y.y := wrap64_id (by omega) (by omega)
  rw [w1, w2, w3, w4, max2_eq, min2_eq, Bool.eq_iff_iff]
  simp only [inB, Bool.and_eq_true, decide_eq_true_eq, Bool.true_and]
  constructor
  · rintro ⟨⟨⟨⟨⟨⟨a1, a2⟩, a3, a4⟩, a5⟩, a6⟩, a7⟩, a8⟩
    refine ⟨⟨⟨⟨⟨?_, ?_⟩, ?_, ?_⟩, ?_⟩, ?_⟩, ?_⟩ <;> omega
  · rintro ⟨⟨⟨⟨⟨a1, a2⟩, a3, a4⟩, a5⟩, a6⟩, a7⟩
    refine ⟨⟨⟨⟨⟨⟨?_, ?_⟩, ?_, ?_⟩, ?_⟩, ?_⟩, ?_⟩, ?_⟩ <;> omega
/-- What is barred is what cannot be. -/
theorem can_barred {b : Book} {n : ByteArray} {t : List Box} {d : Nat} (h : tubeOkB b.fields t = true) (hd : d ≤ 300) : canB b n t d = !barredF b n t d := by
  unfold canB barredF
  rw [later_ok h hd]
  cases h0 : F0 t d
  · have hall := tubeOk_all h
    have hok : ∀ x, x ∈ t → okB (lat d x) = true := by
      intro x hx
      rw [lat_ok (hall x hx) hd]
      unfold F0 at h0
      rw [List.any_eq_false] at h0
      have := h0 x hx
      simp at this ⊢
      omega
    have near : ∀ l, nearL l (laterB d t) = F1 t l d := by
      intro l
      unfold nearL F1
      congr 1
      funext y
      rw [laterB_eq, List.any_map]
      have : ∀ (t' : List Box), (∀ x, x ∈ t' → x ∈ t) → (t'.any ((fun b => closeB y b) ∘ lat d)) = t'.any fun x => hitB x y d := by
        intro t' ht'
        induction t' with
        | nil => rfl
        | cons x r ih =>
          simp only [List.any_cons, Function.comp]
          rw [close_later (hall x (ht' x (by simp))) hd (hok x (ht' x (by simp)))]
          congr 1
          exact ih fun z hz => ht' z (by simp [hz])
      exact this t fun _ hx => hx
    simp only [Bool.not_false, Bool.true_and, Bool.false_or]
    unfold freeB
    simp only [near]
    rw [List.not_any_eq_all_not]
    congr 1
    funext a
    cases decide (a.name = n) <;> cases F1 t a.tube d <;> cases F1 t a.next d <;> rfl
  · simp

theorem impl_GiveEarliest {S S' : Nat → Prop} (h : Heap) (c : BookC) (b : Book) (n : ByteArray) (ct : Ce) (t : List Box) (most : Int) (ho : HOk h) (hr : RdBook S h c b) (hw : BookWf b) (ht : RdF fBox S' h ct t) (_ : t.length ≤ 1048576) :
    ∃ h', Fimpl_GiveEarliest [.v (.agg c.ces), .v (.c (.str n)), .v (.c ct), .v (.c (.int .i64 most))] h = some (.tup [.c (.int .i64 (((earlB b n t most).getD 0 : Nat) : Int)), .c (.bool (earlB b n t most).isSome)], h') ∧ Fr h h' := by
  unfold Fimpl_GiveEarliest
  have B := impl_GiveBookOk h c b hr hw
  have T1 := impl_GiveTubeOk h _ _ _ _ hr.f ht
  have hf := hr.f.noLoc
  have hcf : c.ces[1]? = some c.f := rfl
  cases ha : askedB b t most
  · have : earlB b n t most = none := by simp [earlB, ha]
    refine ⟨h, runF_eq ?_, Fr.refl ho⟩
    cases a1 : bookOkB b
    · simp [cimpl_GiveEarliest, ht.noLoc, eimpl_GiveEarliest_impl_GiveBookOk, B, a1, this]
    cases a2 : tubeOkB b.fields t
    · simp [cimpl_GiveEarliest, ht.noLoc, hf, hcf, eimpl_GiveEarliest_impl_GiveBookOk, eimpl_GiveEarliest_impl_GiveTubeOk, B, T1, a1, a2, this]
    have a3 : inB most 0 300 = false := by simpa [askedB, a1, a2] using ha
    simp [cimpl_GiveEarliest, ht.noLoc, hf, hcf, eimpl_GiveEarliest_impl_GiveBookOk, eimpl_GiveEarliest_impl_GiveTubeOk, eimpl_GiveEarliest_impl_in, impl_in, B, T1, a1, a2, a3, this]
  have ha' := ha
  simp only [askedB, Bool.and_eq_true] at ha'
  obtain ⟨⟨a1, a2⟩, a3⟩ := ha'
  have hm : 0 ≤ most ∧ most ≤ 300 := by simpa [inB] using a3
  obtain ⟨m, rfl⟩ : ∃ m : Nat, most = m := ⟨most.toNat, by omega⟩
  have hm' : m ≤ 300 := by omega
  have he : earlB b n t m = firstN (m + 1) (fun d => !barredF b n t d) := by
    simp only [earlB, ha, if_true, Int.toNat_natCast]
    unfold firstN
    have : ∀ l : List Nat, (∀ d, d ∈ l → d ≤ m) → l.find? (fun d : Nat => canB b n t d) = l.find? (fun d => !barredF b n t d) := by
      intro l
      induction l with
      | nil => intro _; rfl
      | cons d r ih =>
        intro hl
        simp only [List.find?_cons]
        rw [can_barred a2 (by have := hl d (by simp); omega), ih fun x hx => hl x (by simp [hx])]
    exact this _ fun d hd => by simp at hd; omega
  obtain ⟨c', h1, fp, t1, nw⟩ := impl_barred h c b n ct t m ho hm' hr ht (tubeOk_all a2)
  have rb := nw.rd (by rw [boolL_length]; omega)
  rw [a1] at B
  rw [a2] at T1
  refine ⟨h1, runF_eq ?_, nw.fr⟩
  have hsl := rb.slen
  rw [boolL_length] at hsl
  simp [cimpl_GiveEarliest, ht.noLoc, hf, hcf, eimpl_GiveEarliest_impl_GiveBookOk, eimpl_GiveEarliest_impl_GiveTubeOk, eimpl_GiveEarliest_impl_in, eimpl_GiveEarliest_impl_GiveBook_barred, impl_in, B, T1, a3, t1, hsl]
  refine AW_for1 (m + 1) (fun d => !barredF b n t d) (fun i x => x.1 31 = .v (.c c') ∧ x.1 32 = .v (.c (.int .i64 ((m + 1 : Nat) : Int))) ∧ x.1 33 = .v (.c (.int .i64 i)) ∧ x.2.h = h1) (by simp) ?_ ?_
  · rintro i ⟨T, ⟨h', lc⟩⟩ hin hpre ⟨h31, h32, h33, hs⟩
    simp only at h31 h32 h33 hs
    subst hs
    obtain ⟨eb, ep, er, e1, _, e2, e3, e5⟩ := rb.bool1 (i := i) (by rw [boolL_length]; exact hin)
    have hbi : (boolL m (barredF b n t))[i]'(by rw [boolL_length]; exact hin) = barredF b n t i := by simp [boolL]
    rw [hbi] at e5
    have hw1 := wrap1 (i := i) (by omega)
    have hle : (i : Int) < (m : Int) + 1 := by omega
    cases hb : barredF b n t i
    · have := firstN_some (p := fun d => !barredF b n t d) hin (by simp [hb]) hpre
      rw [← he] at this
      rw [hb] at e5
      simp [cimpl_GiveEarliest_L0, h31, h32, h33, hle, nw.own.noLoc, e1, e2, e5, this]
    · rw [hb] at e5
      simp [cimpl_GiveEarliest_L0, h31, h32, h33, hle, nw.own.noLoc, e1, e2, e5, hw1]
  · rintro ⟨T, ⟨h', lc⟩⟩ hno ⟨h31, h32, h33, hs⟩
    simp only at h31 h32 h33 hs
    subst hs
    have := firstN_none (p := fun d => !barredF b n t d) hno
    rw [← he] at this
    simp [cimpl_GiveEarliest_L0, h32, h33, this]
end Go.Abs
