/-
  The codes of the functions, for the abstract machine (printed by wip/tools/gen3.py; not typed by hand).
-/
import Derived.Test.YtenccnpdaldkfaaB4dbb2
set_option linter.unusedSimpArgs false
set_option linter.unusedVariables false
namespace Go.Abs

/-! ### laws_szGiveField: function 90 -/
def claws_szGiveField : ACode := (.seq (.reg [2] [OP 2 (.boxL 3 (.t 0)),
 OP 4 (.mov (KI 0))])
((.seq (.reg [] [MV 5 1,
 FA 6 0 2,
 LD 7 6,
 OP 8 (.lenS (.t 7)),
 OP 9 (.bin .sub (.t 5) (.t 8)),
 MV 1 9])
((.seq ((.seq (.reg [] [MV 10 1,
 OP 11 (.bin .lss (.t 10) (KI 0))])
(.cond (.t 11) ((.seq (.reg [] [OP 4 (.mov (KI (-1)))])
(.ret))) (.skip))))
((.seq (.reg [] [MV 12 1,
 MV 4 12])
(.ret))))))))
noncomputable def elaws_szGiveField : Env := envL []
noncomputable def Flaws_szGiveField : Fun := runF elaws_szGiveField claws_szGiveField [.t 4]

/-! ### laws_szGiveFieldS: function 32 -/
def claws_szGiveFieldS_L0 : ACode := (.seq ((.seq (.reg [] [MV 12 5,
 MV 13 0,
 LE 14 13,
 OP 15 (.bin .lss (.t 12) (.t 14))])
(.cond (.t 15) (.skip) (.exit 0))))
((.seq (.block 1 ((.seq (.reg [] [MV 18 0,
 MV 19 5,
 IA 20 3 18 19,
 OP 21 (.loadN 3 (.t 20)),
 MV 22 1,
 OP 23 (.call 90 [.t 21, .t 22]),
 MV 1 23])
((.seq (.reg [] [MV 24 1,
 OP 25 (.bin .lss (.t 24) (KI 0))])
(.cond (.t 25) ((.seq (.reg [] [OP 4 (.mov (KI (-1)))])
(.ret))) (.skip)))))))
(.reg [] [MV 16 5,
 OP 17 (.bin .add (.t 16) (KI 1)),
 MV 5 17]))))
def claws_szGiveFieldS : ACode := (.seq (.reg [] [OP 4 (.mov (KI 0))])
((.seq (.reg [] [MV 6 1,
 MV 7 0,
 LE 8 7,
 OP 9 (.bin .sub (.t 6) (.t 8)),
 MV 1 9])
((.seq ((.seq (.reg [] [MV 10 1,
 OP 11 (.bin .lss (.t 10) (KI 0))])
(.cond (.t 11) ((.seq (.reg [] [OP 4 (.mov (KI (-1)))])
(.ret))) (.skip))))
((.seq ((.seq (.reg [] [OP 5 (.mov (KI 0))])
(.block 0 (.loop claws_szGiveFieldS_L0))))
((.seq (.reg [] [MV 26 1,
 MV 4 26])
(.ret))))))))))
noncomputable def elaws_szGiveFieldS : Env := envL [(90, Flaws_szGiveField)]
noncomputable def Flaws_szGiveFieldS : Fun := runF elaws_szGiveFieldS claws_szGiveFieldS [.t 4]
theorem elaws_szGiveFieldS_laws_szGiveField : elaws_szGiveFieldS 90 = some Flaws_szGiveField := by simp [elaws_szGiveFieldS, envL_cons]

/-! ### spec_l1Next: function 93 -/
def cspec_l1Next : ACode := (.seq (.reg [2, 3] [OP 2 (.boxL 6 (.t 0)),
 OP 3 (.boxL 6 (.t 1)),
 MF 4])
((.seq (.reg [] [FA 5 0 2,
 LD 6 5,
 FA 7 0 3,
 LD 8 7,
 OP 9 (.bin .sub (.t 6) (.t 8)),
 OP 10 (.call 91 [.t 9, KI (-1), KI 1]),
 MV 11 10,
 OT 12 11 (.faddr 1 (.t 2)),
 OT 13 11 (.load1 (.t 12)),
 OT 14 11 (.faddr 1 (.t 3)),
 OT 15 11 (.load1 (.t 14)),
 OT 16 11 (.bin .sub (.t 13) (.t 15)),
 OT 17 11 (.call 91 [.t 16, KI (-1), KI 1]),
 OP 18 (.pick (.t 11) (.t 17) KF),
 MV 19 18,
 OT 20 19 (.faddr 2 (.t 2)),
 OT 21 19 (.load1 (.t 20)),
 OT 22 19 (.faddr 3 (.t 3)),
 OT 23 19 (.load1 (.t 22)),
 OT 24 19 (.bin .leq (.t 21) (.t 23)),
 OP 25 (.pick (.t 19) (.t 24) KF),
 MV 26 25,
 OT 27 26 (.faddr 2 (.t 3)),
 OT 28 26 (.load1 (.t 27)),
 OT 29 26 (.faddr 3 (.t 2)),
 OT 30 26 (.load1 (.t 29)),
 OT 31 26 (.bin .leq (.t 28) (.t 30)),
 OP 32 (.pick (.t 26) (.t 31) KF),
 MV 33 32,
 OT 34 33 (.faddr 4 (.t 2)),
 OT 35 33 (.load1 (.t 34)),
 OT 36 33 (.faddr 4 (.t 3)),
 OT 37 33 (.load1 (.t 36)),
 OT 38 33 (.bin .leq (.t 35) (.t 37)),
 OP 39 (.pick (.t 33) (.t 38) KF),
 MV 40 39,
 OT 41 40 (.faddr 5 (.t 2)),
 OT 42 40 (.load1 (.t 41)),
 OT 43 40 (.faddr 5 (.t 3)),
 OT 44 40 (.load1 (.t 43)),
 OT 45 40 (.bin .leq (.t 42) (.t 44)),
 OP 46 (.pick (.t 40) (.t 45) KF),
 MV 47 46,
 OT 48 47 (.faddr 4 (.t 3)),
 OT 49 47 (.load1 (.t 48)),
 OT 50 47 (.faddr 5 (.t 2)),
 OT 51 47 (.load1 (.t 50)),
 OT 52 47 (.bin .add (.t 51) (KI 1)),
 OT 53 47 (.bin .leq (.t 49) (.t 52)),
 OP 54 (.pick (.t 47) (.t 53) KF),
 MV 4 54])
(.ret))))
noncomputable def espec_l1Next : Env := envL [(91, Fspec_l1In)]
noncomputable def Fspec_l1Next : Fun := runF espec_l1Next cspec_l1Next [.t 4]
theorem espec_l1Next_spec_l1In : espec_l1Next 91 = some Fspec_l1In := by simp [espec_l1Next, envL_cons]

/-! ### spec_l1Ground: function 94 -/
def cspec_l1Ground_L0 : ACode := (.seq ((.seq (.reg [] [MV 6 5,
 MV 7 0,
 LE 8 7,
 OP 9 (.bin .lss (.t 6) (.t 8))])
(.cond (.t 9) (.skip) (.exit 0))))
((.seq (.block 1 ((.seq (.regD [] [MV 12 0,
 MV 13 5,
 IA 14 3 12 13,
 FA 15 1 14,
 LD 16 15,
 FA 17 0 3,
 LD 18 17,
 OP 19 (.bin .eql (.t 16) (.t 18)),
 MV 20 19,
 OT 21 20 (.mov (.t 0)),
 OT 22 20 (.mov (.t 5)),
 OT 23 20 (.iaddr 3 (.t 21) (.t 22)),
 OT 24 20 (.faddr 2 (.t 23)),
 OT 25 20 (.load1 (.t 24)),
 OT 26 20 (.faddr 1 (.t 3)),
 OT 27 20 (.load1 (.t 26)),
 OT 28 20 (.bin .eql (.t 25) (.t 27)),
 OP 29 (.pick (.t 20) (.t 28) KF),
 MV 30 29,
 OT 31 30 (.faddr 2 (.t 3)),
 OT 32 30 (.load1 (.t 31)),
 OT 33 30 (.bin .eql (.t 32) (KI 0)),
 OP 34 (.pick (.t 30) (.t 33) KF)] [])
(.cond (.t 34) ((.seq (.reg [] [OP 4 (.mov KT)])
(.ret))) (.skip)))))
(.reg [] [MV 10 5,
 OP 11 (.bin .add (.t 10) (KI 1)),
 MV 5 11]))))
def cspec_l1Ground : ACode := (.seq (.reg [3] [OP 3 (.boxL 6 (.t 1)),
 MF 4])
((.seq ((.seq (.reg [] [OP 5 (.mov (KI 0))])
(.block 0 (.loop cspec_l1Ground_L0))))
((.seq (.reg [] [MF 4])
(.ret))))))
noncomputable def espec_l1Ground : Env := envL []
noncomputable def Fspec_l1Ground : Fun := runF espec_l1Ground cspec_l1Ground [.t 4]

/-! ### spec_GiveTubeOk: function 33 -/
def cspec_GiveTubeOk_L0 : ACode := (.seq ((.seq (.reg [] [MV 10 5,
 MV 11 1,
 LE 12 11,
 OP 13 (.bin .lss (.t 10) (.t 12))])
(.cond (.t 13) (.skip) (.exit 0))))
((.seq (.block 1 ((.seq (.regD [] [MV 16 1,
 MV 17 5,
 IA 18 6 16 17,
 OP 19 (.loadN 6 (.t 18)),
 OP 20 (.call 92 [.t 19]),
 OP 21 (.un .not (.t 20)),
 MV 22 21,
 OF 23 22 (.mov (.t 5)),
 OF 24 22 (.bin .gtr (.t 23) (KI 0)),
 OF 25 22 (.mov (.t 24)),
 OT 26 25 (.mov (.t 1)),
 OT 27 25 (.mov (.t 5)),
 OT 28 25 (.bin .sub (.t 27) (KI 1)),
 OT 29 25 (.iaddr 6 (.t 26) (.t 28)),
 OT 30 25 (.loadN 6 (.t 29)),
 OT 31 25 (.mov (.t 1)),
 OT 32 25 (.mov (.t 5)),
 OT 33 25 (.iaddr 6 (.t 31) (.t 32)),
 OT 34 25 (.loadN 6 (.t 33)),
 OT 35 25 (.call 93 [.t 30, .t 34]),
 OT 36 25 (.un .not (.t 35)),
 OF 37 22 (.pick (.t 25) (.t 36) KF),
 OP 38 (.pick (.t 22) KT (.t 37))] [])
(.cond (.t 38) ((.seq (.reg [] [MF 4])
(.ret))) (.skip)))))
(.reg [] [MV 14 5,
 OP 15 (.bin .add (.t 14) (KI 1)),
 MV 5 15]))))
def cspec_GiveTubeOk : ACode := (.seq (.reg [] [MF 4])
((.seq ((.seq (.reg [] [MV 6 1,
 LE 7 6,
 OP 8 (.call 91 [.t 7, KI 1, KI 40]),
 OP 9 (.un .not (.t 8))])
(.cond (.t 9) ((.seq (.reg [] [MF 4])
(.ret))) (.skip))))
((.seq ((.seq (.reg [] [OP 5 (.mov (KI 0))])
(.block 0 (.loop cspec_GiveTubeOk_L0))))
((.seq (.reg [] [MV 39 0,
 MV 40 1,
 MV 41 1,
 LE 42 41,
 OP 43 (.bin .sub (.t 42) (KI 1)),
 IA 44 6 40 43,
 OP 45 (.loadN 6 (.t 44)),
 OP 46 (.call 94 [.t 39, .t 45]),
 MV 4 46])
(.ret))))))))
noncomputable def espec_GiveTubeOk : Env := envL [(91, Fspec_l1In), (92, Fspec_l1BoxOk), (93, Fspec_l1Next), (94, Fspec_l1Ground)]
noncomputable def Fspec_GiveTubeOk : Fun := runF espec_GiveTubeOk cspec_GiveTubeOk [.t 4]
theorem espec_GiveTubeOk_spec_l1In : espec_GiveTubeOk 91 = some Fspec_l1In := by simp [espec_GiveTubeOk, envL_cons]
theorem espec_GiveTubeOk_spec_l1BoxOk : espec_GiveTubeOk 92 = some Fspec_l1BoxOk := by simp [espec_GiveTubeOk, envL_cons]
theorem espec_GiveTubeOk_spec_l1Next : espec_GiveTubeOk 93 = some Fspec_l1Next := by simp [espec_GiveTubeOk, envL_cons]
theorem espec_GiveTubeOk_spec_l1Ground : espec_GiveTubeOk 94 = some Fspec_l1Ground := by simp [espec_GiveTubeOk, envL_cons]

/-! ### laws_toGiveField: function 95 -/
def claws_toGiveField : ACode := (.seq (.reg [1, 2] [OP 1 (.boxL 3 (.t 0)),
 ⟨some 2, .allocL 3 [.str ⟨#[]⟩, .int .i64 0, .int .i64 0], none⟩])
((.seq (.reg [3] [⟨some 3, .allocL 3 [.str ⟨#[]⟩, .int .i64 0, .int .i64 0], none⟩])
((.seq (.reg [] [FA 4 0 1,
 LD 5 4,
 FA 6 0 3,
 OX (.store 1 (.t 6) (.t 5))])
((.seq (.reg [] [FA 7 1 1,
 LD 8 7,
 FA 9 1 3,
 OX (.store 1 (.t 9) (.t 8))])
((.seq (.reg [] [FA 10 2 1,
 LD 11 10,
 FA 12 2 3,
 OX (.store 1 (.t 12) (.t 11))])
((.seq (.reg [] [OP 13 (.loadN 3 (.t 3)),
 OX (.store 3 (.t 2) (.t 13))])
(.ret))))))))))))
noncomputable def elaws_toGiveField : Env := envL []
noncomputable def Flaws_toGiveField : Fun := runF elaws_toGiveField claws_toGiveField [.cellN 2 3]

/-! ### laws_toGiveFieldS: function 34 -/
def claws_toGiveFieldS_L0 : ACode := (.seq ((.seq (.reg [] [MV 8 4,
 MV 9 0,
 LE 10 9,
 OP 11 (.bin .lss (.t 8) (.t 10))])
(.cond (.t 11) (.skip) (.exit 0))))
((.seq (.block 1 (.reg [] [MV 14 3,
 MV 15 4,
 MV 16 0,
 MV 17 4,
 IA 18 3 16 17,
 OP 19 (.loadN 3 (.t 18)),
 OP 20 (.call 95 [.t 19]),
 IA 21 3 14 15,
 OX (.store 3 (.t 21) (.t 20))]))
(.reg [] [MV 12 4,
 OP 13 (.bin .add (.t 12) (KI 1)),
 MV 4 13]))))
def claws_toGiveFieldS : ACode := (.seq (.reg [] [OP 2 (.mov KN)])
((.seq (.reg [] [MV 5 0,
 LE 6 5,
 ⟨some 7, .make 3 [.str ⟨#[]⟩, .int .i64 0, .int .i64 0] (.t 6) (.t 6), none⟩,
 MV 3 7])
((.seq ((.seq (.reg [] [OP 4 (.mov (KI 0))])
(.block 0 (.loop claws_toGiveFieldS_L0))))
((.seq (.reg [] [MV 22 3,
 MV 2 22])
(.ret))))))))
noncomputable def elaws_toGiveFieldS : Env := envL [(95, Flaws_toGiveField)]
noncomputable def Flaws_toGiveFieldS : Fun := runF elaws_toGiveFieldS claws_toGiveFieldS [.t 2]
theorem elaws_toGiveFieldS_laws_toGiveField : elaws_toGiveFieldS 95 = some Flaws_toGiveField := by simp [elaws_toGiveFieldS, envL_cons]

/-! ### impl_isField: function 98 -/
def cimpl_isField_L0 : ACode := (.seq (.reg [] [OP 12 (.bin .lss (.t 11) (.t 10))])
((.seq (.cond (.t 12) (.skip) (.exit 0))
((.seq (.block 1 ((.seq (.reg [8] [IA 13 3 9 11,
 OP 14 (.loadN 3 (.t 13)),
 ⟨some 8, .allocL 3 [.str ⟨#[]⟩, .int .i64 0, .int .i64 0], none⟩,
 OX (.store 3 (.t 8) (.t 14))])
((.seq (.reg [] [FA 15 1 8,
 LD 16 15,
 MV 17 1,
 OP 18 (.bin .eql (.t 16) (.t 17)),
 MV 19 18,
 OT 20 19 (.faddr 2 (.t 8)),
 OT 21 19 (.load1 (.t 20)),
 OT 22 19 (.mov (.t 2)),
 OT 23 19 (.bin .eql (.t 21) (.t 22)),
 OP 24 (.pick (.t 19) (.t 23) KF)])
(.cond (.t 24) ((.seq (.reg [] [OP 6 (.mov KT)])
(.ret))) (.skip)))))))
(.reg [] [OP 25 (.bin .add (.t 11) (KI 1)),
 MV 11 25]))))))
def cimpl_isField : ACode := (.seq (.reg [] [MF 6])
((.seq ((.seq (.reg [] [MV 9 0,
 LE 10 9,
 OP 11 (.mov (KI 0))])
(.block 0 (.loop cimpl_isField_L0))))
((.seq (.reg [] [MF 6])
(.ret))))))
noncomputable def eimpl_isField : Env := envL []
noncomputable def Fimpl_isField : Fun := runF eimpl_isField cimpl_isField [.t 6]

/-! ### impl_GiveTubeOk: function 35 -/
def cimpl_GiveTubeOk_L0 : ACode := (.seq (.reg [] [OP 16 (.bin .lss (.t 15) (.t 14))])
((.seq (.cond (.t 16) (.skip) (.exit 0))
((.seq (.block 1 ((.seq (.reg [6] [MV 17 15,
 IA 18 6 13 15,
 OP 19 (.loadN 6 (.t 18)),
 OP 6 (.allocL 6 Z6),
 MV 5 17,
 OX (.store 6 (.t 6) (.t 19))])
((.seq ((.seq (.reg [] [OP 20 (.loadN 6 (.t 6)),
 OP 21 (.call 97 [.t 20]),
 OP 22 (.un .not (.t 21))])
(.cond (.t 22) ((.seq (.reg [] [MF 4])
(.ret))) (.skip))))
((.seq ((.seq (.reg [] [MV 23 5,
 OP 24 (.bin .eql (.t 23) (KI 0))])
(.cond (.t 24) (.exit 1) (.skip))))
((.seq (.reg [7] [MV 25 1,
 MV 26 5,
 OP 27 (.bin .sub (.t 26) (KI 1)),
 IA 28 6 25 27,
 OP 29 (.loadN 6 (.t 28)),
 OP 7 (.allocL 6 Z6),
 OX (.store 6 (.t 7) (.t 29))])
((.seq (.reg [] [FA 30 0 6,
 LD 31 30,
 FA 32 0 7,
 LD 33 32,
 OP 34 (.bin .sub (.t 31) (.t 33)),
 OP 35 (.call 96 [.t 34, KI (-1), KI 1]),
 OP 36 (.un .not (.t 35)),
 MV 37 36,
 OF 38 37 (.faddr 1 (.t 6)),
 OF 39 37 (.load1 (.t 38)),
 OF 40 37 (.faddr 1 (.t 7)),
 OF 41 37 (.load1 (.t 40)),
 OF 42 37 (.bin .sub (.t 39) (.t 41)),
 OF 43 37 (.call 96 [.t 42, KI (-1), KI 1]),
 OF 44 37 (.un .not (.t 43)),
 OP 45 (.pick (.t 37) KT (.t 44)),
 MV 46 45,
 OF 47 46 (.faddr 2 (.t 7)),
 OF 48 46 (.load1 (.t 47)),
 OF 49 46 (.faddr 2 (.t 6)),
 OF 50 46 (.load1 (.t 49)),
 OF 51 46 (.maxs [.t 48, .t 50]),
 OF 52 46 (.faddr 3 (.t 7)),
 OF 53 46 (.load1 (.t 52)),
 OF 54 46 (.faddr 3 (.t 6)),
 OF 55 46 (.load1 (.t 54)),
 OF 56 46 (.mins [.t 53, .t 55]),
 OF 57 46 (.bin .gtr (.t 51) (.t 56)),
 OP 58 (.pick (.t 46) KT (.t 57)),
 MV 59 58,
 OF 60 59 (.faddr 4 (.t 6)),
 OF 61 59 (.load1 (.t 60)),
 OF 62 59 (.faddr 4 (.t 7)),
 OF 63 59 (.load1 (.t 62)),
 OF 64 59 (.bin .lss (.t 61) (.t 63)),
 OP 65 (.pick (.t 59) KT (.t 64)),
 MV 66 65,
 OF 67 66 (.faddr 5 (.t 6)),
 OF 68 66 (.load1 (.t 67)),
 OF 69 66 (.faddr 5 (.t 7)),
 OF 70 66 (.load1 (.t 69)),
 OF 71 66 (.bin .lss (.t 68) (.t 70)),
 OP 72 (.pick (.t 66) KT (.t 71)),
 MV 73 72,
 OF 74 73 (.faddr 4 (.t 6)),
 OF 75 73 (.load1 (.t 74)),
 OF 76 73 (.faddr 5 (.t 7)),
 OF 77 73 (.load1 (.t 76)),
 OF 78 73 (.bin .add (.t 77) (KI 1)),
 OF 79 73 (.bin .gtr (.t 75) (.t 78)),
 OP 80 (.pick (.t 73) KT (.t 79))])
(.cond (.t 80) ((.seq (.reg [] [MF 4])
(.ret))) (.skip)))))))))))))
(.reg [] [OP 81 (.bin .add (.t 15) (KI 1)),
 MV 15 81]))))))
def cimpl_GiveTubeOk : ACode := (.seq (.reg [] [MF 4])
((.seq ((.seq (.reg [] [MV 9 1,
 LE 10 9,
 OP 11 (.call 96 [.t 10, KI 1, KI 40]),
 OP 12 (.un .not (.t 11))])
(.cond (.t 12) ((.seq (.reg [] [MF 4])
(.ret))) (.skip))))
((.seq ((.seq (.reg [] [MV 13 1,
 LE 14 13,
 OP 15 (.mov (KI 0))])
(.block 0 (.loop cimpl_GiveTubeOk_L0))))
((.seq (.reg [8] [MV 82 1,
 MV 83 1,
 LE 84 83,
 OP 85 (.bin .sub (.t 84) (KI 1)),
 IA 86 6 82 85,
 OP 87 (.loadN 6 (.t 86)),
 OP 8 (.allocL 6 Z6),
 OX (.store 6 (.t 8) (.t 87))])
((.seq (.reg [] [FA 88 2 8,
 LD 89 88,
 OP 90 (.bin .eql (.t 89) (KI 0)),
 MV 91 90,
 OT 92 91 (.mov (.t 0)),
 OT 93 91 (.faddr 0 (.t 8)),
 OT 94 91 (.load1 (.t 93)),
 OT 95 91 (.faddr 1 (.t 8)),
 OT 96 91 (.load1 (.t 95)),
 OT 97 91 (.call 98 [.t 92, .t 94, .t 96]),
 OP 98 (.pick (.t 91) (.t 97) KF),
 MV 4 98])
(.ret))))))))))
noncomputable def eimpl_GiveTubeOk : Env := envL [(96, Fimpl_in), (97, Fimpl_boxOk), (98, Fimpl_isField)]
noncomputable def Fimpl_GiveTubeOk : Fun := runF eimpl_GiveTubeOk cimpl_GiveTubeOk [.t 4]
theorem eimpl_GiveTubeOk_impl_in : eimpl_GiveTubeOk 96 = some Fimpl_in := by simp [eimpl_GiveTubeOk, envL_cons]
theorem eimpl_GiveTubeOk_impl_boxOk : eimpl_GiveTubeOk 97 = some Fimpl_boxOk := by simp [eimpl_GiveTubeOk, envL_cons]
theorem eimpl_GiveTubeOk_impl_isField : eimpl_GiveTubeOk 98 = some Fimpl_isField := by simp [eimpl_GiveTubeOk, envL_cons]

/-! ### laws_eqGiveField: function 99 -/
def claws_eqGiveField : ACode := (.seq (.reg [2, 3] [OP 2 (.boxL 3 (.t 0)),
 OP 3 (.boxL 3 (.t 1)),
 MF 4])
((.seq ((.seq (.reg [] [FA 5 0 2,
 LD 6 5,
 FA 7 0 3,
 LD 8 7,
 OP 9 (.bin .neq (.t 6) (.t 8))])
(.cond (.t 9) ((.seq (.reg [] [MF 4])
(.ret))) (.skip))))
((.seq ((.seq (.reg [] [FA 10 1 2,
 LD 11 10,
 FA 12 1 3,
 LD 13 12,
 OP 14 (.bin .neq (.t 11) (.t 13))])
(.cond (.t 14) ((.seq (.reg [] [MF 4])
(.ret))) (.skip))))
((.seq ((.seq (.reg [] [FA 15 2 2,
 LD 16 15,
 FA 17 2 3,
 LD 18 17,
 OP 19 (.bin .neq (.t 16) (.t 18))])
(.cond (.t 19) ((.seq (.reg [] [MF 4])
(.ret))) (.skip))))
((.seq (.reg [] [OP 4 (.mov KT)])
(.ret))))))))))
noncomputable def elaws_eqGiveField : Env := envL []
noncomputable def Flaws_eqGiveField : Fun := runF elaws_eqGiveField claws_eqGiveField [.t 4]

/-! ### laws_eqGiveFieldS: function 36 -/
def claws_eqGiveFieldS_L0 : ACode := (.seq ((.seq (.reg [] [MV 11 5,
 MV 12 0,
 LE 13 12,
 OP 14 (.bin .lss (.t 11) (.t 13))])
(.cond (.t 14) (.skip) (.exit 0))))
((.seq (.block 1 ((.seq (.regD [] [MV 17 0,
 MV 18 5,
 IA 19 3 17 18,
 OP 20 (.loadN 3 (.t 19)),
 MV 21 1,
 MV 22 5,
 IA 23 3 21 22,
 OP 24 (.loadN 3 (.t 23)),
 OP 25 (.call 99 [.t 20, .t 24]),
 OP 26 (.un .not (.t 25))] [])
(.cond (.t 26) ((.seq (.reg [] [MF 4])
(.ret))) (.skip)))))
(.reg [] [MV 15 5,
 OP 16 (.bin .add (.t 15) (KI 1)),
 MV 5 16]))))
def claws_eqGiveFieldS : ACode := (.seq (.reg [] [MF 4])
((.seq ((.seq (.reg [] [MV 6 0,
 LE 7 6,
 MV 8 1,
 LE 9 8,
 OP 10 (.bin .neq (.t 7) (.t 9))])
(.cond (.t 10) ((.seq (.reg [] [MF 4])
(.ret))) (.skip))))
((.seq ((.seq (.reg [] [OP 5 (.mov (KI 0))])
(.block 0 (.loop claws_eqGiveFieldS_L0))))
((.seq (.reg [] [OP 4 (.mov KT)])
(.ret))))))))
noncomputable def elaws_eqGiveFieldS : Env := envL [(99, Flaws_eqGiveField)]
noncomputable def Flaws_eqGiveFieldS : Fun := runF elaws_eqGiveFieldS claws_eqGiveFieldS [.t 4]
theorem elaws_eqGiveFieldS_laws_eqGiveField : elaws_eqGiveFieldS 99 = some Flaws_eqGiveField := by simp [elaws_eqGiveFieldS, envL_cons]

/-! ### laws_FnExactGiveTubeOk: function 6 -/
def claws_FnExactGiveTubeOk : ACode := (.seq (.reg [] [MF 4])
((.seq (.reg [] [OP 5 (.mov (KI 1048576))])
((.seq (.reg [] [MV 10 0,
 MV 11 5,
 OP 12 (.call 32 [.t 10, .t 11]),
 MV 5 12])
((.seq ((.seq (.reg [] [MV 13 5,
 OP 14 (.bin .lss (.t 13) (KI 0))])
(.cond (.t 14) ((.seq (.reg [] [OP 4 (.mov KT)])
(.ret))) (.skip))))
((.seq (.reg [] [MV 15 1,
 MV 16 5,
 OP 17 (.call 23 [.t 15, .t 16]),
 MV 5 17])
((.seq ((.seq (.reg [] [MV 18 5,
 OP 19 (.bin .lss (.t 18) (KI 0))])
(.cond (.t 19) ((.seq (.reg [] [OP 4 (.mov KT)])
(.ret))) (.skip))))
((.seq (.reg [] [MV 20 0,
 OP 21 (.call 34 [.t 20]),
 MV 22 1,
 OP 23 (.call 25 [.t 22]),
 OP 24 (.call 33 [.t 21, .t 23]),
 MV 6 24])
((.seq (.reg [] [MV 25 0,
 OP 26 (.call 34 [.t 25]),
 MV 7 26])
((.seq (.reg [] [MV 27 1,
 OP 28 (.call 25 [.t 27]),
 MV 8 28])
((.seq (.reg [] [MV 29 7,
 MV 30 8,
 OP 31 (.call 35 [.t 29, .t 30]),
 MV 9 31])
((.seq ((.seq (.reg [] [MV 32 9,
 MV 33 6,
 OP 34 (.binB true (.t 32) (.t 33))])
(.cond (.t 34) ((.seq (.reg [] [MF 4])
(.ret))) (.skip))))
((.seq ((.seq (.reg [] [MV 35 7,
 MV 36 0,
 OP 37 (.call 34 [.t 36]),
 OP 38 (.call 36 [.t 35, .t 37]),
 OP 39 (.un .not (.t 38))])
(.cond (.t 39) ((.seq (.reg [] [MF 4])
(.ret))) (.skip))))
((.seq ((.seq (.reg [] [MV 40 8,
 MV 41 1,
 OP 42 (.call 25 [.t 41]),
 OP 43 (.call 27 [.t 40, .t 42]),
 OP 44 (.un .not (.t 43))])
(.cond (.t 44) ((.seq (.reg [] [MF 4])
(.ret))) (.skip))))
((.seq (.reg [] [OP 4 (.mov KT)])
(.ret))))))))))))))))))))))))))))
noncomputable def elaws_FnExactGiveTubeOk : Env := envL [(23, Flaws_szGiveBoxS), (25, Flaws_toGiveBoxS), (27, Flaws_eqGiveBoxS), (32, Flaws_szGiveFieldS), (33, Fspec_GiveTubeOk), (34, Flaws_toGiveFieldS), (35, Fimpl_GiveTubeOk), (36, Flaws_eqGiveFieldS)]
noncomputable def Flaws_FnExactGiveTubeOk : Fun := runF elaws_FnExactGiveTubeOk claws_FnExactGiveTubeOk [.t 4]
theorem elaws_FnExactGiveTubeOk_laws_szGiveBoxS : elaws_FnExactGiveTubeOk 23 = some Flaws_szGiveBoxS := by simp [elaws_FnExactGiveTubeOk, envL_cons]
theorem elaws_FnExactGiveTubeOk_laws_toGiveBoxS : elaws_FnExactGiveTubeOk 25 = some Flaws_toGiveBoxS := by simp [elaws_FnExactGiveTubeOk, envL_cons]
theorem elaws_FnExactGiveTubeOk_laws_eqGiveBoxS : elaws_FnExactGiveTubeOk 27 = some Flaws_eqGiveBoxS := by simp [elaws_FnExactGiveTubeOk, envL_cons]
theorem elaws_FnExactGiveTubeOk_laws_szGiveFieldS : elaws_FnExactGiveTubeOk 32 = some Flaws_szGiveFieldS := by simp [elaws_FnExactGiveTubeOk, envL_cons]
theorem elaws_FnExactGiveTubeOk_spec_GiveTubeOk : elaws_FnExactGiveTubeOk 33 = some Fspec_GiveTubeOk := by simp [elaws_FnExactGiveTubeOk, envL_cons]
theorem elaws_FnExactGiveTubeOk_laws_toGiveFieldS : elaws_FnExactGiveTubeOk 34 = some Flaws_toGiveFieldS := by simp [elaws_FnExactGiveTubeOk, envL_cons]
theorem elaws_FnExactGiveTubeOk_impl_GiveTubeOk : elaws_FnExactGiveTubeOk 35 = some Fimpl_GiveTubeOk := by simp [elaws_FnExactGiveTubeOk, envL_cons]
theorem elaws_FnExactGiveTubeOk_laws_eqGiveFieldS : elaws_FnExactGiveTubeOk 36 = some Flaws_eqGiveFieldS := by simp [elaws_FnExactGiveTubeOk, envL_cons]

end Go.Abs

/-
  What the codes tell is what the program's functions do (printed by wip/tools/gen3.py).
-/

namespace Go.Abs
open Go.Proofs
set_option maxRecDepth 100000

theorem slaws_szGiveField : Sound Try.prog 90 Flaws_szGiveField := sound_of (envL_ok (fun p hp => by simp at hp)) mixed [2] Try.func90 (by kernel_rfl) (by kernel_rfl) (by kernel_rfl)
theorem slaws_szGiveFieldS : Sound Try.prog 32 Flaws_szGiveFieldS := sound_of (envL_ok (by simp only [List.forall_mem_cons, List.not_mem_nil, false_implies, implies_true, and_true]; exact slaws_szGiveField)) mixed [] Try.func32 (by kernel_rfl) (by kernel_rfl) (by kernel_rfl)
theorem sspec_l1Next : Sound Try.prog 93 Fspec_l1Next := sound_of (envL_ok (by simp only [List.forall_mem_cons, List.not_mem_nil, false_implies, implies_true, and_true]; exact sspec_l1In)) mixed [2, 3] Try.func93 (by kernel_rfl) (by kernel_rfl) (by kernel_rfl)
theorem sspec_l1Ground : Sound Try.prog 94 Fspec_l1Ground := sound_of (envL_ok (fun p hp => by simp at hp)) mixed [3] Try.func94 (by kernel_rfl) (by kernel_rfl) (by kernel_rfl)
theorem sspec_GiveTubeOk : Sound Try.prog 33 Fspec_GiveTubeOk := sound_of (envL_ok (by simp only [List.forall_mem_cons, List.not_mem_nil, false_implies, implies_true, and_true]; exact ⟨sspec_l1In, sspec_l1BoxOk, sspec_l1Next, sspec_l1Ground⟩)) mixed [] Try.func33 (by kernel_rfl) (by kernel_rfl) (by kernel_rfl)
theorem slaws_toGiveField : Sound Try.prog 95 Flaws_toGiveField := sound_of (envL_ok (fun p hp => by simp at hp)) mixed [1, 2, 3] Try.func95 (by kernel_rfl) (by kernel_rfl) (by kernel_rfl)
theorem slaws_toGiveFieldS : Sound Try.prog 34 Flaws_toGiveFieldS := sound_of (envL_ok (by simp only [List.forall_mem_cons, List.not_mem_nil, false_implies, implies_true, and_true]; exact slaws_toGiveField)) mixed [] Try.func34 (by kernel_rfl) (by kernel_rfl) (by kernel_rfl)
theorem simpl_isField : Sound Try.prog 98 Fimpl_isField := sound_of (envL_ok (fun p hp => by simp at hp)) mixed [8] Try.func98 (by kernel_rfl) (by kernel_rfl) (by kernel_rfl)
theorem simpl_GiveTubeOk : Sound Try.prog 35 Fimpl_GiveTubeOk := sound_of (envL_ok (by simp only [List.forall_mem_cons, List.not_mem_nil, false_implies, implies_true, and_true]; exact ⟨simpl_in, simpl_boxOk, simpl_isField⟩)) mixed [6, 7, 8] Try.func35 (by kernel_rfl) (by kernel_rfl) (by kernel_rfl)
theorem slaws_eqGiveField : Sound Try.prog 99 Flaws_eqGiveField := sound_of (envL_ok (fun p hp => by simp at hp)) mixed [2, 3] Try.func99 (by kernel_rfl) (by kernel_rfl) (by kernel_rfl)
theorem slaws_eqGiveFieldS : Sound Try.prog 36 Flaws_eqGiveFieldS := sound_of (envL_ok (by simp only [List.forall_mem_cons, List.not_mem_nil, false_implies, implies_true, and_true]; exact slaws_eqGiveField)) mixed [] Try.func36 (by kernel_rfl) (by kernel_rfl) (by kernel_rfl)
theorem slaws_FnExactGiveTubeOk : Sound Try.prog 6 Flaws_FnExactGiveTubeOk := sound_of (envL_ok (by simp only [List.forall_mem_cons, List.not_mem_nil, false_implies, implies_true, and_true]; exact ⟨slaws_szGiveBoxS, slaws_toGiveBoxS, slaws_eqGiveBoxS, slaws_szGiveFieldS, sspec_GiveTubeOk, slaws_toGiveFieldS, simpl_GiveTubeOk, slaws_eqGiveFieldS⟩)) mixed [] Try.func6 (by kernel_rfl) (by kernel_rfl) (by kernel_rfl)

end Go.Abs

/-
  The codes of the functions, for the abstract machine (printed by wip/tools/gen3.py; not typed by hand).
-/

namespace Go.Abs

/-! ### laws_szGiveCellS: function 175 -/
def claws_szGiveCellS : ACode := (.seq (.reg [] [OP 4 (.mov (KI 0))])
((.seq (.reg [] [MV 5 1,
 MV 6 0,
 LE 7 6,
 OP 8 (.bin .sub (.t 5) (.t 7)),
 MV 1 8])
((.seq ((.seq (.reg [] [MV 9 1,
 OP 10 (.bin .lss (.t 9) (KI 0))])
(.cond (.t 10) ((.seq (.reg [] [OP 4 (.mov (KI (-1)))])
(.ret))) (.skip))))
((.seq (.reg [] [MV 11 1,
 MV 4 11])
(.ret))))))))
noncomputable def elaws_szGiveCellS : Env := envL []
noncomputable def Flaws_szGiveCellS : Fun := runF elaws_szGiveCellS claws_szGiveCellS [.t 4]

/-! ### laws_szGiveWay: function 158 -/
def claws_szGiveWay : ACode := (.seq (.reg [2] [OP 2 (.boxL 1 (.t 0)),
 OP 4 (.mov (KI 0))])
((.seq (.reg [] [FA 5 0 2,
 LD 6 5,
 MV 7 1,
 OP 8 (.call 175 [.t 6, .t 7]),
 MV 1 8])
((.seq ((.seq (.reg [] [MV 9 1,
 OP 10 (.bin .lss (.t 9) (KI 0))])
(.cond (.t 10) ((.seq (.reg [] [OP 4 (.mov (KI (-1)))])
(.ret))) (.skip))))
((.seq (.reg [] [MV 11 1,
 MV 4 11])
(.ret))))))))
noncomputable def elaws_szGiveWay : Env := envL [(175, Flaws_szGiveCellS)]
noncomputable def Flaws_szGiveWay : Fun := runF elaws_szGiveWay claws_szGiveWay [.t 4]
theorem elaws_szGiveWay_laws_szGiveCellS : elaws_szGiveWay 175 = some Flaws_szGiveCellS := by simp [elaws_szGiveWay, envL_cons]

/-! ### laws_szGiveWayS: function 105 -/
def claws_szGiveWayS_L0 : ACode := (.seq ((.seq (.reg [] [MV 12 5,
 MV 13 0,
 LE 14 13,
 OP 15 (.bin .lss (.t 12) (.t 14))])
(.cond (.t 15) (.skip) (.exit 0))))
((.seq (.block 1 ((.seq (.reg [] [MV 18 0,
 MV 19 5,
 IA 20 1 18 19,
 OP 21 (.loadN 1 (.t 20)),
 MV 22 1,
 OP 23 (.call 158 [.t 21, .t 22]),
 MV 1 23])
((.seq (.reg [] [MV 24 1,
 OP 25 (.bin .lss (.t 24) (KI 0))])
(.cond (.t 25) ((.seq (.reg [] [OP 4 (.mov (KI (-1)))])
(.ret))) (.skip)))))))
(.reg [] [MV 16 5,
 OP 17 (.bin .add (.t 16) (KI 1)),
 MV 5 17]))))
def claws_szGiveWayS : ACode := (.seq (.reg [] [OP 4 (.mov (KI 0))])
((.seq (.reg [] [MV 6 1,
 MV 7 0,
 LE 8 7,
 OP 9 (.bin .sub (.t 6) (.t 8)),
 MV 1 9])
((.seq ((.seq (.reg [] [MV 10 1,
 OP 11 (.bin .lss (.t 10) (KI 0))])
(.cond (.t 11) ((.seq (.reg [] [OP 4 (.mov (KI (-1)))])
(.ret))) (.skip))))
((.seq ((.seq (.reg [] [OP 5 (.mov (KI 0))])
(.block 0 (.loop claws_szGiveWayS_L0))))
((.seq (.reg [] [MV 26 1,
 MV 4 26])
(.ret))))))))))
noncomputable def elaws_szGiveWayS : Env := envL [(158, Flaws_szGiveWay)]
noncomputable def Flaws_szGiveWayS : Fun := runF elaws_szGiveWayS claws_szGiveWayS [.t 4]
theorem elaws_szGiveWayS_laws_szGiveWay : elaws_szGiveWayS 158 = some Flaws_szGiveWay := by simp [elaws_szGiveWayS, envL_cons]

/-! ### laws_szIntS: function 106 -/
def claws_szIntS : ACode := (.seq (.reg [] [OP 4 (.mov (KI 0))])
((.seq (.reg [] [MV 5 1,
 MV 6 0,
 LE 7 6,
 OP 8 (.bin .sub (.t 5) (.t 7)),
 MV 1 8])
((.seq ((.seq (.reg [] [MV 9 1,
 OP 10 (.bin .lss (.t 9) (KI 0))])
(.cond (.t 10) ((.seq (.reg [] [OP 4 (.mov (KI (-1)))])
(.ret))) (.skip))))
((.seq (.reg [] [MV 11 1,
 MV 4 11])
(.ret))))))))
noncomputable def elaws_szIntS : Env := envL []
noncomputable def Flaws_szIntS : Fun := runF elaws_szIntS claws_szIntS [.t 4]

/-! ### laws_szGiveWish: function 40 -/
def claws_szGiveWish : ACode := (.seq (.reg [2] [OP 2 (.boxL 8 (.t 0)),
 OP 4 (.mov (KI 0))])
((.seq (.reg [] [MV 5 1,
 FA 6 0 2,
 LD 7 6,
 OP 8 (.lenS (.t 7)),
 OP 9 (.bin .sub (.t 5) (.t 8)),
 MV 1 9])
((.seq ((.seq (.reg [] [MV 10 1,
 OP 11 (.bin .lss (.t 10) (KI 0))])
(.cond (.t 11) ((.seq (.reg [] [OP 4 (.mov (KI (-1)))])
(.ret))) (.skip))))
((.seq (.reg [] [FA 12 6 2,
 LD 13 12,
 MV 14 1,
 OP 15 (.call 105 [.t 13, .t 14]),
 MV 1 15])
((.seq ((.seq (.reg [] [MV 16 1,
 OP 17 (.bin .lss (.t 16) (KI 0))])
(.cond (.t 17) ((.seq (.reg [] [OP 4 (.mov (KI (-1)))])
(.ret))) (.skip))))
((.seq (.reg [] [FA 18 7 2,
 LD 19 18,
 MV 20 1,
 OP 21 (.call 106 [.t 19, .t 20]),
 MV 1 21])
((.seq ((.seq (.reg [] [MV 22 1,
 OP 23 (.bin .lss (.t 22) (KI 0))])
(.cond (.t 23) ((.seq (.reg [] [OP 4 (.mov (KI (-1)))])
(.ret))) (.skip))))
((.seq (.reg [] [MV 24 1,
 MV 4 24])
(.ret))))))))))))))))
noncomputable def elaws_szGiveWish : Env := envL [(105, Flaws_szGiveWayS), (106, Flaws_szIntS)]
noncomputable def Flaws_szGiveWish : Fun := runF elaws_szGiveWish claws_szGiveWish [.t 4]
theorem elaws_szGiveWish_laws_szGiveWayS : elaws_szGiveWish 105 = some Flaws_szGiveWayS := by simp [elaws_szGiveWish, envL_cons]
theorem elaws_szGiveWish_laws_szIntS : elaws_szGiveWish 106 = some Flaws_szIntS := by simp [elaws_szGiveWish, envL_cons]

/-! ### spec_l4Small: function 107 -/
def cspec_l4Small : ACode := (.seq (.reg [2] [OP 2 (.boxL 8 (.t 0)),
 MF 4])
((.seq (.reg [] [FA 5 1 2,
 LD 6 5,
 OP 7 (.call 91 [.t 6, KI 1, KI 50]),
 MV 8 7,
 OT 9 8 (.faddr 2 (.t 2)),
 OT 10 8 (.load1 (.t 9)),
 OT 11 8 (.call 91 [.t 10, KI 1, KI 50]),
 OP 12 (.pick (.t 8) (.t 11) KF),
 MV 13 12,
 OT 14 13 (.faddr 3 (.t 2)),
 OT 15 13 (.load1 (.t 14)),
 OT 16 13 (.call 91 [.t 15, KI 0, KI 10000]),
 OP 17 (.pick (.t 13) (.t 16) KF),
 MV 18 17,
 OT 19 18 (.faddr 4 (.t 2)),
 OT 20 18 (.load1 (.t 19)),
 OT 21 18 (.call 91 [.t 20, KI 0, KI 10000]),
 OP 22 (.pick (.t 18) (.t 21) KF),
 MV 23 22,
 OT 24 23 (.mov (.t 1)),
 OT 25 23 (.call 91 [.t 24, KI 0, KI 300]),
 OP 26 (.pick (.t 23) (.t 25) KF),
 MV 4 26])
(.ret))))
noncomputable def espec_l4Small : Env := envL [(91, Fspec_l1In)]
noncomputable def Fspec_l4Small : Fun := runF espec_l4Small cspec_l4Small [.t 4]
theorem espec_l4Small_spec_l1In : espec_l4Small 91 = some Fspec_l1In := by simp [espec_l4Small, envL_cons]

/-! ### spec_l4Min: function 109 -/
def cspec_l4Min : ACode := (.seq (.reg [] [OP 4 (.mov (KI 0))])
((.seq ((.seq (.reg [] [MV 5 0,
 MV 6 1,
 OP 7 (.bin .lss (.t 5) (.t 6))])
(.cond (.t 7) ((.seq (.reg [] [MV 8 0,
 MV 4 8])
(.ret))) (.skip))))
((.seq (.reg [] [MV 9 1,
 MV 4 9])
(.ret))))))
noncomputable def espec_l4Min : Env := envL []
noncomputable def Fspec_l4Min : Fun := runF espec_l4Min cspec_l4Min [.t 4]

/-! ### spec_l4Level: function 108 -/
def cspec_l4Level : ACode := (.seq (.reg [] [OP 6 (.mov (KI 0))])
((.seq (.reg [] [MV 7 2,
 MV 8 0,
 MV 9 1,
 OP 10 (.bin .sub (.t 9) (KI 1)),
 MV 11 0,
 OP 12 (.bin .sub (.t 10) (.t 11)),
 OP 13 (.call 109 [.t 8, .t 12]),
 OP 14 (.call 109 [.t 7, .t 13]),
 MV 6 14])
(.ret))))
noncomputable def espec_l4Level : Env := envL [(109, Fspec_l4Min)]
noncomputable def Fspec_l4Level : Fun := runF espec_l4Level cspec_l4Level [.t 6]
theorem espec_l4Level_spec_l4Min : espec_l4Level 109 = some Fspec_l4Min := by simp [espec_l4Level, envL_cons]

/-! ### spec_l4Max: function 110 -/
def cspec_l4Max : ACode := (.seq (.reg [] [OP 4 (.mov (KI 0))])
((.seq ((.seq (.reg [] [MV 5 0,
 MV 6 1,
 OP 7 (.bin .gtr (.t 5) (.t 6))])
(.cond (.t 7) ((.seq (.reg [] [MV 8 0,
 MV 4 8])
(.ret))) (.skip))))
((.seq (.reg [] [MV 9 1,
 MV 4 9])
(.ret))))))
noncomputable def espec_l4Max : Env := envL []
noncomputable def Fspec_l4Max : Fun := runF espec_l4Max cspec_l4Max [.t 4]

/-! ### spec_GiveTubeOf: function 41 -/
def cspec_GiveTubeOf_L0 : ACode := (.seq ((.seq (.reg [] [MV 47 12,
 MV 48 11,
 OP 49 (.bin .lss (.t 47) (.t 48)),
 MV 50 49,
 OT 51 50 (.mov (.t 12)),
 OT 52 50 (.bin .lss (.t 51) (KI 40)),
 OP 53 (.pick (.t 50) (.t 52) KF)])
(.cond (.t 53) (.skip) (.exit 0))))
((.seq (.block 1 ((.seq (.reg [] [MV 56 12,
 MV 57 11,
 FA 58 7 4,
 LD 59 58,
 MV 60 2,
 IA 61 1 59 60,
 LD 62 61,
 OP 63 (.call 108 [.t 56, .t 57, .t 62]),
 MV 13 63])
((.seq (.reg [] [MV 64 13,
 MV 14 64])
((.seq ((.seq (.reg [] [MV 65 12,
 OP 66 (.bin .gtr (.t 65) (KI 0))])
(.cond (.t 66) (.reg [] [MV 67 12,
 OP 68 (.bin .sub (.t 67) (KI 1)),
 MV 69 11,
 FA 70 7 4,
 LD 71 70,
 MV 72 2,
 IA 73 1 71 72,
 LD 74 73,
 OP 75 (.call 108 [.t 68, .t 69, .t 74]),
 MV 14 75]) (.skip))))
(.regD [114] [MV 76 9,
 MV 77 10,
 MV 78 12,
 IA 79 2 77 78,
 FA 80 0 79,
 LD 81 80,
 MV 82 10,
 MV 83 12,
 IA 84 2 82 83,
 FA 85 1 84,
 LD 86 85,
 MV 87 14,
 MV 88 13,
 OP 89 (.call 109 [.t 87, .t 88]),
 MV 90 14,
 MV 91 13,
 OP 92 (.call 110 [.t 90, .t 91]),
 FA 93 3 4,
 LD 94 93,
 MV 95 3,
 OP 96 (.bin .add (.t 94) (.t 95)),
 MV 97 12,
 FA 98 1 4,
 LD 99 98,
 OP 100 (.bin .mul (.t 97) (.t 99)),
 OP 101 (.bin .add (.t 96) (.t 100)),
 FA 102 4 4,
 LD 103 102,
 MV 104 3,
 OP 105 (.bin .add (.t 103) (.t 104)),
 MV 106 12,
 OP 107 (.bin .add (.t 106) (KI 1)),
 FA 108 2 4,
 LD 109 108,
 OP 110 (.bin .mul (.t 107) (.t 109)),
 OP 111 (.bin .add (.t 105) (.t 110)),
 OP 112 (.bin .sub (.t 111) (KI 1)),
 OP 113 (.build Z6 [(0, 1, .t 81), (1, 1, .t 86), (2, 1, .t 89), (3, 1, .t 92), (4, 1, .t 101), (5, 1, .t 112)]),
 OP 114 (.mkSlL 6 1 Z6 [(0, 6, .t 113)]),
 OP 115 (.append 6 (.t 76) (.t 114)),
 MV 9 115] [(13, 5), (13, 10), (13, 18), (13, 23), (13, 27), (13, 33), (16, 5), (16, 10), (16, 18), (16, 23), (16, 27), (16, 33)]))))))))
(.reg [] [MV 54 12,
 OP 55 (.bin .add (.t 54) (KI 1)),
 MV 12 55]))))
def cspec_GiveTubeOf : ACode := (.seq (.reg [4] [OP 4 (.boxL 8 (.t 0)),
 OP 8 (.mov KN)])
((.seq (.reg [] [OP 15 (.mkSlH 6 0 Z6 []),
 MV 9 15])
((.seq ((.seq (.reg [] [MV 16 1,
 FA 17 6 4,
 LD 18 17,
 LE 19 18,
 OP 20 (.bin .sub (.t 19) (KI 1)),
 OP 21 (.call 91 [.t 16, KI 0, .t 20]),
 OP 22 (.un .not (.t 21)),
 MV 23 22,
 OF 24 23 (.mov (.t 2)),
 OF 25 23 (.faddr 7 (.t 4)),
 OF 26 23 (.load1 (.t 25)),
 OF 27 23 (.len (.t 26)),
 OF 28 23 (.bin .sub (.t 27) (KI 1)),
 OF 29 23 (.call 91 [.t 24, KI 0, .t 28]),
 OF 30 23 (.un .not (.t 29)),
 OP 31 (.pick (.t 23) KT (.t 30)),
 MV 32 31,
 OF 33 32 (.loadN 8 (.t 4)),
 OF 34 32 (.mov (.t 3)),
 OF 35 32 (.call 107 [.t 33, .t 34]),
 OF 36 32 (.un .not (.t 35)),
 OP 37 (.pick (.t 32) KT (.t 36))])
(.cond (.t 37) ((.seq (.reg [] [MV 38 9,
 MV 8 38])
(.ret))) (.skip))))
((.seq (.reg [] [FA 39 6 4,
 LD 40 39,
 MV 41 1,
 IA 42 1 40 41,
 FA 43 0 42,
 LD 44 43,
 MV 10 44])
((.seq (.reg [] [MV 45 10,
 LE 46 45,
 MV 11 46])
((.seq ((.seq (.reg [] [OP 12 (.mov (KI 0))])
(.block 0 (.loop cspec_GiveTubeOf_L0))))
((.seq (.reg [] [MV 116 9,
 MV 8 116])
(.ret))))))))))))))
noncomputable def espec_GiveTubeOf : Env := envL [(91, Fspec_l1In), (107, Fspec_l4Small), (108, Fspec_l4Level), (109, Fspec_l4Min), (110, Fspec_l4Max)]
noncomputable def Fspec_GiveTubeOf : Fun := runF espec_GiveTubeOf cspec_GiveTubeOf [.t 8]
theorem espec_GiveTubeOf_spec_l1In : espec_GiveTubeOf 91 = some Fspec_l1In := by simp [espec_GiveTubeOf, envL_cons]
theorem espec_GiveTubeOf_spec_l4Small : espec_GiveTubeOf 107 = some Fspec_l4Small := by simp [espec_GiveTubeOf, envL_cons]
theorem espec_GiveTubeOf_spec_l4Level : espec_GiveTubeOf 108 = some Fspec_l4Level := by simp [espec_GiveTubeOf, envL_cons]
theorem espec_GiveTubeOf_spec_l4Min : espec_GiveTubeOf 109 = some Fspec_l4Min := by simp [espec_GiveTubeOf, envL_cons]
theorem espec_GiveTubeOf_spec_l4Max : espec_GiveTubeOf 110 = some Fspec_l4Max := by simp [espec_GiveTubeOf, envL_cons]

/-! ### laws_toGiveCell: function 182 -/
def claws_toGiveCell : ACode := (.seq (.reg [1, 2] [OP 1 (.boxL 2 (.t 0)),
 OP 2 (.allocL 2 [.int .i64 0, .int .i64 0])])
((.seq (.reg [3] [OP 3 (.allocL 2 [.int .i64 0, .int .i64 0])])
((.seq (.reg [] [FA 4 0 1,
 LD 5 4,
 FA 6 0 3,
 OX (.store 1 (.t 6) (.t 5))])
((.seq (.reg [] [FA 7 1 1,
 LD 8 7,
 FA 9 1 3,
 OX (.store 1 (.t 9) (.t 8))])
((.seq (.reg [] [OP 10 (.loadN 2 (.t 3)),
 OX (.store 2 (.t 2) (.t 10))])
(.ret))))))))))
noncomputable def elaws_toGiveCell : Env := envL []
noncomputable def Flaws_toGiveCell : Fun := runF elaws_toGiveCell claws_toGiveCell [.cellN 2 2]

/-! ### laws_toGiveCellS: function 176 -/
def claws_toGiveCellS_L0 : ACode := (.seq ((.seq (.reg [] [MV 8 4,
 MV 9 0,
 LE 10 9,
 OP 11 (.bin .lss (.t 8) (.t 10))])
(.cond (.t 11) (.skip) (.exit 0))))
((.seq (.block 1 (.reg [] [MV 14 3,
 MV 15 4,
 MV 16 0,
 MV 17 4,
 IA 18 2 16 17,
 OP 19 (.loadN 2 (.t 18)),
 OP 20 (.call 182 [.t 19]),
 IA 21 2 14 15,
 OX (.store 2 (.t 21) (.t 20))]))
(.reg [] [MV 12 4,
 OP 13 (.bin .add (.t 12) (KI 1)),
 MV 4 13]))))
def claws_toGiveCellS : ACode := (.seq (.reg [] [OP 2 (.mov KN)])
((.seq (.reg [] [MV 5 0,
 LE 6 5,
 OP 7 (.make 2 [.int .i64 0, .int .i64 0] (.t 6) (.t 6)),
 MV 3 7])
((.seq ((.seq (.reg [] [OP 4 (.mov (KI 0))])
(.block 0 (.loop claws_toGiveCellS_L0))))
((.seq (.reg [] [MV 22 3,
 MV 2 22])
(.ret))))))))
noncomputable def elaws_toGiveCellS : Env := envL [(182, Flaws_toGiveCell)]
noncomputable def Flaws_toGiveCellS : Fun := runF elaws_toGiveCellS claws_toGiveCellS [.t 2]
theorem elaws_toGiveCellS_laws_toGiveCell : elaws_toGiveCellS 182 = some Flaws_toGiveCell := by simp [elaws_toGiveCellS, envL_cons]

/-! ### laws_toGiveWay: function 159 -/
def claws_toGiveWay : ACode := (.seq (.reg [1, 2] [OP 1 (.boxL 1 (.t 0)),
 OP 2 (.allocL 1 [.nils])])
((.seq (.reg [3] [OP 3 (.allocL 1 [.nils])])
((.seq (.reg [] [FA 4 0 1,
 LD 5 4,
 OP 6 (.call 176 [.t 5]),
 FA 7 0 3,
 OX (.store 1 (.t 7) (.t 6))])
((.seq (.reg [] [OP 8 (.loadN 1 (.t 3)),
 OX (.store 1 (.t 2) (.t 8))])
(.ret))))))))
noncomputable def elaws_toGiveWay : Env := envL [(176, Flaws_toGiveCellS)]
noncomputable def Flaws_toGiveWay : Fun := runF elaws_toGiveWay claws_toGiveWay [.cellN 2 1]
theorem elaws_toGiveWay_laws_toGiveCellS : elaws_toGiveWay 176 = some Flaws_toGiveCellS := by simp [elaws_toGiveWay, envL_cons]

/-! ### laws_toGiveWayS: function 111 -/
def claws_toGiveWayS_L0 : ACode := (.seq ((.seq (.reg [] [MV 8 4,
 MV 9 0,
 LE 10 9,
 OP 11 (.bin .lss (.t 8) (.t 10))])
(.cond (.t 11) (.skip) (.exit 0))))
((.seq (.block 1 (.reg [] [MV 14 3,
 MV 15 4,
 MV 16 0,
 MV 17 4,
 IA 18 1 16 17,
 OP 19 (.loadN 1 (.t 18)),
 OP 20 (.call 159 [.t 19]),
 IA 21 1 14 15,
 OX (.store 1 (.t 21) (.t 20))]))
(.reg [] [MV 12 4,
 OP 13 (.bin .add (.t 12) (KI 1)),
 MV 4 13]))))
def claws_toGiveWayS : ACode := (.seq (.reg [] [OP 2 (.mov KN)])
((.seq (.reg [] [MV 5 0,
 LE 6 5,
 OP 7 (.make 1 [.nils] (.t 6) (.t 6)),
 MV 3 7])
((.seq ((.seq (.reg [] [OP 4 (.mov (KI 0))])
(.block 0 (.loop claws_toGiveWayS_L0))))
((.seq (.reg [] [MV 22 3,
 MV 2 22])
(.ret))))))))
noncomputable def elaws_toGiveWayS : Env := envL [(159, Flaws_toGiveWay)]
noncomputable def Flaws_toGiveWayS : Fun := runF elaws_toGiveWayS claws_toGiveWayS [.t 2]
theorem elaws_toGiveWayS_laws_toGiveWay : elaws_toGiveWayS 159 = some Flaws_toGiveWay := by simp [elaws_toGiveWayS, envL_cons]

/-! ### laws_toIntS: function 112 -/
def claws_toIntS_L0 : ACode := (.seq ((.seq (.reg [] [MV 8 4,
 MV 9 0,
 LE 10 9,
 OP 11 (.bin .lss (.t 8) (.t 10))])
(.cond (.t 11) (.skip) (.exit 0))))
((.seq (.block 1 (.reg [] [MV 14 3,
 MV 15 4,
 MV 16 0,
 MV 17 4,
 IA 18 1 16 17,
 LD 19 18,
 IA 20 1 14 15,
 OX (.store 1 (.t 20) (.t 19))]))
(.reg [] [MV 12 4,
 OP 13 (.bin .add (.t 12) (KI 1)),
 MV 4 13]))))
def claws_toIntS : ACode := (.seq (.reg [] [OP 2 (.mov KN)])
((.seq (.reg [] [MV 5 0,
 LE 6 5,
 OP 7 (.make 1 [.int .i64 0] (.t 6) (.t 6)),
 MV 3 7])
((.seq ((.seq (.reg [] [OP 4 (.mov (KI 0))])
(.block 0 (.loop claws_toIntS_L0))))
((.seq (.reg [] [MV 21 3,
 MV 2 21])
(.ret))))))))
noncomputable def elaws_toIntS : Env := envL []
noncomputable def Flaws_toIntS : Fun := runF elaws_toIntS claws_toIntS [.t 2]

/-! ### laws_toGiveWish: function 42 -/
def claws_toGiveWish : ACode := (.seq (.reg [1, 2] [OP 1 (.boxL 8 (.t 0)),
 ⟨some 2, .allocL 8 [.str ⟨#[]⟩, .int .i64 0, .int .i64 0, .int .i64 0, .int .i64 0, .int .i64 0, .nils, .nils], none⟩])
((.seq (.reg [3] [⟨some 3, .allocL 8 [.str ⟨#[]⟩, .int .i64 0, .int .i64 0, .int .i64 0, .int .i64 0, .int .i64 0, .nils, .nils], none⟩])
((.seq (.reg [] [FA 4 0 1,
 LD 5 4,
 FA 6 0 3,
 OX (.store 1 (.t 6) (.t 5))])
((.seq (.reg [] [FA 7 1 1,
 LD 8 7,
 FA 9 1 3,
 OX (.store 1 (.t 9) (.t 8))])
((.seq (.reg [] [FA 10 2 1,
 LD 11 10,
 FA 12 2 3,
 OX (.store 1 (.t 12) (.t 11))])
((.seq (.reg [] [FA 13 3 1,
 LD 14 13,
 FA 15 3 3,
 OX (.store 1 (.t 15) (.t 14))])
((.seq (.reg [] [FA 16 4 1,
 LD 17 16,
 FA 18 4 3,
 OX (.store 1 (.t 18) (.t 17))])
((.seq (.reg [] [FA 19 5 1,
 LD 20 19,
 FA 21 5 3,
 OX (.store 1 (.t 21) (.t 20))])
((.seq (.reg [] [FA 22 6 1,
 LD 23 22,
 OP 24 (.call 111 [.t 23]),
 FA 25 6 3,
 OX (.store 1 (.t 25) (.t 24))])
((.seq (.reg [] [FA 26 7 1,
 LD 27 26,
 OP 28 (.call 112 [.t 27]),
 FA 29 7 3,
 OX (.store 1 (.t 29) (.t 28))])
((.seq (.reg [] [OP 30 (.loadN 8 (.t 3)),
 OX (.store 8 (.t 2) (.t 30))])
(.ret))))))))))))))))))))))
noncomputable def elaws_toGiveWish : Env := envL [(111, Flaws_toGiveWayS), (112, Flaws_toIntS)]
noncomputable def Flaws_toGiveWish : Fun := runF elaws_toGiveWish claws_toGiveWish [.cellN 2 8]
theorem elaws_toGiveWish_laws_toGiveWayS : elaws_toGiveWish 111 = some Flaws_toGiveWayS := by simp [elaws_toGiveWish, envL_cons]
theorem elaws_toGiveWish_laws_toIntS : elaws_toGiveWish 112 = some Flaws_toIntS := by simp [elaws_toGiveWish, envL_cons]

/-! ### impl_GiveTubeOf_1: function 113 -/
def cimpl_GiveTubeOf_1 : ACode := (.seq (.reg [] [OP 5 (.mov (KI 0))])
((.seq (.regD [] [FA 6 7 1,
 LD 7 6,
 LD 8 2,
 IA 9 1 7 8,
 LD 10 9,
 MV 11 0,
 LD 12 3,
 LE 13 12,
 OP 14 (.bin .sub (.t 13) (KI 1)),
 MV 15 0,
 OP 16 (.bin .sub (.t 14) (.t 15)),
 OP 17 (.mins [.t 10, .t 11, .t 16]),
 MV 5 17] [])
(.ret))))
noncomputable def eimpl_GiveTubeOf_1 : Env := envL []
noncomputable def Fimpl_GiveTubeOf_1 : Fun := runF eimpl_GiveTubeOf_1 cimpl_GiveTubeOf_1 [.t 5]

/-! ### impl_GiveTubeOf: function 43 -/
def cimpl_GiveTubeOf_L0 : ACode := (.seq (.reg [] [OP 72 (.bin .lss (.t 71) (.t 70))])
((.seq (.cond (.t 72) (.skip) (.exit 0))
((.seq (.block 1 ((.seq (.reg [13] [MV 73 71,
 IA 74 2 69 71,
 OP 75 (.loadN 2 (.t 74)),
 OP 13 (.allocL 2 [.int .i64 0, .int .i64 0]),
 MV 12 73,
 OX (.store 2 (.t 13) (.t 75))])
((.seq ((.seq (.reg [] [MV 76 12,
 OP 77 (.bin .eql (.t 76) (KI 40))])
(.cond (.t 77) (.exit 0) (.skip))))
((.seq (.reg [] [MV 78 11,
 MV 79 12,
 OP 80 (.bin .sub (.t 79) (KI 1)),
 OP 81 (.maxs [.t 80, KI 0]),
 OP 82 (.callV (.t 78) [.t 81]),
 MV 83 11,
 MV 84 12,
 OP 85 (.callV (.t 83) [.t 84]),
 MV 14 82,
 MV 15 85])
(.reg [118] [MV 86 9,
 FA 87 0 13,
 LD 88 87,
 FA 89 1 13,
 LD 90 89,
 MV 91 14,
 MV 92 15,
 OP 93 (.mins [.t 91, .t 92]),
 MV 94 14,
 MV 95 15,
 OP 96 (.maxs [.t 94, .t 95]),
 FA 97 3 4,
 LD 98 97,
 MV 99 3,
 OP 100 (.bin .add (.t 98) (.t 99)),
 MV 101 12,
 FA 102 1 4,
 LD 103 102,
 OP 104 (.bin .mul (.t 101) (.t 103)),
 OP 105 (.bin .add (.t 100) (.t 104)),
 FA 106 4 4,
 LD 107 106,
 MV 108 3,
 OP 109 (.bin .add (.t 107) (.t 108)),
 MV 110 12,
 OP 111 (.bin .add (.t 110) (KI 1)),
 FA 112 2 4,
 LD 113 112,
 OP 114 (.bin .mul (.t 111) (.t 113)),
 OP 115 (.bin .add (.t 109) (.t 114)),
 OP 116 (.bin .sub (.t 115) (KI 1)),
 OP 117 (.build Z6 [(0, 1, .t 88), (1, 1, .t 90), (2, 1, .t 93), (3, 1, .t 96), (4, 1, .t 105), (5, 1, .t 116)]),
 OP 118 (.mkSlL 6 1 Z6 [(0, 6, .t 117)]),
 OP 119 (.append 6 (.t 86) (.t 118)),
 MV 9 119]))))))))
(.reg [] [OP 120 (.bin .add (.t 71) (KI 1)),
 MV 71 120]))))))
def cimpl_GiveTubeOf : ACode := (.seq (.reg [] [OP 4 (.boxH 8 (.t 0)),
 OP 6 (.boxH 1 (.t 2)),
 OP 8 (.mov KN)])
((.seq ((.seq (.reg [] [MV 16 1,
 FA 17 6 4,
 LD 18 17,
 LE 19 18,
 OP 20 (.bin .sub (.t 19) (KI 1)),
 OP 21 (.call 96 [.t 16, KI 0, .t 20]),
 OP 22 (.un .not (.t 21)),
 MV 23 22,
 OF 24 23 (.load1 (.t 6)),
 OF 25 23 (.faddr 7 (.t 4)),
 OF 26 23 (.load1 (.t 25)),
 OF 27 23 (.len (.t 26)),
 OF 28 23 (.bin .sub (.t 27) (KI 1)),
 OF 29 23 (.call 96 [.t 24, KI 0, .t 28]),
 OF 30 23 (.un .not (.t 29)),
 OP 31 (.pick (.t 23) KT (.t 30)),
 MV 32 31,
 OF 33 32 (.mov (.t 3)),
 OF 34 32 (.call 96 [.t 33, KI 0, KI 300]),
 OF 35 32 (.un .not (.t 34)),
 OP 36 (.pick (.t 32) KT (.t 35)),
 MV 37 36,
 OF 38 37 (.faddr 1 (.t 4)),
 OF 39 37 (.load1 (.t 38)),
 OF 40 37 (.call 96 [.t 39, KI 1, KI 50]),
 OF 41 37 (.un .not (.t 40)),
 OP 42 (.pick (.t 37) KT (.t 41)),
 MV 43 42,
 OF 44 43 (.faddr 2 (.t 4)),
 OF 45 43 (.load1 (.t 44)),
 OF 46 43 (.call 96 [.t 45, KI 1, KI 50]),
 OF 47 43 (.un .not (.t 46)),
 OP 48 (.pick (.t 43) KT (.t 47)),
 MV 49 48,
 OF 50 49 (.faddr 3 (.t 4)),
 OF 51 49 (.load1 (.t 50)),
 OF 52 49 (.call 96 [.t 51, KI 0, KI 10000]),
 OF 53 49 (.un .not (.t 52)),
 OP 54 (.pick (.t 49) KT (.t 53)),
 MV 55 54,
 OF 56 55 (.faddr 4 (.t 4)),
 OF 57 55 (.load1 (.t 56)),
 OF 58 55 (.call 96 [.t 57, KI 0, KI 10000]),
 OF 59 55 (.un .not (.t 58)),
 OP 60 (.pick (.t 55) KT (.t 59))])
(.cond (.t 60) ((.seq (.reg [] [OP 8 (.mov KN)])
(.ret))) (.skip))))
((.seq (.reg [] [OP 61 (.mkSlH 6 0 Z6 []),
 MV 9 61])
((.seq (.reg [] [FA 62 6 4,
 LD 63 62,
 MV 64 1,
 IA 65 1 63 64,
 FA 66 0 65,
 LD 67 66,
 OP 10 (.allocH 1 [.nils]),
 OX (.store 1 (.t 10) (.t 67))])
((.seq (.reg [] [OP 68 (.mkfn 113 [.t 4, .t 6, .t 10]),
 MV 11 68])
((.seq ((.seq (.reg [] [LD 69 10,
 LE 70 69,
 OP 71 (.mov (KI 0))])
(.block 0 (.loop cimpl_GiveTubeOf_L0))))
((.seq (.reg [] [MV 121 9,
 MV 8 121])
(.ret))))))))))))))
noncomputable def eimpl_GiveTubeOf : Env := envL [(96, Fimpl_in), (113, Fimpl_GiveTubeOf_1)]
noncomputable def Fimpl_GiveTubeOf : Fun := runF eimpl_GiveTubeOf cimpl_GiveTubeOf [.t 8]
theorem eimpl_GiveTubeOf_impl_in : eimpl_GiveTubeOf 96 = some Fimpl_in := by simp [eimpl_GiveTubeOf, envL_cons]
theorem eimpl_GiveTubeOf_impl_GiveTubeOf_1 : eimpl_GiveTubeOf 113 = some Fimpl_GiveTubeOf_1 := by simp [eimpl_GiveTubeOf, envL_cons]

/-! ### laws_eqGiveCell: function 183 -/
def claws_eqGiveCell : ACode := (.seq (.reg [2, 3] [OP 2 (.boxL 2 (.t 0)),
 OP 3 (.boxL 2 (.t 1)),
 MF 4])
((.seq ((.seq (.reg [] [FA 5 0 2,
 LD 6 5,
 FA 7 0 3,
 LD 8 7,
 OP 9 (.bin .neq (.t 6) (.t 8))])
(.cond (.t 9) ((.seq (.reg [] [MF 4])
(.ret))) (.skip))))
((.seq ((.seq (.reg [] [FA 10 1 2,
 LD 11 10,
 FA 12 1 3,
 LD 13 12,
 OP 14 (.bin .neq (.t 11) (.t 13))])
(.cond (.t 14) ((.seq (.reg [] [MF 4])
(.ret))) (.skip))))
((.seq (.reg [] [OP 4 (.mov KT)])
(.ret))))))))
noncomputable def elaws_eqGiveCell : Env := envL []
noncomputable def Flaws_eqGiveCell : Fun := runF elaws_eqGiveCell claws_eqGiveCell [.t 4]

/-! ### laws_eqGiveCellS: function 177 -/
def claws_eqGiveCellS_L0 : ACode := (.seq ((.seq (.reg [] [MV 11 5,
 MV 12 0,
 LE 13 12,
 OP 14 (.bin .lss (.t 11) (.t 13))])
(.cond (.t 14) (.skip) (.exit 0))))
((.seq (.block 1 ((.seq (.regD [] [MV 17 0,
 MV 18 5,
 IA 19 2 17 18,
 OP 20 (.loadN 2 (.t 19)),
 MV 21 1,
 MV 22 5,
 IA 23 2 21 22,
 OP 24 (.loadN 2 (.t 23)),
 OP 25 (.call 183 [.t 20, .t 24]),
 OP 26 (.un .not (.t 25))] [])
(.cond (.t 26) ((.seq (.reg [] [MF 4])
(.ret))) (.skip)))))
(.reg [] [MV 15 5,
 OP 16 (.bin .add (.t 15) (KI 1)),
 MV 5 16]))))
def claws_eqGiveCellS : ACode := (.seq (.reg [] [MF 4])
((.seq ((.seq (.reg [] [MV 6 0,
 LE 7 6,
 MV 8 1,
 LE 9 8,
 OP 10 (.bin .neq (.t 7) (.t 9))])
(.cond (.t 10) ((.seq (.reg [] [MF 4])
(.ret))) (.skip))))
((.seq ((.seq (.reg [] [OP 5 (.mov (KI 0))])
(.block 0 (.loop claws_eqGiveCellS_L0))))
((.seq (.reg [] [OP 4 (.mov KT)])
(.ret))))))))
noncomputable def elaws_eqGiveCellS : Env := envL [(183, Flaws_eqGiveCell)]
noncomputable def Flaws_eqGiveCellS : Fun := runF elaws_eqGiveCellS claws_eqGiveCellS [.t 4]
theorem elaws_eqGiveCellS_laws_eqGiveCell : elaws_eqGiveCellS 183 = some Flaws_eqGiveCell := by simp [elaws_eqGiveCellS, envL_cons]

/-! ### laws_eqGiveWay: function 160 -/
def claws_eqGiveWay : ACode := (.seq (.reg [2, 3] [OP 2 (.boxL 1 (.t 0)),
 OP 3 (.boxL 1 (.t 1)),
 MF 4])
((.seq ((.seq (.reg [] [FA 5 0 2,
 LD 6 5,
 FA 7 0 3,
 LD 8 7,
 OP 9 (.call 177 [.t 6, .t 8]),
 OP 10 (.un .not (.t 9))])
(.cond (.t 10) ((.seq (.reg [] [MF 4])
(.ret))) (.skip))))
((.seq (.reg [] [OP 4 (.mov KT)])
(.ret))))))
noncomputable def elaws_eqGiveWay : Env := envL [(177, Flaws_eqGiveCellS)]
noncomputable def Flaws_eqGiveWay : Fun := runF elaws_eqGiveWay claws_eqGiveWay [.t 4]
theorem elaws_eqGiveWay_laws_eqGiveCellS : elaws_eqGiveWay 177 = some Flaws_eqGiveCellS := by simp [elaws_eqGiveWay, envL_cons]

/-! ### laws_eqGiveWayS: function 114 -/
def claws_eqGiveWayS_L0 : ACode := (.seq ((.seq (.reg [] [MV 11 5,
 MV 12 0,
 LE 13 12,
 OP 14 (.bin .lss (.t 11) (.t 13))])
(.cond (.t 14) (.skip) (.exit 0))))
((.seq (.block 1 ((.seq (.regD [] [MV 17 0,
 MV 18 5,
 IA 19 1 17 18,
 OP 20 (.loadN 1 (.t 19)),
 MV 21 1,
 MV 22 5,
 IA 23 1 21 22,
 OP 24 (.loadN 1 (.t 23)),
 OP 25 (.call 160 [.t 20, .t 24]),
 OP 26 (.un .not (.t 25))] [])
(.cond (.t 26) ((.seq (.reg [] [MF 4])
(.ret))) (.skip)))))
(.reg [] [MV 15 5,
 OP 16 (.bin .add (.t 15) (KI 1)),
 MV 5 16]))))
def claws_eqGiveWayS : ACode := (.seq (.reg [] [MF 4])
((.seq ((.seq (.reg [] [MV 6 0,
 LE 7 6,
 MV 8 1,
 LE 9 8,
 OP 10 (.bin .neq (.t 7) (.t 9))])
(.cond (.t 10) ((.seq (.reg [] [MF 4])
(.ret))) (.skip))))
((.seq ((.seq (.reg [] [OP 5 (.mov (KI 0))])
(.block 0 (.loop claws_eqGiveWayS_L0))))
((.seq (.reg [] [OP 4 (.mov KT)])
(.ret))))))))
noncomputable def elaws_eqGiveWayS : Env := envL [(160, Flaws_eqGiveWay)]
noncomputable def Flaws_eqGiveWayS : Fun := runF elaws_eqGiveWayS claws_eqGiveWayS [.t 4]
theorem elaws_eqGiveWayS_laws_eqGiveWay : elaws_eqGiveWayS 160 = some Flaws_eqGiveWay := by simp [elaws_eqGiveWayS, envL_cons]

/-! ### laws_eqIntS: function 115 -/
def claws_eqIntS_L0 : ACode := (.seq ((.seq (.reg [] [MV 11 5,
 MV 12 0,
 LE 13 12,
 OP 14 (.bin .lss (.t 11) (.t 13))])
(.cond (.t 14) (.skip) (.exit 0))))
((.seq (.block 1 ((.seq (.regD [] [MV 17 0,
 MV 18 5,
 IA 19 1 17 18,
 LD 20 19,
 MV 21 1,
 MV 22 5,
 IA 23 1 21 22,
 LD 24 23,
 OP 25 (.bin .neq (.t 20) (.t 24))] [])
(.cond (.t 25) ((.seq (.reg [] [MF 4])
(.ret))) (.skip)))))
(.reg [] [MV 15 5,
 OP 16 (.bin .add (.t 15) (KI 1)),
 MV 5 16]))))
def claws_eqIntS : ACode := (.seq (.reg [] [MF 4])
((.seq ((.seq (.reg [] [MV 6 0,
 LE 7 6,
 MV 8 1,
 LE 9 8,
 OP 10 (.bin .neq (.t 7) (.t 9))])
(.cond (.t 10) ((.seq (.reg [] [MF 4])
(.ret))) (.skip))))
((.seq ((.seq (.reg [] [OP 5 (.mov (KI 0))])
(.block 0 (.loop claws_eqIntS_L0))))
((.seq (.reg [] [OP 4 (.mov KT)])
(.ret))))))))
noncomputable def elaws_eqIntS : Env := envL []
noncomputable def Flaws_eqIntS : Fun := runF elaws_eqIntS claws_eqIntS [.t 4]

/-! ### laws_eqGiveWish: function 44 -/
def claws_eqGiveWish : ACode := (.seq (.reg [2, 3] [OP 2 (.boxL 8 (.t 0)),
 OP 3 (.boxL 8 (.t 1)),
 MF 4])
((.seq ((.seq (.reg [] [FA 5 0 2,
 LD 6 5,
 FA 7 0 3,
 LD 8 7,
 OP 9 (.bin .neq (.t 6) (.t 8))])
(.cond (.t 9) ((.seq (.reg [] [MF 4])
(.ret))) (.skip))))
((.seq ((.seq (.reg [] [FA 10 1 2,
 LD 11 10,
 FA 12 1 3,
 LD 13 12,
 OP 14 (.bin .neq (.t 11) (.t 13))])
(.cond (.t 14) ((.seq (.reg [] [MF 4])
(.ret))) (.skip))))
((.seq ((.seq (.reg [] [FA 15 2 2,
 LD 16 15,
 FA 17 2 3,
 LD 18 17,
 OP 19 (.bin .neq (.t 16) (.t 18))])
(.cond (.t 19) ((.seq (.reg [] [MF 4])
(.ret))) (.skip))))
((.seq ((.seq (.reg [] [FA 20 3 2,
 LD 21 20,
 FA 22 3 3,
 LD 23 22,
 OP 24 (.bin .neq (.t 21) (.t 23))])
(.cond (.t 24) ((.seq (.reg [] [MF 4])
(.ret))) (.skip))))
((.seq ((.seq (.reg [] [FA 25 4 2,
 LD 26 25,
 FA 27 4 3,
 LD 28 27,
 OP 29 (.bin .neq (.t 26) (.t 28))])
(.cond (.t 29) ((.seq (.reg [] [MF 4])
(.ret))) (.skip))))
((.seq ((.seq (.reg [] [FA 30 5 2,
 LD 31 30,
 FA 32 5 3,
 LD 33 32,
 OP 34 (.bin .neq (.t 31) (.t 33))])
(.cond (.t 34) ((.seq (.reg [] [MF 4])
(.ret))) (.skip))))
((.seq ((.seq (.reg [] [FA 35 6 2,
 LD 36 35,
 FA 37 6 3,
 LD 38 37,
 OP 39 (.call 114 [.t 36, .t 38]),
 OP 40 (.un .not (.t 39))])
(.cond (.t 40) ((.seq (.reg [] [MF 4])
(.ret))) (.skip))))
((.seq ((.seq (.reg [] [FA 41 7 2,
 LD 42 41,
 FA 43 7 3,
 LD 44 43,
 OP 45 (.call 115 [.t 42, .t 44]),
 OP 46 (.un .not (.t 45))])
(.cond (.t 46) ((.seq (.reg [] [MF 4])
(.ret))) (.skip))))
((.seq (.reg [] [OP 4 (.mov KT)])
(.ret))))))))))))))))))))
noncomputable def elaws_eqGiveWish : Env := envL [(114, Flaws_eqGiveWayS), (115, Flaws_eqIntS)]
noncomputable def Flaws_eqGiveWish : Fun := runF elaws_eqGiveWish claws_eqGiveWish [.t 4]
theorem elaws_eqGiveWish_laws_eqGiveWayS : elaws_eqGiveWish 114 = some Flaws_eqGiveWayS := by simp [elaws_eqGiveWish, envL_cons]
theorem elaws_eqGiveWish_laws_eqIntS : elaws_eqGiveWish 115 = some Flaws_eqIntS := by simp [elaws_eqGiveWish, envL_cons]

/-! ### laws_markGiveCellS: function 161 -/
def claws_markGiveCellS_L0 : ACode := (.seq ((.seq (.reg [] [MV 6 5,
 MV 7 0,
 LE 8 7,
 OP 9 (.bin .lss (.t 6) (.t 8))])
(.cond (.t 9) (.skip) (.exit 0))))
((.seq (.block 1 ((.seq (.reg [] [MV 12 0,
 MV 13 5,
 MV 14 1,
 IA 15 2 12 13,
 FA 16 0 15,
 OX (.store 1 (.t 16) (.t 14))])
((.seq (.reg [] [MV 17 1,
 OP 18 (.bin .add (.t 17) (KI 1)),
 MV 1 18])
((.seq (.reg [] [MV 19 0,
 MV 20 5,
 MV 21 1,
 IA 22 2 19 20,
 FA 23 1 22,
 OX (.store 1 (.t 23) (.t 21))])
(.reg [] [MV 24 1,
 OP 25 (.bin .add (.t 24) (KI 1)),
 MV 1 25]))))))))
(.reg [] [MV 10 5,
 OP 11 (.bin .add (.t 10) (KI 1)),
 MV 5 11]))))
def claws_markGiveCellS : ACode := (.seq (.reg [] [OP 4 (.mov (KI 0))])
((.seq ((.seq (.reg [] [OP 5 (.mov (KI 0))])
(.block 0 (.loop claws_markGiveCellS_L0))))
((.seq (.reg [] [MV 26 1,
 MV 4 26])
(.ret))))))
noncomputable def elaws_markGiveCellS : Env := envL []
noncomputable def Flaws_markGiveCellS : Fun := runF elaws_markGiveCellS claws_markGiveCellS [.t 4]

/-! ### laws_markGiveWayS: function 116 -/
def claws_markGiveWayS_L0 : ACode := (.seq ((.seq (.reg [] [MV 6 5,
 MV 7 0,
 LE 8 7,
 OP 9 (.bin .lss (.t 6) (.t 8))])
(.cond (.t 9) (.skip) (.exit 0))))
((.seq (.block 1 (.reg [] [MV 12 0,
 MV 13 5,
 IA 14 1 12 13,
 FA 15 0 14,
 LD 16 15,
 MV 17 1,
 OP 18 (.call 161 [.t 16, .t 17]),
 MV 1 18]))
(.reg [] [MV 10 5,
 OP 11 (.bin .add (.t 10) (KI 1)),
 MV 5 11]))))
def claws_markGiveWayS : ACode := (.seq (.reg [] [OP 4 (.mov (KI 0))])
((.seq ((.seq (.reg [] [OP 5 (.mov (KI 0))])
(.block 0 (.loop claws_markGiveWayS_L0))))
((.seq (.reg [] [MV 19 1,
 MV 4 19])
(.ret))))))
noncomputable def elaws_markGiveWayS : Env := envL [(161, Flaws_markGiveCellS)]
noncomputable def Flaws_markGiveWayS : Fun := runF elaws_markGiveWayS claws_markGiveWayS [.t 4]
theorem elaws_markGiveWayS_laws_markGiveCellS : elaws_markGiveWayS 161 = some Flaws_markGiveCellS := by simp [elaws_markGiveWayS, envL_cons]

/-! ### laws_markIntS: function 117 -/
def claws_markIntS_L0 : ACode := (.seq ((.seq (.reg [] [MV 6 5,
 MV 7 0,
 LE 8 7,
 OP 9 (.bin .lss (.t 6) (.t 8))])
(.cond (.t 9) (.skip) (.exit 0))))
((.seq (.block 1 ((.seq (.reg [] [MV 12 0,
 MV 13 5,
 MV 14 1,
 IA 15 1 12 13,
 OX (.store 1 (.t 15) (.t 14))])
(.reg [] [MV 16 1,
 OP 17 (.bin .add (.t 16) (KI 1)),
 MV 1 17]))))
(.reg [] [MV 10 5,
 OP 11 (.bin .add (.t 10) (KI 1)),
 MV 5 11]))))
def claws_markIntS : ACode := (.seq (.reg [] [OP 4 (.mov (KI 0))])
((.seq ((.seq (.reg [] [OP 5 (.mov (KI 0))])
(.block 0 (.loop claws_markIntS_L0))))
((.seq (.reg [] [MV 18 1,
 MV 4 18])
(.ret))))))
noncomputable def elaws_markIntS : Env := envL []
noncomputable def Flaws_markIntS : Fun := runF elaws_markIntS claws_markIntS [.t 4]

/-! ### laws_markGiveWish: function 45 -/
def claws_markGiveWish : ACode := (.seq (.reg [2] [OP 2 (.boxL 8 (.t 0)),
 OP 4 (.mov (KI 0))])
((.seq (.reg [] [FA 5 6 2,
 LD 6 5,
 MV 7 1,
 OP 8 (.call 116 [.t 6, .t 7]),
 MV 1 8])
((.seq (.reg [] [FA 9 7 2,
 LD 10 9,
 MV 11 1,
 OP 12 (.call 117 [.t 10, .t 11]),
 MV 1 12])
((.seq (.reg [] [MV 13 1,
 MV 4 13])
(.ret))))))))
noncomputable def elaws_markGiveWish : Env := envL [(116, Flaws_markGiveWayS), (117, Flaws_markIntS)]
noncomputable def Flaws_markGiveWish : Fun := runF elaws_markGiveWish claws_markGiveWish [.t 4]
theorem elaws_markGiveWish_laws_markGiveWayS : elaws_markGiveWish 116 = some Flaws_markGiveWayS := by simp [elaws_markGiveWish, envL_cons]
theorem elaws_markGiveWish_laws_markIntS : elaws_markGiveWish 117 = some Flaws_markIntS := by simp [elaws_markGiveWish, envL_cons]

/-! ### laws_FnExactGiveTubeOf: function 8 -/
def claws_FnExactGiveTubeOf : ACode := (.seq (.reg [4] [OP 4 (.boxL 8 (.t 0)),
 MF 8])
((.seq (.reg [] [OP 9 (.mov (KI 1048576))])
((.seq (.reg [] [OP 17 (.loadN 8 (.t 4)),
 MV 18 9,
 OP 19 (.call 40 [.t 17, .t 18]),
 MV 9 19])
((.seq ((.seq (.reg [] [MV 20 9,
 OP 21 (.bin .lss (.t 20) (KI 0))])
(.cond (.t 21) ((.seq (.reg [] [OP 8 (.mov KT)])
(.ret))) (.skip))))
((.seq (.reg [] [OP 22 (.loadN 8 (.t 4)),
 OP 23 (.call 42 [.t 22]),
 MV 24 1,
 MV 25 2,
 MV 26 3,
 OP 27 (.call 41 [.t 23, .t 24, .t 25, .t 26]),
 MV 10 27])
((.seq (.reg [11] [OP 28 (.loadN 8 (.t 4)),
 OP 29 (.call 42 [.t 28]),
 ⟨some 11, .allocL 8 [.str ⟨#[]⟩, .int .i64 0, .int .i64 0, .int .i64 0, .int .i64 0, .int .i64 0, .nils, .nils], none⟩,
 OX (.store 8 (.t 11) (.t 29))])
((.seq (.reg [] [OP 30 (.loadN 8 (.t 11)),
 MV 31 1,
 MV 32 2,
 MV 33 3,
 OP 34 (.call 43 [.t 30, .t 31, .t 32, .t 33]),
 MV 12 34])
((.seq ((.seq (.reg [] [MV 35 12,
 MV 36 10,
 OP 37 (.call 27 [.t 35, .t 36]),
 OP 38 (.un .not (.t 37))])
(.cond (.t 38) ((.seq (.reg [] [MF 8])
(.ret))) (.skip))))
((.seq ((.seq (.regD [] [OP 39 (.loadN 8 (.t 11)),
 OP 40 (.loadN 8 (.t 4)),
 OP 41 (.call 42 [.t 40]),
 OP 42 (.call 44 [.t 39, .t 41]),
 OP 43 (.un .not (.t 42))] [(2, 0)])
(.cond (.t 43) ((.seq (.reg [] [MF 8])
(.ret))) (.skip))))
((.seq (.reg [] [OP 13 (.mov (KI 1))])
((.seq (.reg [] [OP 44 (.loadN 8 (.t 11)),
 MV 45 13,
 OP 46 (.call 45 [.t 44, .t 45]),
 MV 13 46])
((.seq ((.seq (.reg [] [MV 47 13,
 OP 48 (.bin .lss (.t 47) (KI 0)),
 MV 49 48,
 OF 50 49 (.mov (.t 12)),
 OF 51 49 (.mov (.t 10)),
 OF 52 49 (.call 27 [.t 50, .t 51]),
 OF 53 49 (.un .not (.t 52)),
 OP 54 (.pick (.t 49) KT (.t 53))])
(.cond (.t 54) ((.seq (.reg [] [MF 8])
(.ret))) (.skip))))
((.seq (.reg [] [OP 14 (.mov (KI 1))])
((.seq (.reg [] [MV 55 12,
 MV 56 14,
 OP 57 (.call 30 [.t 55, .t 56]),
 MV 14 57])
((.seq (.reg [] [OP 15 (.mov (KI 1))])
((.seq (.reg [] [MV 58 12,
 MV 59 15,
 OP 60 (.call 31 [.t 58, .t 59]),
 MV 15 60])
((.seq ((.seq (.reg [] [MV 61 15,
 OP 62 (.bin .lss (.t 61) (KI 0))])
(.cond (.t 62) ((.seq (.reg [] [MF 8])
(.ret))) (.skip))))
((.seq ((.seq (.reg [] [MV 63 15,
 MV 64 14,
 OP 65 (.bin .neq (.t 63) (.t 64))])
(.cond (.t 65) ((.seq (.reg [] [MF 8])
(.ret))) (.skip))))
((.seq (.reg [] [OP 66 (.loadN 8 (.t 4)),
 OP 67 (.call 42 [.t 66]),
 MV 68 1,
 MV 69 2,
 MV 70 3,
 OP 71 (.call 43 [.t 67, .t 68, .t 69, .t 70]),
 MV 16 71])
((.seq ((.seq (.reg [] [MV 72 16,
 MV 73 10,
 OP 74 (.call 27 [.t 72, .t 73]),
 OP 75 (.un .not (.t 74))])
(.cond (.t 75) ((.seq (.reg [] [MF 8])
(.ret))) (.skip))))
((.seq (.reg [] [OP 15 (.mov (KI 1))])
((.seq (.reg [] [MV 76 12,
 MV 77 15,
 OP 78 (.call 31 [.t 76, .t 77]),
 MV 15 78])
((.seq ((.seq (.reg [] [MV 79 15,
 OP 80 (.bin .lss (.t 79) (KI 0))])
(.cond (.t 80) ((.seq (.reg [] [MF 8])
(.ret))) (.skip))))
((.seq ((.seq (.reg [] [MV 81 15,
 MV 82 14,
 OP 83 (.bin .neq (.t 81) (.t 82))])
(.cond (.t 83) ((.seq (.reg [] [MF 8])
(.ret))) (.skip))))
((.seq (.reg [] [OP 8 (.mov KT)])
(.ret))))))))))))))))))))))))))))))))))))))))))))))))))
noncomputable def elaws_FnExactGiveTubeOf : Env := envL [(27, Flaws_eqGiveBoxS), (30, Flaws_markGiveBoxS), (31, Flaws_heldGiveBoxS), (40, Flaws_szGiveWish), (41, Fspec_GiveTubeOf), (42, Flaws_toGiveWish), (43, Fimpl_GiveTubeOf), (44, Flaws_eqGiveWish), (45, Flaws_markGiveWish)]
noncomputable def Flaws_FnExactGiveTubeOf : Fun := runF elaws_FnExactGiveTubeOf claws_FnExactGiveTubeOf [.t 8]
theorem elaws_FnExactGiveTubeOf_laws_eqGiveBoxS : elaws_FnExactGiveTubeOf 27 = some Flaws_eqGiveBoxS := by simp [elaws_FnExactGiveTubeOf, envL_cons]
theorem elaws_FnExactGiveTubeOf_laws_markGiveBoxS : elaws_FnExactGiveTubeOf 30 = some Flaws_markGiveBoxS := by simp [elaws_FnExactGiveTubeOf, envL_cons]
theorem elaws_FnExactGiveTubeOf_laws_heldGiveBoxS : elaws_FnExactGiveTubeOf 31 = some Flaws_heldGiveBoxS := by simp [elaws_FnExactGiveTubeOf, envL_cons]
theorem elaws_FnExactGiveTubeOf_laws_szGiveWish : elaws_FnExactGiveTubeOf 40 = some Flaws_szGiveWish := by simp [elaws_FnExactGiveTubeOf, envL_cons]
theorem elaws_FnExactGiveTubeOf_spec_GiveTubeOf : elaws_FnExactGiveTubeOf 41 = some Fspec_GiveTubeOf := by simp [elaws_FnExactGiveTubeOf, envL_cons]
theorem elaws_FnExactGiveTubeOf_laws_toGiveWish : elaws_FnExactGiveTubeOf 42 = some Flaws_toGiveWish := by simp [elaws_FnExactGiveTubeOf, envL_cons]
theorem elaws_FnExactGiveTubeOf_impl_GiveTubeOf : elaws_FnExactGiveTubeOf 43 = some Fimpl_GiveTubeOf := by simp [elaws_FnExactGiveTubeOf, envL_cons]
theorem elaws_FnExactGiveTubeOf_laws_eqGiveWish : elaws_FnExactGiveTubeOf 44 = some Flaws_eqGiveWish := by simp [elaws_FnExactGiveTubeOf, envL_cons]
theorem elaws_FnExactGiveTubeOf_laws_markGiveWish : elaws_FnExactGiveTubeOf 45 = some Flaws_markGiveWish := by simp [elaws_FnExactGiveTubeOf, envL_cons]

/-! ### spec_l1NameOk: function 119 -/
def cspec_l1NameOk_L0 : ACode := (.seq ((.seq (.reg [] [MV 9 3,
 MV 10 0,
 OP 11 (.lenS (.t 10)),
 OP 12 (.bin .lss (.t 9) (.t 11))])
(.cond (.t 12) (.skip) (.exit 0))))
((.seq (.block 1 ((.seq (.reg [] [MV 15 0,
 MV 16 3,
 OP 17 (.indexS (.t 15) (.t 16)),
 MV 4 17])
((.seq (.reg [] [MV 18 4,
 OP 19 (.bin .geq (.t 18) (.k (.v (.c (.int .u8 97))))),
 MV 20 19,
 OT 21 20 (.mov (.t 4)),
 OT 22 20 (.bin .leq (.t 21) (.k (.v (.c (.int .u8 122))))),
 OP 23 (.pick (.t 20) (.t 22) KF),
 MV 24 23,
 OF 25 24 (.mov (.t 4)),
 OF 26 24 (.bin .geq (.t 25) (.k (.v (.c (.int .u8 48))))),
 OF 27 24 (.mov (.t 26)),
 OT 28 27 (.mov (.t 4)),
 OT 29 27 (.bin .leq (.t 28) (.k (.v (.c (.int .u8 57))))),
 OF 30 24 (.pick (.t 27) (.t 29) KF),
 OP 31 (.pick (.t 24) KT (.t 30)),
 MV 32 31,
 OF 33 32 (.mov (.t 4)),
 OF 34 32 (.bin .eql (.t 33) (.k (.v (.c (.int .u8 45))))),
 OP 35 (.pick (.t 32) KT (.t 34)),
 OP 36 (.un .not (.t 35))])
(.cond (.t 36) ((.seq (.reg [] [MF 2])
(.ret))) (.skip)))))))
(.reg [] [MV 13 3,
 OP 14 (.bin .add (.t 13) (KI 1)),
 MV 3 14]))))
def cspec_l1NameOk : ACode := (.seq (.reg [] [MF 2])
((.seq ((.seq (.reg [] [MV 5 0,
 OP 6 (.lenS (.t 5)),
 OP 7 (.call 91 [.t 6, KI 1, KI 8]),
 OP 8 (.un .not (.t 7))])
(.cond (.t 8) ((.seq (.reg [] [MF 2])
(.ret))) (.skip))))
((.seq ((.seq (.reg [] [OP 3 (.mov (KI 0))])
(.block 0 (.loop cspec_l1NameOk_L0))))
((.seq (.reg [] [OP 2 (.mov KT)])
(.ret))))))))
noncomputable def espec_l1NameOk : Env := envL [(91, Fspec_l1In)]
noncomputable def Fspec_l1NameOk : Fun := runF espec_l1NameOk cspec_l1NameOk [.t 2]
theorem espec_l1NameOk_spec_l1In : espec_l1NameOk 91 = some Fspec_l1In := by simp [espec_l1NameOk, envL_cons]

/-! ### spec_l2FieldsOk: function 118 -/
def cspec_l2FieldsOk_L1 : ACode := (.seq ((.seq (.reg [] [MV 50 5,
 MV 51 3,
 OP 52 (.bin .lss (.t 50) (.t 51))])
(.cond (.t 52) (.skip) (.exit 2))))
((.seq (.block 3 ((.seq (.regD [] [MV 55 0,
 MV 56 5,
 IA 57 3 55 56,
 FA 58 1 57,
 LD 59 58,
 FA 60 1 4,
 LD 61 60,
 OP 62 (.bin .eql (.t 59) (.t 61)),
 MV 63 62,
 OT 64 63 (.mov (.t 0)),
 OT 65 63 (.mov (.t 5)),
 OT 66 63 (.iaddr 3 (.t 64) (.t 65)),
 OT 67 63 (.faddr 2 (.t 66)),
 OT 68 63 (.load1 (.t 67)),
 OT 69 63 (.faddr 2 (.t 4)),
 OT 70 63 (.load1 (.t 69)),
 OT 71 63 (.bin .eql (.t 68) (.t 70)),
 OP 72 (.pick (.t 63) (.t 71) KF)] [])
(.cond (.t 72) ((.seq (.reg [] [MF 2])
(.ret))) (.skip)))))
(.reg [] [MV 53 5,
 OP 54 (.bin .add (.t 53) (KI 1)),
 MV 5 54]))))
def cspec_l2FieldsOk_L0 : ACode := (.seq ((.seq (.reg [] [MV 9 3,
 MV 10 0,
 LE 11 10,
 OP 12 (.bin .lss (.t 9) (.t 11))])
(.cond (.t 12) (.skip) (.exit 0))))
((.seq (.block 1 ((.seq (.reg [4] [MV 15 0,
 MV 16 3,
 IA 17 3 15 16,
 OP 18 (.loadN 3 (.t 17)),
 ⟨some 4, .allocL 3 [.str ⟨#[]⟩, .int .i64 0, .int .i64 0], none⟩,
 OX (.store 3 (.t 4) (.t 18))])
((.seq ((.seq (.regD [] [FA 19 0 4,
 LD 20 19,
 OP 21 (.call 119 [.t 20]),
 OP 22 (.un .not (.t 21)),
 MV 23 22,
 OF 24 23 (.mov (.t 3)),
 OF 25 23 (.bin .gtr (.t 24) (KI 0)),
 OF 26 23 (.mov (.t 25)),
 OT 27 26 (.mov (.t 0)),
 OT 28 26 (.mov (.t 3)),
 OT 29 26 (.bin .sub (.t 28) (KI 1)),
 OT 30 26 (.iaddr 3 (.t 27) (.t 29)),
 OT 31 26 (.faddr 0 (.t 30)),
 OT 32 26 (.load1 (.t 31)),
 OT 33 26 (.faddr 0 (.t 4)),
 OT 34 26 (.load1 (.t 33)),
 OT 35 26 (.bin .geq (.t 32) (.t 34)),
 OF 36 23 (.pick (.t 26) (.t 35) KF),
 OP 37 (.pick (.t 23) KT (.t 36)),
 MV 38 37,
 OF 39 38 (.faddr 1 (.t 4)),
 OF 40 38 (.load1 (.t 39)),
 OF 41 38 (.call 91 [.t 40, KI 0, KI 15]),
 OF 42 38 (.un .not (.t 41)),
 OP 43 (.pick (.t 38) KT (.t 42)),
 MV 44 43,
 OF 45 44 (.faddr 2 (.t 4)),
 OF 46 44 (.load1 (.t 45)),
 OF 47 44 (.call 91 [.t 46, KI 0, KI 15]),
 OF 48 44 (.un .not (.t 47)),
 OP 49 (.pick (.t 44) KT (.t 48))] [])
(.cond (.t 49) ((.seq (.reg [] [MF 2])
(.ret))) (.skip))))
((.seq (.reg [] [OP 5 (.mov (KI 0))])
(.block 2 (.loop cspec_l2FieldsOk_L1)))))))))
(.reg [] [MV 13 3,
 OP 14 (.bin .add (.t 13) (KI 1)),
 MV 3 14]))))
def cspec_l2FieldsOk : ACode := (.seq (.reg [] [MF 2])
((.seq ((.seq (.reg [] [MV 6 0,
 LE 7 6,
 OP 8 (.bin .gtr (.t 7) (KI 4))])
(.cond (.t 8) ((.seq (.reg [] [MF 2])
(.ret))) (.skip))))
((.seq ((.seq (.reg [] [OP 3 (.mov (KI 0))])
(.block 0 (.loop cspec_l2FieldsOk_L0))))
((.seq (.reg [] [OP 2 (.mov KT)])
(.ret))))))))
noncomputable def espec_l2FieldsOk : Env := envL [(91, Fspec_l1In), (119, Fspec_l1NameOk)]
noncomputable def Fspec_l2FieldsOk : Fun := runF espec_l2FieldsOk cspec_l2FieldsOk [.t 2]
theorem espec_l2FieldsOk_spec_l1In : espec_l2FieldsOk 91 = some Fspec_l1In := by simp [espec_l2FieldsOk, envL_cons]
theorem espec_l2FieldsOk_spec_l1NameOk : espec_l2FieldsOk 119 = some Fspec_l1NameOk := by simp [espec_l2FieldsOk, envL_cons]

/-! ### spec_l4Field: function 162 -/
def cspec_l4Field_L0 : ACode := (.seq ((.seq (.reg [] [MV 6 5,
 MV 7 0,
 LE 8 7,
 OP 9 (.bin .lss (.t 6) (.t 8))])
(.cond (.t 9) (.skip) (.exit 0))))
((.seq (.block 1 ((.seq (.regD [] [MV 12 0,
 MV 13 5,
 IA 14 3 12 13,
 FA 15 1 14,
 LD 16 15,
 FA 17 0 3,
 LD 18 17,
 OP 19 (.bin .eql (.t 16) (.t 18)),
 MV 20 19,
 OT 21 20 (.mov (.t 0)),
 OT 22 20 (.mov (.t 5)),
 OT 23 20 (.iaddr 3 (.t 21) (.t 22)),
 OT 24 20 (.faddr 2 (.t 23)),
 OT 25 20 (.load1 (.t 24)),
 OT 26 20 (.faddr 1 (.t 3)),
 OT 27 20 (.load1 (.t 26)),
 OT 28 20 (.bin .eql (.t 25) (.t 27)),
 OP 29 (.pick (.t 20) (.t 28) KF)] [])
(.cond (.t 29) ((.seq (.reg [] [OP 4 (.mov KT)])
(.ret))) (.skip)))))
(.reg [] [MV 10 5,
 OP 11 (.bin .add (.t 10) (KI 1)),
 MV 5 11]))))
def cspec_l4Field : ACode := (.seq (.reg [3] [OP 3 (.boxL 2 (.t 1)),
 MF 4])
((.seq ((.seq (.reg [] [OP 5 (.mov (KI 0))])
(.block 0 (.loop cspec_l4Field_L0))))
((.seq (.reg [] [MF 4])
(.ret))))))
noncomputable def espec_l4Field : Env := envL []
noncomputable def Fspec_l4Field : Fun := runF espec_l4Field cspec_l4Field [.t 4]

/-! ### spec_l4WayOk: function 120 -/
def cspec_l4WayOk_L0 : ACode := (.seq ((.seq (.reg [] [MV 14 6,
 MV 15 5,
 OP 16 (.bin .lss (.t 14) (.t 15))])
(.cond (.t 16) (.skip) (.exit 0))))
((.seq (.block 1 ((.seq (.reg [7] [FA 19 0 3,
 LD 20 19,
 MV 21 6,
 IA 22 2 20 21,
 OP 23 (.loadN 2 (.t 22)),
 OP 7 (.allocL 2 [.int .i64 0, .int .i64 0]),
 OX (.store 2 (.t 7) (.t 23))])
((.seq ((.seq (.reg [] [FA 24 0 7,
 LD 25 24,
 OP 26 (.call 91 [.t 25, KI 0, KI 15]),
 OP 27 (.un .not (.t 26)),
 MV 28 27,
 OF 29 28 (.faddr 1 (.t 7)),
 OF 30 28 (.load1 (.t 29)),
 OF 31 28 (.call 91 [.t 30, KI 0, KI 15]),
 OF 32 28 (.un .not (.t 31)),
 OP 33 (.pick (.t 28) KT (.t 32))])
(.cond (.t 33) ((.seq (.reg [] [MF 4])
(.ret))) (.skip))))
((.seq (.regD [] [MV 34 6,
 OP 35 (.bin .gtr (.t 34) (KI 0)),
 MV 36 35,
 OT 37 36 (.faddr 0 (.t 7)),
 OT 38 36 (.load1 (.t 37)),
 OT 39 36 (.faddr 0 (.t 3)),
 OT 40 36 (.load1 (.t 39)),
 OT 41 36 (.mov (.t 6)),
 OT 42 36 (.bin .sub (.t 41) (KI 1)),
 OT 43 36 (.iaddr 2 (.t 40) (.t 42)),
 OT 44 36 (.faddr 0 (.t 43)),
 OT 45 36 (.load1 (.t 44)),
 OT 46 36 (.bin .sub (.t 38) (.t 45)),
 OT 47 36 (.call 91 [.t 46, KI (-1), KI 1]),
 OT 48 36 (.un .not (.t 47)),
 OT 49 36 (.mov (.t 48)),
 OF 50 49 (.faddr 1 (.t 7)),
 OF 51 49 (.load1 (.t 50)),
 OF 52 49 (.faddr 0 (.t 3)),
 OF 53 49 (.load1 (.t 52)),
 OF 54 49 (.mov (.t 6)),
 OF 55 49 (.bin .sub (.t 54) (KI 1)),
 OF 56 49 (.iaddr 2 (.t 53) (.t 55)),
 OF 57 49 (.faddr 1 (.t 56)),
 OF 58 49 (.load1 (.t 57)),
 OF 59 49 (.bin .sub (.t 51) (.t 58)),
 OF 60 49 (.call 91 [.t 59, KI (-1), KI 1]),
 OF 61 49 (.un .not (.t 60)),
 OT 62 36 (.pick (.t 49) KT (.t 61)),
 OT 63 36 (.mov (.t 62)),
 OF 64 63 (.loadN 2 (.t 7)),
 OF 65 63 (.faddr 0 (.t 3)),
 OF 66 63 (.load1 (.t 65)),
 OF 67 63 (.mov (.t 6)),
 OF 68 63 (.bin .sub (.t 67) (KI 1)),
 OF 69 63 (.iaddr 2 (.t 66) (.t 68)),
 OF 70 63 (.loadN 2 (.t 69)),
 OF 71 63 (.binS [0, 0] false (.t 64) (.t 70)),
 OT 72 36 (.pick (.t 63) KT (.t 71)),
 OP 73 (.pick (.t 36) (.t 72) KF)] [])
(.cond (.t 73) ((.seq (.reg [] [MF 4])
(.ret))) (.skip)))))))))
(.reg [] [MV 17 6,
 OP 18 (.bin .add (.t 17) (KI 1)),
 MV 6 18]))))
def cspec_l4WayOk : ACode := (.seq (.reg [3] [OP 3 (.boxL 1 (.t 1)),
 MF 4])
((.seq (.reg [] [FA 8 0 3,
 LD 9 8,
 LE 10 9,
 MV 5 10])
((.seq ((.seq (.reg [] [MV 11 5,
 OP 12 (.call 91 [.t 11, KI 2, KI 40]),
 OP 13 (.un .not (.t 12))])
(.cond (.t 13) ((.seq (.reg [] [MF 4])
(.ret))) (.skip))))
((.seq ((.seq (.reg [] [OP 6 (.mov (KI 0))])
(.block 0 (.loop cspec_l4WayOk_L0))))
((.seq (.reg [] [MV 74 0,
 FA 75 0 3,
 LD 76 75,
 OP 77 (.iaddr 2 (.t 76) (KI 0)),
 OP 78 (.loadN 2 (.t 77)),
 OP 79 (.call 162 [.t 74, .t 78]),
 MV 80 79,
 OT 81 80 (.mov (.t 0)),
 OT 82 80 (.faddr 0 (.t 3)),
 OT 83 80 (.load1 (.t 82)),
 OT 84 80 (.mov (.t 5)),
 OT 85 80 (.bin .sub (.t 84) (KI 1)),
 OT 86 80 (.iaddr 2 (.t 83) (.t 85)),
 OT 87 80 (.loadN 2 (.t 86)),
 OT 88 80 (.call 162 [.t 81, .t 87]),
 OP 89 (.pick (.t 80) (.t 88) KF),
 MV 4 89])
(.ret))))))))))
noncomputable def espec_l4WayOk : Env := envL [(91, Fspec_l1In), (162, Fspec_l4Field)]
noncomputable def Fspec_l4WayOk : Fun := runF espec_l4WayOk cspec_l4WayOk [.t 4]
theorem espec_l4WayOk_spec_l1In : espec_l4WayOk 91 = some Fspec_l1In := by simp [espec_l4WayOk, envL_cons]
theorem espec_l4WayOk_spec_l4Field : espec_l4WayOk 162 = some Fspec_l4Field := by simp [espec_l4WayOk, envL_cons]

/-! ### spec_GiveWishOk: function 46 -/
def cspec_GiveWishOk_L1 : ACode := (.seq ((.seq (.reg [] [MV 77 6,
 FA 78 7 3,
 LD 79 78,
 LE 80 79,
 OP 81 (.bin .lss (.t 77) (.t 80))])
(.cond (.t 81) (.skip) (.exit 2))))
((.seq (.block 3 ((.seq (.reg [] [FA 84 7 3,
 LD 85 84,
 MV 86 6,
 IA 87 1 85 86,
 LD 88 87,
 OP 89 (.call 91 [.t 88, KI 1, KI 6]),
 OP 90 (.un .not (.t 89))])
(.cond (.t 90) ((.seq (.reg [] [MF 4])
(.ret))) (.skip)))))
(.reg [] [MV 82 6,
 OP 83 (.bin .add (.t 82) (KI 1)),
 MV 6 83]))))
def cspec_GiveWishOk_L0 : ACode := (.seq ((.seq (.reg [] [MV 62 5,
 FA 63 6 3,
 LD 64 63,
 LE 65 64,
 OP 66 (.bin .lss (.t 62) (.t 65))])
(.cond (.t 66) (.skip) (.exit 0))))
((.seq (.block 1 ((.seq (.reg [] [MV 69 0,
 FA 70 6 3,
 LD 71 70,
 MV 72 5,
 IA 73 1 71 72,
 OP 74 (.loadN 1 (.t 73)),
 OP 75 (.call 120 [.t 69, .t 74]),
 OP 76 (.un .not (.t 75))])
(.cond (.t 76) ((.seq (.reg [] [MF 4])
(.ret))) (.skip)))))
(.reg [] [MV 67 5,
 OP 68 (.bin .add (.t 67) (KI 1)),
 MV 5 68]))))
def cspec_GiveWishOk : ACode := (.seq (.reg [3] [OP 3 (.boxL 8 (.t 1)),
 MF 4])
((.seq ((.seq (.reg [] [MV 7 0,
 OP 8 (.call 118 [.t 7]),
 OP 9 (.un .not (.t 8)),
 MV 10 9,
 OF 11 10 (.faddr 0 (.t 3)),
 OF 12 10 (.load1 (.t 11)),
 OF 13 10 (.call 119 [.t 12]),
 OF 14 10 (.un .not (.t 13)),
 OP 15 (.pick (.t 10) KT (.t 14)),
 MV 16 15,
 OF 17 16 (.faddr 1 (.t 3)),
 OF 18 16 (.load1 (.t 17)),
 OF 19 16 (.faddr 2 (.t 3)),
 OF 20 16 (.load1 (.t 19)),
 OF 21 16 (.call 91 [.t 18, KI 1, .t 20]),
 OF 22 16 (.un .not (.t 21)),
 OP 23 (.pick (.t 16) KT (.t 22)),
 MV 24 23,
 OF 25 24 (.faddr 2 (.t 3)),
 OF 26 24 (.load1 (.t 25)),
 OF 27 24 (.bin .gtr (.t 26) (KI 50)),
 OP 28 (.pick (.t 24) KT (.t 27)),
 MV 29 28,
 OF 30 29 (.faddr 3 (.t 3)),
 OF 31 29 (.load1 (.t 30)),
 OF 32 29 (.faddr 4 (.t 3)),
 OF 33 29 (.load1 (.t 32)),
 OF 34 29 (.call 91 [.t 31, KI 0, .t 33]),
 OF 35 29 (.un .not (.t 34)),
 OP 36 (.pick (.t 29) KT (.t 35)),
 MV 37 36,
 OF 38 37 (.faddr 4 (.t 3)),
 OF 39 37 (.load1 (.t 38)),
 OF 40 37 (.bin .gtr (.t 39) (KI 10000)),
 OP 41 (.pick (.t 37) KT (.t 40)),
 MV 42 41,
 OF 43 42 (.faddr 5 (.t 3)),
 OF 44 42 (.load1 (.t 43)),
 OF 45 42 (.call 91 [.t 44, KI 0, KI 300]),
 OF 46 42 (.un .not (.t 45)),
 OP 47 (.pick (.t 42) KT (.t 46)),
 MV 48 47,
 OF 49 48 (.faddr 6 (.t 3)),
 OF 50 48 (.load1 (.t 49)),
 OF 51 48 (.len (.t 50)),
 OF 52 48 (.call 91 [.t 51, KI 1, KI 3]),
 OF 53 48 (.un .not (.t 52)),
 OP 54 (.pick (.t 48) KT (.t 53)),
 MV 55 54,
 OF 56 55 (.faddr 7 (.t 3)),
 OF 57 55 (.load1 (.t 56)),
 OF 58 55 (.len (.t 57)),
 OF 59 55 (.call 91 [.t 58, KI 1, KI 6]),
 OF 60 55 (.un .not (.t 59)),
 OP 61 (.pick (.t 55) KT (.t 60))])
(.cond (.t 61) ((.seq (.reg [] [MF 4])
(.ret))) (.skip))))
((.seq ((.seq (.reg [] [OP 5 (.mov (KI 0))])
(.block 0 (.loop cspec_GiveWishOk_L0))))
((.seq ((.seq (.reg [] [OP 6 (.mov (KI 0))])
(.block 2 (.loop cspec_GiveWishOk_L1))))
((.seq (.reg [] [OP 4 (.mov KT)])
(.ret))))))))))
noncomputable def espec_GiveWishOk : Env := envL [(91, Fspec_l1In), (118, Fspec_l2FieldsOk), (119, Fspec_l1NameOk), (120, Fspec_l4WayOk)]
noncomputable def Fspec_GiveWishOk : Fun := runF espec_GiveWishOk cspec_GiveWishOk [.t 4]
theorem espec_GiveWishOk_spec_l1In : espec_GiveWishOk 91 = some Fspec_l1In := by simp [espec_GiveWishOk, envL_cons]
theorem espec_GiveWishOk_spec_l2FieldsOk : espec_GiveWishOk 118 = some Fspec_l2FieldsOk := by simp [espec_GiveWishOk, envL_cons]
theorem espec_GiveWishOk_spec_l1NameOk : espec_GiveWishOk 119 = some Fspec_l1NameOk := by simp [espec_GiveWishOk, envL_cons]
theorem espec_GiveWishOk_spec_l4WayOk : espec_GiveWishOk 120 = some Fspec_l4WayOk := by simp [espec_GiveWishOk, envL_cons]

/-! ### impl_name: function 122 -/
def cimpl_name_L0 : ACode := (.seq ((.seq (.reg [] [MV 9 3,
 MV 10 0,
 OP 11 (.lenS (.t 10)),
 OP 12 (.bin .lss (.t 9) (.t 11))])
(.cond (.t 12) (.skip) (.exit 0))))
((.seq (.block 1 ((.seq (.reg [] [MV 15 0,
 MV 16 3,
 OP 17 (.indexS (.t 15) (.t 16)),
 MV 4 17])
((.seq (.reg [] [MV 18 4,
 OP 19 (.bin .geq (.t 18) (.k (.v (.c (.int .u8 97))))),
 MV 20 19,
 OT 21 20 (.mov (.t 4)),
 OT 22 20 (.bin .leq (.t 21) (.k (.v (.c (.int .u8 122))))),
 OP 23 (.pick (.t 20) (.t 22) KF),
 MV 24 23,
 OF 25 24 (.mov (.t 4)),
 OF 26 24 (.bin .geq (.t 25) (.k (.v (.c (.int .u8 48))))),
 OF 27 24 (.mov (.t 26)),
 OT 28 27 (.mov (.t 4)),
 OT 29 27 (.bin .leq (.t 28) (.k (.v (.c (.int .u8 57))))),
 OF 30 24 (.pick (.t 27) (.t 29) KF),
 OP 31 (.pick (.t 24) KT (.t 30)),
 MV 32 31,
 OF 33 32 (.mov (.t 4)),
 OF 34 32 (.bin .eql (.t 33) (.k (.v (.c (.int .u8 45))))),
 OP 35 (.pick (.t 32) KT (.t 34)),
 OP 36 (.un .not (.t 35))])
(.cond (.t 36) ((.seq (.reg [] [MF 2])
(.ret))) (.skip)))))))
(.reg [] [MV 13 3,
 OP 14 (.bin .add (.t 13) (KI 1)),
 MV 3 14]))))
def cimpl_name : ACode := (.seq (.reg [] [MF 2])
((.seq ((.seq (.reg [] [MV 5 0,
 OP 6 (.lenS (.t 5)),
 OP 7 (.call 96 [.t 6, KI 1, KI 8]),
 OP 8 (.un .not (.t 7))])
(.cond (.t 8) ((.seq (.reg [] [MF 2])
(.ret))) (.skip))))
((.seq ((.seq (.reg [] [OP 3 (.mov (KI 0))])
(.block 0 (.loop cimpl_name_L0))))
((.seq (.reg [] [OP 2 (.mov KT)])
(.ret))))))))
noncomputable def eimpl_name : Env := envL [(96, Fimpl_in)]
noncomputable def Fimpl_name : Fun := runF eimpl_name cimpl_name [.t 2]
theorem eimpl_name_impl_in : eimpl_name 96 = some Fimpl_in := by simp [eimpl_name, envL_cons]

/-! ### impl_fieldsOk: function 121 -/
def cimpl_fieldsOk_L0 : ACode := (.seq (.reg [] [OP 11 (.bin .lss (.t 10) (.t 9))])
((.seq (.cond (.t 11) (.skip) (.exit 0))
((.seq (.block 1 ((.seq (.reg [4] [MV 12 10,
 IA 13 3 8 10,
 OP 14 (.loadN 3 (.t 13)),
 ⟨some 4, .allocL 3 [.str ⟨#[]⟩, .int .i64 0, .int .i64 0], none⟩,
 MV 3 12,
 OX (.store 3 (.t 4) (.t 14))])
((.seq (.regD [] [FA 15 0 4,
 LD 16 15,
 OP 17 (.call 122 [.t 16]),
 OP 18 (.un .not (.t 17)),
 MV 19 18,
 OF 20 19 (.mov (.t 3)),
 OF 21 19 (.bin .gtr (.t 20) (KI 0)),
 OF 22 19 (.mov (.t 21)),
 OT 23 22 (.mov (.t 0)),
 OT 24 22 (.mov (.t 3)),
 OT 25 22 (.bin .sub (.t 24) (KI 1)),
 OT 26 22 (.iaddr 3 (.t 23) (.t 25)),
 OT 27 22 (.faddr 0 (.t 26)),
 OT 28 22 (.load1 (.t 27)),
 OT 29 22 (.faddr 0 (.t 4)),
 OT 30 22 (.load1 (.t 29)),
 OT 31 22 (.bin .geq (.t 28) (.t 30)),
 OF 32 19 (.pick (.t 22) (.t 31) KF),
 OP 33 (.pick (.t 19) KT (.t 32)),
 MV 34 33,
 OF 35 34 (.faddr 1 (.t 4)),
 OF 36 34 (.load1 (.t 35)),
 OF 37 34 (.call 96 [.t 36, KI 0, KI 15]),
 OF 38 34 (.un .not (.t 37)),
 OP 39 (.pick (.t 34) KT (.t 38)),
 MV 40 39,
 OF 41 40 (.faddr 2 (.t 4)),
 OF 42 40 (.load1 (.t 41)),
 OF 43 40 (.call 96 [.t 42, KI 0, KI 15]),
 OF 44 40 (.un .not (.t 43)),
 OP 45 (.pick (.t 40) KT (.t 44)),
 MV 46 45,
 OF 47 46 (.mov (.t 0)),
 OF 48 46 (.mov (.t 3)),
 OF 49 46 (.slice 3 (.t 47) none (some (.t 48)) none),
 OF 50 46 (.faddr 1 (.t 4)),
 OF 51 46 (.load1 (.t 50)),
 OF 52 46 (.faddr 2 (.t 4)),
 OF 53 46 (.load1 (.t 52)),
 OF 54 46 (.call 98 [.t 49, .t 51, .t 53]),
 OP 55 (.pick (.t 46) KT (.t 54))] [])
(.cond (.t 55) ((.seq (.reg [] [MF 2])
(.ret))) (.skip)))))))
(.reg [] [OP 56 (.bin .add (.t 10) (KI 1)),
 MV 10 56]))))))
def cimpl_fieldsOk : ACode := (.seq (.reg [] [MF 2])
((.seq ((.seq (.reg [] [MV 5 0,
 LE 6 5,
 OP 7 (.bin .gtr (.t 6) (KI 4))])
(.cond (.t 7) ((.seq (.reg [] [MF 2])
(.ret))) (.skip))))
((.seq ((.seq (.reg [] [MV 8 0,
 LE 9 8,
 OP 10 (.mov (KI 0))])
(.block 0 (.loop cimpl_fieldsOk_L0))))
((.seq (.reg [] [OP 2 (.mov KT)])
(.ret))))))))
noncomputable def eimpl_fieldsOk : Env := envL [(96, Fimpl_in), (98, Fimpl_isField), (122, Fimpl_name)]
noncomputable def Fimpl_fieldsOk : Fun := runF eimpl_fieldsOk cimpl_fieldsOk [.t 2]
theorem eimpl_fieldsOk_impl_in : eimpl_fieldsOk 96 = some Fimpl_in := by simp [eimpl_fieldsOk, envL_cons]
theorem eimpl_fieldsOk_impl_isField : eimpl_fieldsOk 98 = some Fimpl_isField := by simp [eimpl_fieldsOk, envL_cons]
theorem eimpl_fieldsOk_impl_name : eimpl_fieldsOk 122 = some Fimpl_name := by simp [eimpl_fieldsOk, envL_cons]

/-! ### impl_wayOk: function 123 -/
def cimpl_wayOk_L0 : ACode := (.seq (.reg [] [OP 19 (.bin .lss (.t 18) (.t 17))])
((.seq (.cond (.t 19) (.skip) (.exit 0))
((.seq (.block 1 ((.seq (.reg [6] [MV 20 18,
 IA 21 2 16 18,
 OP 22 (.loadN 2 (.t 21)),
 OP 6 (.allocL 2 [.int .i64 0, .int .i64 0]),
 MV 5 20,
 OX (.store 2 (.t 6) (.t 22))])
((.seq ((.seq (.reg [] [FA 23 0 6,
 LD 24 23,
 OP 25 (.call 96 [.t 24, KI 0, KI 15]),
 OP 26 (.un .not (.t 25)),
 MV 27 26,
 OF 28 27 (.faddr 1 (.t 6)),
 OF 29 27 (.load1 (.t 28)),
 OF 30 27 (.call 96 [.t 29, KI 0, KI 15]),
 OF 31 27 (.un .not (.t 30)),
 OP 32 (.pick (.t 27) KT (.t 31))])
(.cond (.t 32) ((.seq (.reg [] [MF 4])
(.ret))) (.skip))))
((.seq (.reg [] [MV 33 5,
 OP 34 (.bin .gtr (.t 33) (KI 0))])
(.cond (.t 34) ((.seq (.reg [7] [FA 35 0 3,
 LD 36 35,
 MV 37 5,
 OP 38 (.bin .sub (.t 37) (KI 1)),
 IA 39 2 36 38,
 OP 40 (.loadN 2 (.t 39)),
 OP 7 (.allocL 2 [.int .i64 0, .int .i64 0]),
 OX (.store 2 (.t 7) (.t 40))])
((.seq (.reg [] [OP 41 (.loadN 2 (.t 7)),
 OP 42 (.loadN 2 (.t 6)),
 OP 43 (.binS [0, 0] false (.t 41) (.t 42)),
 MV 44 43,
 OF 45 44 (.faddr 0 (.t 6)),
 OF 46 44 (.load1 (.t 45)),
 OF 47 44 (.faddr 0 (.t 7)),
 OF 48 44 (.load1 (.t 47)),
 OF 49 44 (.bin .sub (.t 46) (.t 48)),
 OF 50 44 (.call 96 [.t 49, KI (-1), KI 1]),
 OF 51 44 (.un .not (.t 50)),
 OP 52 (.pick (.t 44) KT (.t 51)),
 MV 53 52,
 OF 54 53 (.faddr 1 (.t 6)),
 OF 55 53 (.load1 (.t 54)),
 OF 56 53 (.faddr 1 (.t 7)),
 OF 57 53 (.load1 (.t 56)),
 OF 58 53 (.bin .sub (.t 55) (.t 57)),
 OF 59 53 (.call 96 [.t 58, KI (-1), KI 1]),
 OF 60 53 (.un .not (.t 59)),
 OP 61 (.pick (.t 53) KT (.t 60))])
(.cond (.t 61) ((.seq (.reg [] [MF 4])
(.ret))) (.skip)))))) (.skip)))))))))
(.reg [] [OP 62 (.bin .add (.t 18) (KI 1)),
 MV 18 62]))))))
def cimpl_wayOk : ACode := (.seq (.reg [3] [OP 3 (.boxL 1 (.t 1)),
 MF 4])
((.seq ((.seq (.reg [] [FA 10 0 3,
 LD 11 10,
 LE 12 11,
 OP 13 (.call 96 [.t 12, KI 2, KI 40]),
 OP 14 (.un .not (.t 13))])
(.cond (.t 14) ((.seq (.reg [] [MF 4])
(.ret))) (.skip))))
((.seq ((.seq (.reg [] [FA 15 0 3,
 LD 16 15,
 LE 17 16,
 OP 18 (.mov (KI 0))])
(.block 0 (.loop cimpl_wayOk_L0))))
((.seq (.regD [8, 9] [FA 63 0 3,
 LD 64 63,
 OP 65 (.iaddr 2 (.t 64) (KI 0)),
 OP 66 (.loadN 2 (.t 65)),
 FA 67 0 3,
 LD 68 67,
 FA 69 0 3,
 LD 70 69,
 LE 71 70,
 OP 72 (.bin .sub (.t 71) (KI 1)),
 IA 73 2 68 72,
 OP 74 (.loadN 2 (.t 73)),
 OP 8 (.allocL 2 [.int .i64 0, .int .i64 0]),
 OP 9 (.allocL 2 [.int .i64 0, .int .i64 0]),
 OX (.store 2 (.t 8) (.t 66)),
 OX (.store 2 (.t 9) (.t 74))] [(14, 5), (14, 7), (14, 11)])
((.seq (.reg [] [MV 75 0,
 FA 76 0 8,
 LD 77 76,
 FA 78 1 8,
 LD 79 78,
 OP 80 (.call 98 [.t 75, .t 77, .t 79]),
 MV 81 80,
 OT 82 81 (.mov (.t 0)),
 OT 83 81 (.faddr 0 (.t 9)),
 OT 84 81 (.load1 (.t 83)),
 OT 85 81 (.faddr 1 (.t 9)),
 OT 86 81 (.load1 (.t 85)),
 OT 87 81 (.call 98 [.t 82, .t 84, .t 86]),
 OP 88 (.pick (.t 81) (.t 87) KF),
 MV 4 88])
(.ret))))))))))
noncomputable def eimpl_wayOk : Env := envL [(96, Fimpl_in), (98, Fimpl_isField)]
noncomputable def Fimpl_wayOk : Fun := runF eimpl_wayOk cimpl_wayOk [.t 4]
theorem eimpl_wayOk_impl_in : eimpl_wayOk 96 = some Fimpl_in := by simp [eimpl_wayOk, envL_cons]
theorem eimpl_wayOk_impl_isField : eimpl_wayOk 98 = some Fimpl_isField := by simp [eimpl_wayOk, envL_cons]

/-! ### impl_GiveWishOk: function 47 -/
def cimpl_GiveWishOk_L1 : ACode := (.seq (.reg [] [OP 88 (.bin .lss (.t 87) (.t 86))])
((.seq (.cond (.t 88) (.skip) (.exit 2))
((.seq (.block 3 ((.seq (.reg [] [IA 89 1 85 87,
 LD 90 89,
 MV 8 90])
((.seq (.reg [] [MV 91 8,
 OP 92 (.call 96 [.t 91, KI 1, KI 6]),
 OP 93 (.un .not (.t 92))])
(.cond (.t 93) ((.seq (.reg [] [MF 4])
(.ret))) (.skip)))))))
(.reg [] [OP 94 (.bin .add (.t 87) (KI 1)),
 MV 87 94]))))))
def cimpl_GiveWishOk_L0 : ACode := (.seq (.reg [] [OP 76 (.bin .lss (.t 75) (.t 74))])
((.seq (.cond (.t 76) (.skip) (.exit 0))
((.seq (.block 1 ((.seq (.reg [6] [IA 77 1 73 75,
 OP 78 (.loadN 1 (.t 77)),
 OP 6 (.allocL 1 [.nils]),
 OX (.store 1 (.t 6) (.t 78))])
((.seq (.reg [] [MV 79 0,
 OP 80 (.loadN 1 (.t 6)),
 OP 81 (.call 123 [.t 79, .t 80]),
 OP 82 (.un .not (.t 81))])
(.cond (.t 82) ((.seq (.reg [] [MF 4])
(.ret))) (.skip)))))))
(.reg [] [OP 83 (.bin .add (.t 75) (KI 1)),
 MV 75 83]))))))
def cimpl_GiveWishOk : ACode := (.seq (.reg [3] [OP 3 (.boxL 8 (.t 1)),
 MF 4])
((.seq ((.seq (.reg [] [MV 9 0,
 OP 10 (.call 121 [.t 9]),
 OP 11 (.un .not (.t 10)),
 MV 12 11,
 OF 13 12 (.faddr 0 (.t 3)),
 OF 14 12 (.load1 (.t 13)),
 OF 15 12 (.call 122 [.t 14]),
 OF 16 12 (.un .not (.t 15)),
 OP 17 (.pick (.t 12) KT (.t 16)),
 MV 18 17,
 OF 19 18 (.faddr 1 (.t 3)),
 OF 20 18 (.load1 (.t 19)),
 OF 21 18 (.bin .lss (.t 20) (KI 1)),
 OP 22 (.pick (.t 18) KT (.t 21)),
 MV 23 22,
 OF 24 23 (.faddr 1 (.t 3)),
 OF 25 23 (.load1 (.t 24)),
 OF 26 23 (.faddr 2 (.t 3)),
 OF 27 23 (.load1 (.t 26)),
 OF 28 23 (.bin .gtr (.t 25) (.t 27)),
 OP 29 (.pick (.t 23) KT (.t 28)),
 MV 30 29,
 OF 31 30 (.faddr 2 (.t 3)),
 OF 32 30 (.load1 (.t 31)),
 OF 33 30 (.bin .gtr (.t 32) (KI 50)),
 OP 34 (.pick (.t 30) KT (.t 33)),
 MV 35 34,
 OF 36 35 (.faddr 3 (.t 3)),
 OF 37 35 (.load1 (.t 36)),
 OF 38 35 (.bin .lss (.t 37) (KI 0)),
 OP 39 (.pick (.t 35) KT (.t 38)),
 MV 40 39,
 OF 41 40 (.faddr 3 (.t 3)),
 OF 42 40 (.load1 (.t 41)),
 OF 43 40 (.faddr 4 (.t 3)),
 OF 44 40 (.load1 (.t 43)),
 OF 45 40 (.bin .gtr (.t 42) (.t 44)),
 OP 46 (.pick (.t 40) KT (.t 45)),
 MV 47 46,
 OF 48 47 (.faddr 4 (.t 3)),
 OF 49 47 (.load1 (.t 48)),
 OF 50 47 (.bin .gtr (.t 49) (KI 10000)),
 OP 51 (.pick (.t 47) KT (.t 50)),
 MV 52 51,
 OF 53 52 (.faddr 5 (.t 3)),
 OF 54 52 (.load1 (.t 53)),
 OF 55 52 (.call 96 [.t 54, KI 0, KI 300]),
 OF 56 52 (.un .not (.t 55)),
 OP 57 (.pick (.t 52) KT (.t 56)),
 MV 58 57,
 OF 59 58 (.faddr 6 (.t 3)),
 OF 60 58 (.load1 (.t 59)),
 OF 61 58 (.len (.t 60)),
 OF 62 58 (.call 96 [.t 61, KI 1, KI 3]),
 OF 63 58 (.un .not (.t 62)),
 OP 64 (.pick (.t 58) KT (.t 63)),
 MV 65 64,
 OF 66 65 (.faddr 7 (.t 3)),
 OF 67 65 (.load1 (.t 66)),
 OF 68 65 (.len (.t 67)),
 OF 69 65 (.call 96 [.t 68, KI 1, KI 6]),
 OF 70 65 (.un .not (.t 69)),
 OP 71 (.pick (.t 65) KT (.t 70))])
(.cond (.t 71) ((.seq (.reg [] [MF 4])
(.ret))) (.skip))))
((.seq ((.seq (.reg [] [FA 72 6 3,
 LD 73 72,
 LE 74 73,
 OP 75 (.mov (KI 0))])
(.block 0 (.loop cimpl_GiveWishOk_L0))))
((.seq ((.seq (.reg [] [FA 84 7 3,
 LD 85 84,
 LE 86 85,
 OP 87 (.mov (KI 0))])
(.block 2 (.loop cimpl_GiveWishOk_L1))))
((.seq (.reg [] [OP 4 (.mov KT)])
(.ret))))))))))
noncomputable def eimpl_GiveWishOk : Env := envL [(96, Fimpl_in), (121, Fimpl_fieldsOk), (122, Fimpl_name), (123, Fimpl_wayOk)]
noncomputable def Fimpl_GiveWishOk : Fun := runF eimpl_GiveWishOk cimpl_GiveWishOk [.t 4]
theorem eimpl_GiveWishOk_impl_in : eimpl_GiveWishOk 96 = some Fimpl_in := by simp [eimpl_GiveWishOk, envL_cons]
theorem eimpl_GiveWishOk_impl_fieldsOk : eimpl_GiveWishOk 121 = some Fimpl_fieldsOk := by simp [eimpl_GiveWishOk, envL_cons]
theorem eimpl_GiveWishOk_impl_name : eimpl_GiveWishOk 122 = some Fimpl_name := by simp [eimpl_GiveWishOk, envL_cons]
theorem eimpl_GiveWishOk_impl_wayOk : eimpl_GiveWishOk 123 = some Fimpl_wayOk := by simp [eimpl_GiveWishOk, envL_cons]

/-! ### laws_FnExactGiveWishOk: function 9 -/
def claws_FnExactGiveWishOk : ACode := (.seq (.reg [3] [OP 3 (.boxL 8 (.t 1)),
 MF 4])
((.seq (.reg [] [OP 5 (.mov (KI 1048576))])
((.seq (.reg [] [MV 10 0,
 MV 11 5,
 OP 12 (.call 32 [.t 10, .t 11]),
 MV 5 12])
((.seq ((.seq (.reg [] [MV 13 5,
 OP 14 (.bin .lss (.t 13) (KI 0))])
(.cond (.t 14) ((.seq (.reg [] [OP 4 (.mov KT)])
(.ret))) (.skip))))
((.seq (.reg [] [OP 15 (.loadN 8 (.t 3)),
 MV 16 5,
 OP 17 (.call 40 [.t 15, .t 16]),
 MV 5 17])
((.seq ((.seq (.reg [] [MV 18 5,
 OP 19 (.bin .lss (.t 18) (KI 0))])
(.cond (.t 19) ((.seq (.reg [] [OP 4 (.mov KT)])
(.ret))) (.skip))))
((.seq (.regD [] [MV 20 0,
 OP 21 (.call 34 [.t 20]),
 OP 22 (.loadN 8 (.t 3)),
 OP 23 (.call 42 [.t 22]),
 OP 24 (.call 46 [.t 21, .t 23]),
 MV 6 24] [(1, 2)])
((.seq (.reg [] [MV 25 0,
 OP 26 (.call 34 [.t 25]),
 MV 7 26])
((.seq (.reg [8] [OP 27 (.loadN 8 (.t 3)),
 OP 28 (.call 42 [.t 27]),
 ⟨some 8, .allocL 8 [.str ⟨#[]⟩, .int .i64 0, .int .i64 0, .int .i64 0, .int .i64 0, .int .i64 0, .nils, .nils], none⟩,
 OX (.store 8 (.t 8) (.t 28))])
((.seq (.reg [] [MV 29 7,
 OP 30 (.loadN 8 (.t 8)),
 OP 31 (.call 47 [.t 29, .t 30]),
 MV 9 31])
((.seq ((.seq (.reg [] [MV 32 9,
 MV 33 6,
 OP 34 (.binB true (.t 32) (.t 33))])
(.cond (.t 34) ((.seq (.reg [] [MF 4])
(.ret))) (.skip))))
((.seq ((.seq (.reg [] [MV 35 7,
 MV 36 0,
 OP 37 (.call 34 [.t 36]),
 OP 38 (.call 36 [.t 35, .t 37]),
 OP 39 (.un .not (.t 38))])
(.cond (.t 39) ((.seq (.reg [] [MF 4])
(.ret))) (.skip))))
((.seq ((.seq (.regD [] [OP 40 (.loadN 8 (.t 8)),
 OP 41 (.loadN 8 (.t 3)),
 OP 42 (.call 42 [.t 41]),
 OP 43 (.call 44 [.t 40, .t 42]),
 OP 44 (.un .not (.t 43))] [(2, 0)])
(.cond (.t 44) ((.seq (.reg [] [MF 4])
(.ret))) (.skip))))
((.seq (.reg [] [OP 4 (.mov KT)])
(.ret))))))))))))))))))))))))))))
noncomputable def elaws_FnExactGiveWishOk : Env := envL [(32, Flaws_szGiveFieldS), (34, Flaws_toGiveFieldS), (36, Flaws_eqGiveFieldS), (40, Flaws_szGiveWish), (42, Flaws_toGiveWish), (44, Flaws_eqGiveWish), (46, Fspec_GiveWishOk), (47, Fimpl_GiveWishOk)]
noncomputable def Flaws_FnExactGiveWishOk : Fun := runF elaws_FnExactGiveWishOk claws_FnExactGiveWishOk [.t 4]
theorem elaws_FnExactGiveWishOk_laws_szGiveFieldS : elaws_FnExactGiveWishOk 32 = some Flaws_szGiveFieldS := by simp [elaws_FnExactGiveWishOk, envL_cons]
theorem elaws_FnExactGiveWishOk_laws_toGiveFieldS : elaws_FnExactGiveWishOk 34 = some Flaws_toGiveFieldS := by simp [elaws_FnExactGiveWishOk, envL_cons]
theorem elaws_FnExactGiveWishOk_laws_eqGiveFieldS : elaws_FnExactGiveWishOk 36 = some Flaws_eqGiveFieldS := by simp [elaws_FnExactGiveWishOk, envL_cons]
theorem elaws_FnExactGiveWishOk_laws_szGiveWish : elaws_FnExactGiveWishOk 40 = some Flaws_szGiveWish := by simp [elaws_FnExactGiveWishOk, envL_cons]
theorem elaws_FnExactGiveWishOk_laws_toGiveWish : elaws_FnExactGiveWishOk 42 = some Flaws_toGiveWish := by simp [elaws_FnExactGiveWishOk, envL_cons]
theorem elaws_FnExactGiveWishOk_laws_eqGiveWish : elaws_FnExactGiveWishOk 44 = some Flaws_eqGiveWish := by simp [elaws_FnExactGiveWishOk, envL_cons]
theorem elaws_FnExactGiveWishOk_spec_GiveWishOk : elaws_FnExactGiveWishOk 46 = some Fspec_GiveWishOk := by simp [elaws_FnExactGiveWishOk, envL_cons]
theorem elaws_FnExactGiveWishOk_impl_GiveWishOk : elaws_FnExactGiveWishOk 47 = some Fimpl_GiveWishOk := by simp [elaws_FnExactGiveWishOk, envL_cons]

end Go.Abs

/-
  What the codes tell is what the program's functions do (printed by wip/tools/gen3.py).
-/

namespace Go.Abs
open Go.Proofs
set_option maxRecDepth 100000

theorem slaws_szGiveCellS : Sound Try.prog 175 Flaws_szGiveCellS := sound_of (envL_ok (fun p hp => by simp at hp)) mixed [] Try.func175 (by kernel_rfl) (by kernel_rfl) (by kernel_rfl)
theorem slaws_szGiveWay : Sound Try.prog 158 Flaws_szGiveWay := sound_of (envL_ok (by simp only [List.forall_mem_cons, List.not_mem_nil, false_implies, implies_true, and_true]; exact slaws_szGiveCellS)) mixed [2] Try.func158 (by kernel_rfl) (by kernel_rfl) (by kernel_rfl)
theorem slaws_szGiveWayS : Sound Try.prog 105 Flaws_szGiveWayS := sound_of (envL_ok (by simp only [List.forall_mem_cons, List.not_mem_nil, false_implies, implies_true, and_true]; exact slaws_szGiveWay)) mixed [] Try.func105 (by kernel_rfl) (by kernel_rfl) (by kernel_rfl)
theorem slaws_szIntS : Sound Try.prog 106 Flaws_szIntS := sound_of (envL_ok (fun p hp => by simp at hp)) mixed [] Try.func106 (by kernel_rfl) (by kernel_rfl) (by kernel_rfl)
theorem slaws_szGiveWish : Sound Try.prog 40 Flaws_szGiveWish := sound_of (envL_ok (by simp only [List.forall_mem_cons, List.not_mem_nil, false_implies, implies_true, and_true]; exact ⟨slaws_szGiveWayS, slaws_szIntS⟩)) mixed [2] Try.func40 (by kernel_rfl) (by kernel_rfl) (by kernel_rfl)
theorem sspec_l4Small : Sound Try.prog 107 Fspec_l4Small := sound_of (envL_ok (by simp only [List.forall_mem_cons, List.not_mem_nil, false_implies, implies_true, and_true]; exact sspec_l1In)) mixed [2] Try.func107 (by kernel_rfl) (by kernel_rfl) (by kernel_rfl)
theorem sspec_l4Min : Sound Try.prog 109 Fspec_l4Min := sound_of (envL_ok (fun p hp => by simp at hp)) mixed [] Try.func109 (by kernel_rfl) (by kernel_rfl) (by kernel_rfl)
theorem sspec_l4Level : Sound Try.prog 108 Fspec_l4Level := sound_of (envL_ok (by simp only [List.forall_mem_cons, List.not_mem_nil, false_implies, implies_true, and_true]; exact sspec_l4Min)) mixed [] Try.func108 (by kernel_rfl) (by kernel_rfl) (by kernel_rfl)
theorem sspec_l4Max : Sound Try.prog 110 Fspec_l4Max := sound_of (envL_ok (fun p hp => by simp at hp)) mixed [] Try.func110 (by kernel_rfl) (by kernel_rfl) (by kernel_rfl)
theorem sspec_GiveTubeOf : Sound Try.prog 41 Fspec_GiveTubeOf := sound_of (envL_ok (by simp only [List.forall_mem_cons, List.not_mem_nil, false_implies, implies_true, and_true]; exact ⟨sspec_l1In, sspec_l4Small, sspec_l4Level, sspec_l4Min, sspec_l4Max⟩)) mixed [4, 114] Try.func41 (by kernel_rfl) (by kernel_rfl) (by kernel_rfl)
theorem slaws_toGiveCell : Sound Try.prog 182 Flaws_toGiveCell := sound_of (envL_ok (fun p hp => by simp at hp)) mixed [1, 2, 3] Try.func182 (by kernel_rfl) (by kernel_rfl) (by kernel_rfl)
theorem slaws_toGiveCellS : Sound Try.prog 176 Flaws_toGiveCellS := sound_of (envL_ok (by simp only [List.forall_mem_cons, List.not_mem_nil, false_implies, implies_true, and_true]; exact slaws_toGiveCell)) mixed [] Try.func176 (by kernel_rfl) (by kernel_rfl) (by kernel_rfl)
theorem slaws_toGiveWay : Sound Try.prog 159 Flaws_toGiveWay := sound_of (envL_ok (by simp only [List.forall_mem_cons, List.not_mem_nil, false_implies, implies_true, and_true]; exact slaws_toGiveCellS)) mixed [1, 2, 3] Try.func159 (by kernel_rfl) (by kernel_rfl) (by kernel_rfl)
theorem slaws_toGiveWayS : Sound Try.prog 111 Flaws_toGiveWayS := sound_of (envL_ok (by simp only [List.forall_mem_cons, List.not_mem_nil, false_implies, implies_true, and_true]; exact slaws_toGiveWay)) mixed [] Try.func111 (by kernel_rfl) (by kernel_rfl) (by kernel_rfl)
theorem slaws_toIntS : Sound Try.prog 112 Flaws_toIntS := sound_of (envL_ok (fun p hp => by simp at hp)) mixed [] Try.func112 (by kernel_rfl) (by kernel_rfl) (by kernel_rfl)
theorem slaws_toGiveWish : Sound Try.prog 42 Flaws_toGiveWish := sound_of (envL_ok (by simp only [List.forall_mem_cons, List.not_mem_nil, false_implies, implies_true, and_true]; exact ⟨slaws_toGiveWayS, slaws_toIntS⟩)) mixed [1, 2, 3] Try.func42 (by kernel_rfl) (by kernel_rfl) (by kernel_rfl)
theorem simpl_GiveTubeOf_1 : Sound Try.prog 113 Fimpl_GiveTubeOf_1 := sound_of (envL_ok (fun p hp => by simp at hp)) mixed [] Try.func113 (by kernel_rfl) (by kernel_rfl) (by kernel_rfl)
theorem simpl_GiveTubeOf : Sound Try.prog 43 Fimpl_GiveTubeOf := sound_of (envL_ok (by simp only [List.forall_mem_cons, List.not_mem_nil, false_implies, implies_true, and_true]; exact ⟨simpl_in, simpl_GiveTubeOf_1⟩)) mixed [13, 118] Try.func43 (by kernel_rfl) (by kernel_rfl) (by kernel_rfl)
theorem slaws_eqGiveCell : Sound Try.prog 183 Flaws_eqGiveCell := sound_of (envL_ok (fun p hp => by simp at hp)) mixed [2, 3] Try.func183 (by kernel_rfl) (by kernel_rfl) (by kernel_rfl)
theorem slaws_eqGiveCellS : Sound Try.prog 177 Flaws_eqGiveCellS := sound_of (envL_ok (by simp only [List.forall_mem_cons, List.not_mem_nil, false_implies, implies_true, and_true]; exact slaws_eqGiveCell)) mixed [] Try.func177 (by kernel_rfl) (by kernel_rfl) (by kernel_rfl)
theorem slaws_eqGiveWay : Sound Try.prog 160 Flaws_eqGiveWay := sound_of (envL_ok (by simp only [List.forall_mem_cons, List.not_mem_nil, false_implies, implies_true, and_true]; exact slaws_eqGiveCellS)) mixed [2, 3] Try.func160 (by kernel_rfl) (by kernel_rfl) (by kernel_rfl)
theorem slaws_eqGiveWayS : Sound Try.prog 114 Flaws_eqGiveWayS := sound_of (envL_ok (by simp only [List.forall_mem_cons, List.not_mem_nil, false_implies, implies_true, and_true]; exact slaws_eqGiveWay)) mixed [] Try.func114 (by kernel_rfl) (by kernel_rfl) (by kernel_rfl)
theorem slaws_eqIntS : Sound Try.prog 115 Flaws_eqIntS := sound_of (envL_ok (fun p hp => by simp at hp)) mixed [] Try.func115 (by kernel_rfl) (by kernel_rfl) (by kernel_rfl)
theorem slaws_eqGiveWish : Sound Try.prog 44 Flaws_eqGiveWish := sound_of (envL_ok (by simp only [List.forall_mem_cons, List.not_mem_nil, false_implies, implies_true, and_true]; exact ⟨slaws_eqGiveWayS, slaws_eqIntS⟩)) mixed [2, 3] Try.func44 (by kernel_rfl) (by kernel_rfl) (by kernel_rfl)
theorem slaws_markGiveCellS : Sound Try.prog 161 Flaws_markGiveCellS := sound_of (envL_ok (fun p hp => by simp at hp)) mixed [] Try.func161 (by kernel_rfl) (by kernel_rfl) (by kernel_rfl)
theorem slaws_markGiveWayS : Sound Try.prog 116 Flaws_markGiveWayS := sound_of (envL_ok (by simp only [List.forall_mem_cons, List.not_mem_nil, false_implies, implies_true, and_true]; exact slaws_markGiveCellS)) mixed [] Try.func116 (by kernel_rfl) (by kernel_rfl) (by kernel_rfl)
theorem slaws_markIntS : Sound Try.prog 117 Flaws_markIntS := sound_of (envL_ok (fun p hp => by simp at hp)) mixed [] Try.func117 (by kernel_rfl) (by kernel_rfl) (by kernel_rfl)
theorem slaws_markGiveWish : Sound Try.prog 45 Flaws_markGiveWish := sound_of (envL_ok (by simp only [List.forall_mem_cons, List.not_mem_nil, false_implies, implies_true, and_true]; exact ⟨slaws_markGiveWayS, slaws_markIntS⟩)) mixed [2] Try.func45 (by kernel_rfl) (by kernel_rfl) (by kernel_rfl)
theorem slaws_FnExactGiveTubeOf : Sound Try.prog 8 Flaws_FnExactGiveTubeOf := sound_of (envL_ok (by simp only [List.forall_mem_cons, List.not_mem_nil, false_implies, implies_true, and_true]; exact ⟨slaws_eqGiveBoxS, slaws_markGiveBoxS, slaws_heldGiveBoxS, slaws_szGiveWish, sspec_GiveTubeOf, slaws_toGiveWish, simpl_GiveTubeOf, slaws_eqGiveWish, slaws_markGiveWish⟩)) mixed [4, 11] Try.func8 (by kernel_rfl) (by kernel_rfl) (by kernel_rfl)
theorem sspec_l1NameOk : Sound Try.prog 119 Fspec_l1NameOk := sound_of (envL_ok (by simp only [List.forall_mem_cons, List.not_mem_nil, false_implies, implies_true, and_true]; exact sspec_l1In)) mixed [] Try.func119 (by kernel_rfl) (by kernel_rfl) (by kernel_rfl)
theorem sspec_l2FieldsOk : Sound Try.prog 118 Fspec_l2FieldsOk := sound_of (envL_ok (by simp only [List.forall_mem_cons, List.not_mem_nil, false_implies, implies_true, and_true]; exact ⟨sspec_l1In, sspec_l1NameOk⟩)) mixed [4] Try.func118 (by kernel_rfl) (by kernel_rfl) (by kernel_rfl)
theorem sspec_l4Field : Sound Try.prog 162 Fspec_l4Field := sound_of (envL_ok (fun p hp => by simp at hp)) mixed [3] Try.func162 (by kernel_rfl) (by kernel_rfl) (by kernel_rfl)
theorem sspec_l4WayOk : Sound Try.prog 120 Fspec_l4WayOk := sound_of (envL_ok (by simp only [List.forall_mem_cons, List.not_mem_nil, false_implies, implies_true, and_true]; exact ⟨sspec_l1In, sspec_l4Field⟩)) mixed [3, 7] Try.func120 (by kernel_rfl) (by kernel_rfl) (by kernel_rfl)
theorem sspec_GiveWishOk : Sound Try.prog 46 Fspec_GiveWishOk := sound_of (envL_ok (by simp only [List.forall_mem_cons, List.not_mem_nil, false_implies, implies_true, and_true]; exact ⟨sspec_l1In, sspec_l2FieldsOk, sspec_l1NameOk, sspec_l4WayOk⟩)) mixed [3] Try.func46 (by kernel_rfl) (by kernel_rfl) (by kernel_rfl)
theorem simpl_name : Sound Try.prog 122 Fimpl_name := sound_of (envL_ok (by simp only [List.forall_mem_cons, List.not_mem_nil, false_implies, implies_true, and_true]; exact simpl_in)) mixed [] Try.func122 (by kernel_rfl) (by kernel_rfl) (by kernel_rfl)
theorem simpl_fieldsOk : Sound Try.prog 121 Fimpl_fieldsOk := sound_of (envL_ok (by simp only [List.forall_mem_cons, List.not_mem_nil, false_implies, implies_true, and_true]; exact ⟨simpl_in, simpl_isField, simpl_name⟩)) mixed [4] Try.func121 (by kernel_rfl) (by kernel_rfl) (by kernel_rfl)
theorem simpl_wayOk : Sound Try.prog 123 Fimpl_wayOk := sound_of (envL_ok (by simp only [List.forall_mem_cons, List.not_mem_nil, false_implies, implies_true, and_true]; exact ⟨simpl_in, simpl_isField⟩)) mixed [3, 6, 7, 8, 9] Try.func123 (by kernel_rfl) (by kernel_rfl) (by kernel_rfl)
theorem simpl_GiveWishOk : Sound Try.prog 47 Fimpl_GiveWishOk := sound_of (envL_ok (by simp only [List.forall_mem_cons, List.not_mem_nil, false_implies, implies_true, and_true]; exact ⟨simpl_in, simpl_fieldsOk, simpl_name, simpl_wayOk⟩)) mixed [3, 6] Try.func47 (by kernel_rfl) (by kernel_rfl) (by kernel_rfl)
theorem slaws_FnExactGiveWishOk : Sound Try.prog 9 Flaws_FnExactGiveWishOk := sound_of (envL_ok (by simp only [List.forall_mem_cons, List.not_mem_nil, false_implies, implies_true, and_true]; exact ⟨slaws_szGiveFieldS, slaws_toGiveFieldS, slaws_eqGiveFieldS, slaws_szGiveWish, slaws_toGiveWish, slaws_eqGiveWish, sspec_GiveWishOk, simpl_GiveWishOk⟩)) mixed [3, 8] Try.func9 (by kernel_rfl) (by kernel_rfl) (by kernel_rfl)

end Go.Abs
