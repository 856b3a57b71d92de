/-
  The codes of the functions, for the abstract machine (printed by wip/tools/gen3.py; not typed by hand).
-/
import Derived.Test.YtenccnpdaldkfaaBoxCode
namespace Go.Abs

/-! ### laws_szGiveField: function 90 -/
def claws_szGiveField : ACode := (.seq (.reg [2] [OP 2 (.boxL 3 (.t 0)),
 OP 4 (.mov (KI 0))])
((.seq (.reg [] [MV 5 1,
 FA 6 0 2,
 LD 7 6,
 OP 8 (.lenS (.t 7)),
 OP 9 (.bin .sub (.t 5) (.t 8)),
 MV 1 9])
((.seq ((.seq (.reg [] [MV 10 1,
 OP 11 (.bin .lss (.t 10) (KI 0))])
(.cond (.t 11) ((.seq (.reg [] [OP 4 (.mov (KI (-1)))])
(.ret))) (.skip))))
((.seq (.reg [] [MV 12 1,
 MV 4 12])
(.ret))))))))
noncomputable def elaws_szGiveField : Env := envL []
noncomputable def Flaws_szGiveField : Fun := runF elaws_szGiveField claws_szGiveField [.t 4]

/-! ### laws_szGiveFieldS: function 32 -/
def claws_szGiveFieldS_L0 : ACode := (.seq ((.seq (.reg [] [MV 12 5,
 MV 13 0,
 LE 14 13,
 OP 15 (.bin .lss (.t 12) (.t 14))])
(.cond (.t 15) (.skip) (.exit 0))))
((.seq (.block 1 ((.seq (.reg [] [MV 18 0,
 MV 19 5,
 IA 20 3 18 19,
 OP 21 (.loadN 3 (.t 20)),
 MV 22 1,
 OP 23 (.call 90 [.t 21, .t 22]),
 MV 1 23])
((.seq (.reg [] [MV 24 1,
 OP 25 (.bin .lss (.t 24) (KI 0))])
(.cond (.t 25) ((.seq (.reg [] [OP 4 (.mov (KI (-1)))])
(.ret))) (.skip)))))))
(.reg [] [MV 16 5,
 OP 17 (.bin .add (.t 16) (KI 1)),
 MV 5 17]))))
def claws_szGiveFieldS : ACode := (.seq (.reg [] [OP 4 (.mov (KI 0))])
((.seq (.reg [] [MV 6 1,
 MV 7 0,
 LE 8 7,
 OP 9 (.bin .sub (.t 6) (.t 8)),
 MV 1 9])
((.seq ((.seq (.reg [] [MV 10 1,
 OP 11 (.bin .lss (.t 10) (KI 0))])
(.cond (.t 11) ((.seq (.reg [] [OP 4 (.mov (KI (-1)))])
(.ret))) (.skip))))
((.seq ((.seq (.reg [] [OP 5 (.mov (KI 0))])
(.block 0 (.loop claws_szGiveFieldS_L0))))
((.seq (.reg [] [MV 26 1,
 MV 4 26])
(.ret))))))))))
noncomputable def elaws_szGiveFieldS : Env := envL [(90, Flaws_szGiveField)]
noncomputable def Flaws_szGiveFieldS : Fun := runF elaws_szGiveFieldS claws_szGiveFieldS [.t 4]
theorem elaws_szGiveFieldS_laws_szGiveField : elaws_szGiveFieldS 90 = some Flaws_szGiveField := by simp [elaws_szGiveFieldS, envL_cons]

/-! ### spec_l1Next: function 93 -/
def cspec_l1Next : ACode := (.seq (.reg [2, 3] [OP 2 (.boxL 6 (.t 0)),
 OP 3 (.boxL 6 (.t 1)),
 MF 4])
((.seq (.reg [] [FA 5 0 2,
 LD 6 5,
 FA 7 0 3,
 LD 8 7,
 OP 9 (.bin .sub (.t 6) (.t 8)),
 OP 10 (.call 91 [.t 9, KI (-1), KI 1]),
 MV 11 10,
 OT 12 11 (.faddr 1 (.t 2)),
 OT 13 11 (.load1 (.t 12)),
 OT 14 11 (.faddr 1 (.t 3)),
 OT 15 11 (.load1 (.t 14)),
 OT 16 11 (.bin .sub (.t 13) (.t 15)),
 OT 17 11 (.call 91 [.t 16, KI (-1), KI 1]),
 OP 18 (.pick (.t 11) (.t 17) KF),
 MV 19 18,
 OT 20 19 (.faddr 2 (.t 2)),
 OT 21 19 (.load1 (.t 20)),
 OT 22 19 (.faddr 3 (.t 3)),
 OT 23 19 (.load1 (.t 22)),
 OT 24 19 (.bin .leq (.t 21) (.t 23)),
 OP 25 (.pick (.t 19) (.t 24) KF),
 MV 26 25,
 OT 27 26 (.faddr 2 (.t 3)),
 OT 28 26 (.load1 (.t 27)),
 OT 29 26 (.faddr 3 (.t 2)),
 OT 30 26 (.load1 (.t 29)),
 OT 31 26 (.bin .leq (.t 28) (.t 30)),
 OP 32 (.pick (.t 26) (.t 31) KF),
 MV 33 32,
 OT 34 33 (.faddr 4 (.t 2)),
 OT 35 33 (.load1 (.t 34)),
 OT 36 33 (.faddr 4 (.t 3)),
 OT 37 33 (.load1 (.t 36)),
 OT 38 33 (.bin .leq (.t 35) (.t 37)),
 OP 39 (.pick (.t 33) (.t 38) KF),
 MV 40 39,
 OT 41 40 (.faddr 5 (.t 2)),
 OT 42 40 (.load1 (.t 41)),
 OT 43 40 (.faddr 5 (.t 3)),
 OT 44 40 (.load1 (.t 43)),
 OT 45 40 (.bin .leq (.t 42) (.t 44)),
 OP 46 (.pick (.t 40) (.t 45) KF),
 MV 47 46,
 OT 48 47 (.faddr 4 (.t 3)),
 OT 49 47 (.load1 (.t 48)),
 OT 50 47 (.faddr 5 (.t 2)),
 OT 51 47 (.load1 (.t 50)),
 OT 52 47 (.bin .add (.t 51) (KI 1)),
 OT 53 47 (.bin .leq (.t 49) (.t 52)),
 OP 54 (.pick (.t 47) (.t 53) KF),
 MV 4 54])
(.ret))))
noncomputable def espec_l1Next : Env := envL [(91, Fspec_l1In)]
noncomputable def Fspec_l1Next : Fun := runF espec_l1Next cspec_l1Next [.t 4]
theorem espec_l1Next_spec_l1In : espec_l1Next 91 = some Fspec_l1In := by simp [espec_l1Next, envL_cons]

/-! ### spec_l1Ground: function 94 -/
def cspec_l1Ground_L0 : ACode := (.seq ((.seq (.reg [] [MV 6 5,
 MV 7 0,
 LE 8 7,
 OP 9 (.bin .lss (.t 6) (.t 8))])
(.cond (.t 9) (.skip) (.exit 0))))
((.seq (.block 1 ((.seq (.regD [] [MV 12 0,
 MV 13 5,
 IA 14 3 12 13,
 FA 15 1 14,
 LD 16 15,
 FA 17 0 3,
 LD 18 17,
 OP 19 (.bin .eql (.t 16) (.t 18)),
 MV 20 19,
 OT 21 20 (.mov (.t 0)),
 OT 22 20 (.mov (.t 5)),
 OT 23 20 (.iaddr 3 (.t 21) (.t 22)),
 OT 24 20 (.faddr 2 (.t 23)),
 OT 25 20 (.load1 (.t 24)),
 OT 26 20 (.faddr 1 (.t 3)),
 OT 27 20 (.load1 (.t 26)),
 OT 28 20 (.bin .eql (.t 25) (.t 27)),
 OP 29 (.pick (.t 20) (.t 28) KF),
 MV 30 29,
 OT 31 30 (.faddr 2 (.t 3)),
 OT 32 30 (.load1 (.t 31)),
 OT 33 30 (.bin .eql (.t 32) (KI 0)),
 OP 34 (.pick (.t 30) (.t 33) KF)] [])
(.cond (.t 34) ((.seq (.reg [] [OP 4 (.mov KT)])
(.ret))) (.skip)))))
(.reg [] [MV 10 5,
 OP 11 (.bin .add (.t 10) (KI 1)),
 MV 5 11]))))
def cspec_l1Ground : ACode := (.seq (.reg [3] [OP 3 (.boxL 6 (.t 1)),
 MF 4])
((.seq ((.seq (.reg [] [OP 5 (.mov (KI 0))])
(.block 0 (.loop cspec_l1Ground_L0))))
((.seq (.reg [] [MF 4])
(.ret))))))
noncomputable def espec_l1Ground : Env := envL []
noncomputable def Fspec_l1Ground : Fun := runF espec_l1Ground cspec_l1Ground [.t 4]

/-! ### spec_GiveTubeOk: function 33 -/
def cspec_GiveTubeOk_L0 : ACode := (.seq ((.seq (.reg [] [MV 10 5,
 MV 11 1,
 LE 12 11,
 OP 13 (.bin .lss (.t 10) (.t 12))])
(.cond (.t 13) (.skip) (.exit 0))))
((.seq (.block 1 ((.seq (.regD [] [MV 16 1,
 MV 17 5,
 IA 18 6 16 17,
 OP 19 (.loadN 6 (.t 18)),
 OP 20 (.call 92 [.t 19]),
 OP 21 (.un .not (.t 20)),
 MV 22 21,
 OF 23 22 (.mov (.t 5)),
 OF 24 22 (.bin .gtr (.t 23) (KI 0)),
 OF 25 22 (.mov (.t 24)),
 OT 26 25 (.mov (.t 1)),
 OT 27 25 (.mov (.t 5)),
 OT 28 25 (.bin .sub (.t 27) (KI 1)),
 OT 29 25 (.iaddr 6 (.t 26) (.t 28)),
 OT 30 25 (.loadN 6 (.t 29)),
 OT 31 25 (.mov (.t 1)),
 OT 32 25 (.mov (.t 5)),
 OT 33 25 (.iaddr 6 (.t 31) (.t 32)),
 OT 34 25 (.loadN 6 (.t 33)),
 OT 35 25 (.call 93 [.t 30, .t 34]),
 OT 36 25 (.un .not (.t 35)),
 OF 37 22 (.pick (.t 25) (.t 36) KF),
 OP 38 (.pick (.t 22) KT (.t 37))] [])
(.cond (.t 38) ((.seq (.reg [] [MF 4])
(.ret))) (.skip)))))
(.reg [] [MV 14 5,
 OP 15 (.bin .add (.t 14) (KI 1)),
 MV 5 15]))))
def cspec_GiveTubeOk : ACode := (.seq (.reg [] [MF 4])
((.seq ((.seq (.reg [] [MV 6 1,
 LE 7 6,
 OP 8 (.call 91 [.t 7, KI 1, KI 40]),
 OP 9 (.un .not (.t 8))])
(.cond (.t 9) ((.seq (.reg [] [MF 4])
(.ret))) (.skip))))
((.seq ((.seq (.reg [] [OP 5 (.mov (KI 0))])
(.block 0 (.loop cspec_GiveTubeOk_L0))))
((.seq (.reg [] [MV 39 0,
 MV 40 1,
 MV 41 1,
 LE 42 41,
 OP 43 (.bin .sub (.t 42) (KI 1)),
 IA 44 6 40 43,
 OP 45 (.loadN 6 (.t 44)),
 OP 46 (.call 94 [.t 39, .t 45]),
 MV 4 46])
(.ret))))))))
noncomputable def espec_GiveTubeOk : Env := envL [(91, Fspec_l1In), (92, Fspec_l1BoxOk), (93, Fspec_l1Next), (94, Fspec_l1Ground)]
noncomputable def Fspec_GiveTubeOk : Fun := runF espec_GiveTubeOk cspec_GiveTubeOk [.t 4]
theorem espec_GiveTubeOk_spec_l1In : espec_GiveTubeOk 91 = some Fspec_l1In := by simp [espec_GiveTubeOk, envL_cons]
theorem espec_GiveTubeOk_spec_l1BoxOk : espec_GiveTubeOk 92 = some Fspec_l1BoxOk := by simp [espec_GiveTubeOk, envL_cons]
theorem espec_GiveTubeOk_spec_l1Next : espec_GiveTubeOk 93 = some Fspec_l1Next := by simp [espec_GiveTubeOk, envL_cons]
theorem espec_GiveTubeOk_spec_l1Ground : espec_GiveTubeOk 94 = some Fspec_l1Ground := by simp [espec_GiveTubeOk, envL_cons]

/-! ### laws_toGiveField: function 95 -/
def claws_toGiveField : ACode := (.seq (.reg [1, 2] [OP 1 (.boxL 3 (.t 0)),
 ⟨some 2, .allocL 3 [.str ⟨#[]⟩, .int .i64 0, .int .i64 0], none⟩])
((.seq (.reg [3] [⟨some 3, .allocL 3 [.str ⟨#[]⟩, .int .i64 0, .int .i64 0], none⟩])
((.seq (.reg [] [FA 4 0 1,
 LD 5 4,
 FA 6 0 3,
 OX (.store 1 (.t 6) (.t 5))])
((.seq (.reg [] [FA 7 1 1,
 LD 8 7,
 FA 9 1 3,
 OX (.store 1 (.t 9) (.t 8))])
((.seq (.reg [] [FA 10 2 1,
 LD 11 10,
 FA 12 2 3,
 OX (.store 1 (.t 12) (.t 11))])
((.seq (.reg [] [OP 13 (.loadN 3 (.t 3)),
 OX (.store 3 (.t 2) (.t 13))])
(.ret))))))))))))
noncomputable def elaws_toGiveField : Env := envL []
noncomputable def Flaws_toGiveField : Fun := runF elaws_toGiveField claws_toGiveField [.cellN 2 3]

/-! ### laws_toGiveFieldS: function 34 -/
def claws_toGiveFieldS_L0 : ACode := (.seq ((.seq (.reg [] [MV 8 4,
 MV 9 0,
 LE 10 9,
 OP 11 (.bin .lss (.t 8) (.t 10))])
(.cond (.t 11) (.skip) (.exit 0))))
((.seq (.block 1 (.reg [] [MV 14 3,
 MV 15 4,
 MV 16 0,
 MV 17 4,
 IA 18 3 16 17,
 OP 19 (.loadN 3 (.t 18)),
 OP 20 (.call 95 [.t 19]),
 IA 21 3 14 15,
 OX (.store 3 (.t 21) (.t 20))]))
(.reg [] [MV 12 4,
 OP 13 (.bin .add (.t 12) (KI 1)),
 MV 4 13]))))
def claws_toGiveFieldS : ACode := (.seq (.reg [] [OP 2 (.mov KN)])
((.seq (.reg [] [MV 5 0,
 LE 6 5,
 ⟨some 7, .make 3 [.str ⟨#[]⟩, .int .i64 0, .int .i64 0] (.t 6) (.t 6), none⟩,
 MV 3 7])
((.seq ((.seq (.reg [] [OP 4 (.mov (KI 0))])
(.block 0 (.loop claws_toGiveFieldS_L0))))
((.seq (.reg [] [MV 22 3,
 MV 2 22])
(.ret))))))))
noncomputable def elaws_toGiveFieldS : Env := envL [(95, Flaws_toGiveField)]
noncomputable def Flaws_toGiveFieldS : Fun := runF elaws_toGiveFieldS claws_toGiveFieldS [.t 2]
theorem elaws_toGiveFieldS_laws_toGiveField : elaws_toGiveFieldS 95 = some Flaws_toGiveField := by simp [elaws_toGiveFieldS, envL_cons]

/-! ### impl_isField: function 98 -/
def cimpl_isField_L0 : ACode := (.seq (.reg [] [OP 12 (.bin .lss (.t 11) (.t 10))])
((.seq (.cond (.t 12) (.skip) (.exit 0))
((.seq (.block 1 ((.seq (.reg [8] [IA 13 3 9 11,
 OP 14 (.loadN 3 (.t 13)),
 ⟨some 8, .allocL 3 [.str ⟨#[]⟩, .int .i64 0, .int .i64 0], none⟩,
 OX (.store 3 (.t 8) (.t 14))])
((.seq (.reg [] [FA 15 1 8,
 LD 16 15,
 MV 17 1,
 OP 18 (.bin .eql (.t 16) (.t 17)),
 MV 19 18,
 OT 20 19 (.faddr 2 (.t 8)),
 OT 21 19 (.load1 (.t 20)),
 OT 22 19 (.mov (.t 2)),
 OT 23 19 (.bin .eql (.t 21) (.t 22)),
 OP 24 (.pick (.t 19) (.t 23) KF)])
(.cond (.t 24) ((.seq (.reg [] [OP 6 (.mov KT)])
(.ret))) (.skip)))))))
(.reg [] [OP 25 (.bin .add (.t 11) (KI 1)),
 MV 11 25]))))))
def cimpl_isField : ACode := (.seq (.reg [] [MF 6])
((.seq ((.seq (.reg [] [MV 9 0,
 LE 10 9,
 OP 11 (.mov (KI 0))])
(.block 0 (.loop cimpl_isField_L0))))
((.seq (.reg [] [MF 6])
(.ret))))))
noncomputable def eimpl_isField : Env := envL []
noncomputable def Fimpl_isField : Fun := runF eimpl_isField cimpl_isField [.t 6]

/-! ### impl_GiveTubeOk: function 35 -/
def cimpl_GiveTubeOk_L0 : ACode := (.seq (.reg [] [OP 16 (.bin .lss (.t 15) (.t 14))])
((.seq (.cond (.t 16) (.skip) (.exit 0))
((.seq (.block 1 ((.seq (.reg [6] [MV 17 15,
 IA 18 6 13 15,
 OP 19 (.loadN 6 (.t 18)),
 OP 6 (.allocL 6 Z6),
 MV 5 17,
 OX (.store 6 (.t 6) (.t 19))])
((.seq ((.seq (.reg [] [OP 20 (.loadN 6 (.t 6)),
 OP 21 (.call 97 [.t 20]),
 OP 22 (.un .not (.t 21))])
(.cond (.t 22) ((.seq (.reg [] [MF 4])
(.ret))) (.skip))))
((.seq ((.seq (.reg [] [MV 23 5,
 OP 24 (.bin .eql (.t 23) (KI 0))])
(.cond (.t 24) (.exit 1) (.skip))))
((.seq (.reg [7] [MV 25 1,
 MV 26 5,
 OP 27 (.bin .sub (.t 26) (KI 1)),
 IA 28 6 25 27,
 OP 29 (.loadN 6 (.t 28)),
 OP 7 (.allocL 6 Z6),
 OX (.store 6 (.t 7) (.t 29))])
((.seq (.reg [] [FA 30 0 6,
 LD 31 30,
 FA 32 0 7,
 LD 33 32,
 OP 34 (.bin .sub (.t 31) (.t 33)),
 OP 35 (.call 96 [.t 34, KI (-1), KI 1]),
 OP 36 (.un .not (.t 35)),
 MV 37 36,
 OF 38 37 (.faddr 1 (.t 6)),
 OF 39 37 (.load1 (.t 38)),
 OF 40 37 (.faddr 1 (.t 7)),
 OF 41 37 (.load1 (.t 40)),
 OF 42 37 (.bin .sub (.t 39) (.t 41)),
 OF 43 37 (.call 96 [.t 42, KI (-1), KI 1]),
 OF 44 37 (.un .not (.t 43)),
 OP 45 (.pick (.t 37) KT (.t 44)),
 MV 46 45,
 OF 47 46 (.faddr 2 (.t 7)),
 OF 48 46 (.load1 (.t 47)),
 OF 49 46 (.faddr 2 (.t 6)),
 OF 50 46 (.load1 (.t 49)),
 OF 51 46 (.maxs [.t 48, .t 50]),
 OF 52 46 (.faddr 3 (.t 7)),
 OF 53 46 (.load1 (.t 52)),
 OF 54 46 (.faddr 3 (.t 6)),
 OF 55 46 (.load1 (.t 54)),
 OF 56 46 (.mins [.t 53, .t 55]),
 OF 57 46 (.bin .gtr (.t 51) (.t 56)),
 OP 58 (.pick (.t 46) KT (.t 57)),
 MV 59 58,
 OF 60 59 (.faddr 4 (.t 6)),
 OF 61 59 (.load1 (.t 60)),
 OF 62 59 (.faddr 4 (.t 7)),
 OF 63 59 (.load1 (.t 62)),
 OF 64 59 (.bin .lss (.t 61) (.t 63)),
 OP 65 (.pick (.t 59) KT (.t 64)),
 MV 66 65,
 OF 67 66 (.faddr 5 (.t 6)),
 OF 68 66 (.load1 (.t 67)),
 OF 69 66 (.faddr 5 (.t 7)),
 OF 70 66 (.load1 (.t 69)),
 OF 71 66 (.bin .lss (.t 68) (.t 70)),
 OP 72 (.pick (.t 66) KT (.t 71)),
 MV 73 72,
 OF 74 73 (.faddr 4 (.t 6)),
 OF 75 73 (.load1 (.t 74)),
 OF 76 73 (.faddr 5 (.t 7)),
 OF 77 73 (.load1 (.t 76)),
 OF 78 73 (.bin .add (.t 77) (KI 1)),
 OF 79 73 (.bin .gtr (.t 75) (.t 78)),
 OP 80 (.pick (.t 73) KT (.t 79))])
(.cond (.t 80) ((.seq (.reg [] [MF 4])
(.ret))) (.skip)))))))))))))
(.reg [] [OP 81 (.bin .add (.t 15) (KI 1)),
 MV 15 81]))))))
def cimpl_GiveTubeOk : ACode := (.seq (.reg [] [MF 4])
((.seq ((.seq (.reg [] [MV 9 1,
 LE 10 9,
 OP 11 (.call 96 [.t 10, KI 1, KI 40]),
 OP 12 (.un .not (.t 11))])
(.cond (.t 12) ((.seq (.reg [] [MF 4])
(.ret))) (.skip))))
((.seq ((.seq (.reg [] [MV 13 1,
 LE 14 13,
 OP 15 (.mov (KI 0))])
(.block 0 (.loop cimpl_GiveTubeOk_L0))))
((.seq (.reg [8] [MV 82 1,
 MV 83 1,
 LE 84 83,
 OP 85 (.bin .sub (.t 84) (KI 1)),
 IA 86 6 82 85,
 OP 87 (.loadN 6 (.t 86)),
 OP 8 (.allocL 6 Z6),
 OX (.store 6 (.t 8) (.t 87))])
((.seq (.reg [] [FA 88 2 8,
 LD 89 88,
 OP 90 (.bin .eql (.t 89) (KI 0)),
 MV 91 90,
 OT 92 91 (.mov (.t 0)),
 OT 93 91 (.faddr 0 (.t 8)),
 OT 94 91 (.load1 (.t 93)),
 OT 95 91 (.faddr 1 (.t 8)),
 OT 96 91 (.load1 (.t 95)),
 OT 97 91 (.call 98 [.t 92, .t 94, .t 96]),
 OP 98 (.pick (.t 91) (.t 97) KF),
 MV 4 98])
(.ret))))))))))
noncomputable def eimpl_GiveTubeOk : Env := envL [(96, Fimpl_in), (97, Fimpl_boxOk), (98, Fimpl_isField)]
noncomputable def Fimpl_GiveTubeOk : Fun := runF eimpl_GiveTubeOk cimpl_GiveTubeOk [.t 4]
theorem eimpl_GiveTubeOk_impl_in : eimpl_GiveTubeOk 96 = some Fimpl_in := by simp [eimpl_GiveTubeOk, envL_cons]
theorem eimpl_GiveTubeOk_impl_boxOk : eimpl_GiveTubeOk 97 = some Fimpl_boxOk := by simp [eimpl_GiveTubeOk, envL_cons]
theorem eimpl_GiveTubeOk_impl_isField : eimpl_GiveTubeOk 98 = some Fimpl_isField := by simp [eimpl_GiveTubeOk, envL_cons]

/-! ### laws_eqGiveField: function 99 -/
def claws_eqGiveField : ACode := (.seq (.reg [2, 3] [OP 2 (.boxL 3 (.t 0)),
 OP 3 (.boxL 3 (.t 1)),
 MF 4])
((.seq ((.seq (.reg [] [FA 5 0 2,
 LD 6 5,
 FA 7 0 3,
 LD 8 7,
 OP 9 (.bin .neq (.t 6) (.t 8))])
(.cond (.t 9) ((.seq (.reg [] [MF 4])
(.ret))) (.skip))))
((.seq ((.seq (.reg [] [FA 10 1 2,
 LD 11 10,
 FA 12 1 3,
 LD 13 12,
 OP 14 (.bin .neq (.t 11) (.t 13))])
(.cond (.t 14) ((.seq (.reg [] [MF 4])
(.ret))) (.skip))))
((.seq ((.seq (.reg [] [FA 15 2 2,
 LD 16 15,
 FA 17 2 3,
 LD 18 17,
 OP 19 (.bin .neq (.t 16) (.t 18))])
(.cond (.t 19) ((.seq (.reg [] [MF 4])
(.ret))) (.skip))))
((.seq (.reg [] [OP 4 (.mov KT)])
(.ret))))))))))
noncomputable def elaws_eqGiveField : Env := envL []
noncomputable def Flaws_eqGiveField : Fun := runF elaws_eqGiveField claws_eqGiveField [.t 4]

/-! ### laws_eqGiveFieldS: function 36 -/
def claws_eqGiveFieldS_L0 : ACode := (.seq ((.seq (.reg [] [MV 11 5,
 MV 12 0,
 LE 13 12,
 OP 14 (.bin .lss (.t 11) (.t 13))])
(.cond (.t 14) (.skip) (.exit 0))))
((.seq (.block 1 ((.seq (.regD [] [MV 17 0,
 MV 18 5,
 IA 19 3 17 18,
 OP 20 (.loadN 3 (.t 19)),
 MV 21 1,
 MV 22 5,
 IA 23 3 21 22,
 OP 24 (.loadN 3 (.t 23)),
 OP 25 (.call 99 [.t 20, .t 24]),
 OP 26 (.un .not (.t 25))] [])
(.cond (.t 26) ((.seq (.reg [] [MF 4])
(.ret))) (.skip)))))
(.reg [] [MV 15 5,
 OP 16 (.bin .add (.t 15) (KI 1)),
 MV 5 16]))))
def claws_eqGiveFieldS : ACode := (.seq (.reg [] [MF 4])
((.seq ((.seq (.reg [] [MV 6 0,
 LE 7 6,
 MV 8 1,
 LE 9 8,
 OP 10 (.bin .neq (.t 7) (.t 9))])
(.cond (.t 10) ((.seq (.reg [] [MF 4])
(.ret))) (.skip))))
((.seq ((.seq (.reg [] [OP 5 (.mov (KI 0))])
(.block 0 (.loop claws_eqGiveFieldS_L0))))
((.seq (.reg [] [OP 4 (.mov KT)])
(.ret))))))))
noncomputable def elaws_eqGiveFieldS : Env := envL [(99, Flaws_eqGiveField)]
noncomputable def Flaws_eqGiveFieldS : Fun := runF elaws_eqGiveFieldS claws_eqGiveFieldS [.t 4]
theorem elaws_eqGiveFieldS_laws_eqGiveField : elaws_eqGiveFieldS 99 = some Flaws_eqGiveField := by simp [elaws_eqGiveFieldS, envL_cons]

/-! ### laws_FnExactGiveTubeOk: function 6 -/
def claws_FnExactGiveTubeOk : ACode := (.seq (.reg [] [MF 4])
((.seq (.reg [] [OP 5 (.mov (KI 1048576))])
((.seq (.reg [] [MV 10 0,
 MV 11 5,
 OP 12 (.call 32 [.t 10, .t 11]),
 MV 5 12])
((.seq ((.seq (.reg [] [MV 13 5,
 OP 14 (.bin .lss (.t 13) (KI 0))])
(.cond (.t 14) ((.seq (.reg [] [OP 4 (.mov KT)])
(.ret))) (.skip))))
((.seq (.reg [] [MV 15 1,
 MV 16 5,
 OP 17 (.call 23 [.t 15, .t 16]),
 MV 5 17])
((.seq ((.seq (.reg [] [MV 18 5,
 OP 19 (.bin .lss (.t 18) (KI 0))])
(.cond (.t 19) ((.seq (.reg [] [OP 4 (.mov KT)])
(.ret))) (.skip))))
((.seq (.reg [] [MV 20 0,
 OP 21 (.call 34 [.t 20]),
 MV 22 1,
 OP 23 (.call 25 [.t 22]),
 OP 24 (.call 33 [.t 21, .t 23]),
 MV 6 24])
((.seq (.reg [] [MV 25 0,
 OP 26 (.call 34 [.t 25]),
 MV 7 26])
((.seq (.reg [] [MV 27 1,
 OP 28 (.call 25 [.t 27]),
 MV 8 28])
((.seq (.reg [] [MV 29 7,
 MV 30 8,
 OP 31 (.call 35 [.t 29, .t 30]),
 MV 9 31])
((.seq ((.seq (.reg [] [MV 32 9,
 MV 33 6,
 OP 34 (.binB true (.t 32) (.t 33))])
(.cond (.t 34) ((.seq (.reg [] [MF 4])
(.ret))) (.skip))))
((.seq ((.seq (.reg [] [MV 35 7,
 MV 36 0,
 OP 37 (.call 34 [.t 36]),
 OP 38 (.call 36 [.t 35, .t 37]),
 OP 39 (.un .not (.t 38))])
(.cond (.t 39) ((.seq (.reg [] [MF 4])
(.ret))) (.skip))))
((.seq ((.seq (.reg [] [MV 40 8,
 MV 41 1,
 OP 42 (.call 25 [.t 41]),
 OP 43 (.call 27 [.t 40, .t 42]),
 OP 44 (.un .not (.t 43))])
(.cond (.t 44) ((.seq (.reg [] [MF 4])
(.ret))) (.skip))))
((.seq (.reg [] [OP 4 (.mov KT)])
(.ret))))))))))))))))))))))))))))
noncomputable def elaws_FnExactGiveTubeOk : Env := envL [(23, Flaws_szGiveBoxS), (25, Flaws_toGiveBoxS), (27, Flaws_eqGiveBoxS), (32, Flaws_szGiveFieldS), (33, Fspec_GiveTubeOk), (34, Flaws_toGiveFieldS), (35, Fimpl_GiveTubeOk), (36, Flaws_eqGiveFieldS)]
noncomputable def Flaws_FnExactGiveTubeOk : Fun := runF elaws_FnExactGiveTubeOk claws_FnExactGiveTubeOk [.t 4]
theorem elaws_FnExactGiveTubeOk_laws_szGiveBoxS : elaws_FnExactGiveTubeOk 23 = some Flaws_szGiveBoxS := by simp [elaws_FnExactGiveTubeOk, envL_cons]
theorem elaws_FnExactGiveTubeOk_laws_toGiveBoxS : elaws_FnExactGiveTubeOk 25 = some Flaws_toGiveBoxS := by simp [elaws_FnExactGiveTubeOk, envL_cons]
theorem elaws_FnExactGiveTubeOk_laws_eqGiveBoxS : elaws_FnExactGiveTubeOk 27 = some Flaws_eqGiveBoxS := by simp [elaws_FnExactGiveTubeOk, envL_cons]
theorem elaws_FnExactGiveTubeOk_laws_szGiveFieldS : elaws_FnExactGiveTubeOk 32 = some Flaws_szGiveFieldS := by simp [elaws_FnExactGiveTubeOk, envL_cons]
theorem elaws_FnExactGiveTubeOk_spec_GiveTubeOk : elaws_FnExactGiveTubeOk 33 = some Fspec_GiveTubeOk := by simp [elaws_FnExactGiveTubeOk, envL_cons]
theorem elaws_FnExactGiveTubeOk_laws_toGiveFieldS : elaws_FnExactGiveTubeOk 34 = some Flaws_toGiveFieldS := by simp [elaws_FnExactGiveTubeOk, envL_cons]
theorem elaws_FnExactGiveTubeOk_impl_GiveTubeOk : elaws_FnExactGiveTubeOk 35 = some Fimpl_GiveTubeOk := by simp [elaws_FnExactGiveTubeOk, envL_cons]
theorem elaws_FnExactGiveTubeOk_laws_eqGiveFieldS : elaws_FnExactGiveTubeOk 36 = some Flaws_eqGiveFieldS := by simp [elaws_FnExactGiveTubeOk, envL_cons]

end Go.Abs
