/-
  The codes of the functions, for the abstract machine (printed by wip/tools/gen3.py; not typed by hand).
-/
import Derived.Test.YtenccnpdaldkfaaB58efe
set_option linter.unusedSimpArgs false
set_option linter.unusedVariables false
namespace Go.Abs

/-! ### laws_szGiveHeld: function 163 -/
def claws_szGiveHeld : ACode := (.seq (.reg [2] [OP 2 (.boxL 3 (.t 0)),
 OP 4 (.mov (KI 0))])
((.seq (.reg [] [MV 5 1,
 FA 6 0 2,
 LD 7 6,
 OP 8 (.lenS (.t 7)),
 OP 9 (.bin .sub (.t 5) (.t 8)),
 MV 1 9])
((.seq ((.seq (.reg [] [MV 10 1,
 OP 11 (.bin .lss (.t 10) (KI 0))])
(.cond (.t 11) ((.seq (.reg [] [OP 4 (.mov (KI (-1)))])
(.ret))) (.skip))))
((.seq (.reg [] [FA 12 1 2,
 LD 13 12,
 MV 14 1,
 OP 15 (.call 23 [.t 13, .t 14]),
 MV 1 15])
((.seq ((.seq (.reg [] [MV 16 1,
 OP 17 (.bin .lss (.t 16) (KI 0))])
(.cond (.t 17) ((.seq (.reg [] [OP 4 (.mov (KI (-1)))])
(.ret))) (.skip))))
((.seq (.reg [] [FA 18 2 2,
 LD 19 18,
 MV 20 1,
 OP 21 (.call 23 [.t 19, .t 20]),
 MV 1 21])
((.seq ((.seq (.reg [] [MV 22 1,
 OP 23 (.bin .lss (.t 22) (KI 0))])
(.cond (.t 23) ((.seq (.reg [] [OP 4 (.mov (KI (-1)))])
(.ret))) (.skip))))
((.seq (.reg [] [MV 24 1,
 MV 4 24])
(.ret))))))))))))))))
noncomputable def elaws_szGiveHeld : Env := envL [(23, Flaws_szGiveBoxS)]
noncomputable def Flaws_szGiveHeld : Fun := runF elaws_szGiveHeld claws_szGiveHeld [.t 4]
theorem elaws_szGiveHeld_laws_szGiveBoxS : elaws_szGiveHeld 23 = some Flaws_szGiveBoxS := by simp [elaws_szGiveHeld, envL_cons]

/-! ### laws_szGiveHeldS: function 124 -/
def claws_szGiveHeldS_L0 : ACode := (.seq ((.seq (.reg [] [MV 12 5,
 MV 13 0,
 LE 14 13,
 OP 15 (.bin .lss (.t 12) (.t 14))])
(.cond (.t 15) (.skip) (.exit 0))))
((.seq (.block 1 ((.seq (.reg [] [MV 18 0,
 MV 19 5,
 IA 20 3 18 19,
 OP 21 (.loadN 3 (.t 20)),
 MV 22 1,
 OP 23 (.call 163 [.t 21, .t 22]),
 MV 1 23])
((.seq (.reg [] [MV 24 1,
 OP 25 (.bin .lss (.t 24) (KI 0))])
(.cond (.t 25) ((.seq (.reg [] [OP 4 (.mov (KI (-1)))])
(.ret))) (.skip)))))))
(.reg [] [MV 16 5,
 OP 17 (.bin .add (.t 16) (KI 1)),
 MV 5 17]))))
def claws_szGiveHeldS : ACode := (.seq (.reg [] [OP 4 (.mov (KI 0))])
((.seq (.reg [] [MV 6 1,
 MV 7 0,
 LE 8 7,
 OP 9 (.bin .sub (.t 6) (.t 8)),
 MV 1 9])
((.seq ((.seq (.reg [] [MV 10 1,
 OP 11 (.bin .lss (.t 10) (KI 0))])
(.cond (.t 11) ((.seq (.reg [] [OP 4 (.mov (KI (-1)))])
(.ret))) (.skip))))
((.seq ((.seq (.reg [] [OP 5 (.mov (KI 0))])
(.block 0 (.loop claws_szGiveHeldS_L0))))
((.seq (.reg [] [MV 26 1,
 MV 4 26])
(.ret))))))))))
noncomputable def elaws_szGiveHeldS : Env := envL [(163, Flaws_szGiveHeld)]
noncomputable def Flaws_szGiveHeldS : Fun := runF elaws_szGiveHeldS claws_szGiveHeldS [.t 4]
theorem elaws_szGiveHeldS_laws_szGiveHeld : elaws_szGiveHeldS 163 = some Flaws_szGiveHeld := by simp [elaws_szGiveHeldS, envL_cons]

/-! ### laws_szGiveBook: function 48 -/
def claws_szGiveBook : ACode := (.seq (.reg [2] [OP 2 (.boxL 3 (.t 0)),
 OP 4 (.mov (KI 0))])
((.seq (.reg [] [FA 5 1 2,
 LD 6 5,
 MV 7 1,
 OP 8 (.call 32 [.t 6, .t 7]),
 MV 1 8])
((.seq ((.seq (.reg [] [MV 9 1,
 OP 10 (.bin .lss (.t 9) (KI 0))])
(.cond (.t 10) ((.seq (.reg [] [OP 4 (.mov (KI (-1)))])
(.ret))) (.skip))))
((.seq (.reg [] [FA 11 2 2,
 LD 12 11,
 MV 13 1,
 OP 14 (.call 124 [.t 12, .t 13]),
 MV 1 14])
((.seq ((.seq (.reg [] [MV 15 1,
 OP 16 (.bin .lss (.t 15) (KI 0))])
(.cond (.t 16) ((.seq (.reg [] [OP 4 (.mov (KI (-1)))])
(.ret))) (.skip))))
((.seq (.reg [] [MV 17 1,
 MV 4 17])
(.ret))))))))))))
noncomputable def elaws_szGiveBook : Env := envL [(32, Flaws_szGiveFieldS), (124, Flaws_szGiveHeldS)]
noncomputable def Flaws_szGiveBook : Fun := runF elaws_szGiveBook claws_szGiveBook [.t 4]
theorem elaws_szGiveBook_laws_szGiveFieldS : elaws_szGiveBook 32 = some Flaws_szGiveFieldS := by simp [elaws_szGiveBook, envL_cons]
theorem elaws_szGiveBook_laws_szGiveHeldS : elaws_szGiveBook 124 = some Flaws_szGiveHeldS := by simp [elaws_szGiveBook, envL_cons]

/-! ### spec_l2From: function 145 -/
def cspec_l2From_L0 : ACode := (.seq ((.seq (.reg [] [MV 6 5,
 MV 7 0,
 LE 8 7,
 OP 9 (.bin .lss (.t 6) (.t 8))])
(.cond (.t 9) (.skip) (.exit 0))))
((.seq (.block 1 ((.seq (.reg [] [MV 12 0,
 MV 13 5,
 IA 14 6 12 13,
 FA 15 4 14,
 LD 16 15,
 MV 17 1,
 OP 18 (.bin .lss (.t 16) (.t 17))])
(.cond (.t 18) ((.seq (.reg [] [MF 4])
(.ret))) (.skip)))))
(.reg [] [MV 10 5,
 OP 11 (.bin .add (.t 10) (KI 1)),
 MV 5 11]))))
def cspec_l2From : ACode := (.seq (.reg [] [MF 4])
((.seq ((.seq (.reg [] [OP 5 (.mov (KI 0))])
(.block 0 (.loop cspec_l2From_L0))))
((.seq (.reg [] [OP 4 (.mov KT)])
(.ret))))))
noncomputable def espec_l2From : Env := envL []
noncomputable def Fspec_l2From : Fun := runF espec_l2From cspec_l2From [.t 4]

/-! ### spec_l2HeldOk: function 125 -/
def cspec_l2HeldOk : ACode := (.seq (.reg [2, 3] [OP 2 (.boxL 3 (.t 0)),
 OP 3 (.boxL 3 (.t 1)),
 MF 4])
((.seq (.reg [] [FA 5 0 3,
 LD 6 5,
 OP 7 (.call 119 [.t 6]),
 MV 8 7,
 OT 9 8 (.faddr 1 (.t 2)),
 OT 10 8 (.load1 (.t 9)),
 OT 11 8 (.faddr 1 (.t 3)),
 OT 12 8 (.load1 (.t 11)),
 OT 13 8 (.call 33 [.t 10, .t 12]),
 OP 14 (.pick (.t 8) (.t 13) KF),
 MV 15 14,
 OT 16 15 (.faddr 1 (.t 3)),
 OT 17 15 (.load1 (.t 16)),
 OT 18 15 (.faddr 0 (.t 2)),
 OT 19 15 (.load1 (.t 18)),
 OT 20 15 (.call 145 [.t 17, .t 19]),
 OP 21 (.pick (.t 15) (.t 20) KF),
 MV 22 21,
 OT 23 22 (.faddr 2 (.t 3)),
 OT 24 22 (.load1 (.t 23)),
 OT 25 22 (.len (.t 24)),
 OT 26 22 (.bin .eql (.t 25) (KI 0)),
 OT 27 22 (.mov (.t 26)),
 OF 28 27 (.faddr 1 (.t 2)),
 OF 29 27 (.load1 (.t 28)),
 OF 30 27 (.faddr 2 (.t 3)),
 OF 31 27 (.load1 (.t 30)),
 OF 32 27 (.call 33 [.t 29, .t 31]),
 OF 33 27 (.mov (.t 32)),
 OT 34 33 (.faddr 2 (.t 3)),
 OT 35 33 (.load1 (.t 34)),
 OT 36 33 (.faddr 0 (.t 2)),
 OT 37 33 (.load1 (.t 36)),
 OT 38 33 (.call 145 [.t 35, .t 37]),
 OF 39 27 (.pick (.t 33) (.t 38) KF),
 OT 40 22 (.pick (.t 27) KT (.t 39)),
 OP 41 (.pick (.t 22) (.t 40) KF),
 MV 4 41])
(.ret))))
noncomputable def espec_l2HeldOk : Env := envL [(33, Fspec_GiveTubeOk), (119, Fspec_l1NameOk), (145, Fspec_l2From)]
noncomputable def Fspec_l2HeldOk : Fun := runF espec_l2HeldOk cspec_l2HeldOk [.t 4]
theorem espec_l2HeldOk_spec_GiveTubeOk : espec_l2HeldOk 33 = some Fspec_GiveTubeOk := by simp [espec_l2HeldOk, envL_cons]
theorem espec_l2HeldOk_spec_l1NameOk : espec_l2HeldOk 119 = some Fspec_l1NameOk := by simp [espec_l2HeldOk, envL_cons]
theorem espec_l2HeldOk_spec_l2From : espec_l2HeldOk 145 = some Fspec_l2From := by simp [espec_l2HeldOk, envL_cons]

/-! ### spec_l2Meets: function 126 -/
def cspec_l2Meets : ACode := (.seq (.reg [2, 3] [OP 2 (.boxL 3 (.t 0)),
 OP 3 (.boxL 3 (.t 1)),
 MF 4])
((.seq (.reg [] [FA 5 1 2,
 LD 6 5,
 FA 7 1 3,
 LD 8 7,
 OP 9 (.call 24 [.t 6, .t 8]),
 MV 10 9,
 OF 11 10 (.faddr 1 (.t 2)),
 OF 12 10 (.load1 (.t 11)),
 OF 13 10 (.faddr 2 (.t 3)),
 OF 14 10 (.load1 (.t 13)),
 OF 15 10 (.call 24 [.t 12, .t 14]),
 OP 16 (.pick (.t 10) KT (.t 15)),
 MV 17 16,
 OF 18 17 (.faddr 2 (.t 2)),
 OF 19 17 (.load1 (.t 18)),
 OF 20 17 (.faddr 1 (.t 3)),
 OF 21 17 (.load1 (.t 20)),
 OF 22 17 (.call 24 [.t 19, .t 21]),
 OP 23 (.pick (.t 17) KT (.t 22)),
 MV 24 23,
 OF 25 24 (.faddr 2 (.t 2)),
 OF 26 24 (.load1 (.t 25)),
 OF 27 24 (.faddr 2 (.t 3)),
 OF 28 24 (.load1 (.t 27)),
 OF 29 24 (.call 24 [.t 26, .t 28]),
 OP 30 (.pick (.t 24) KT (.t 29)),
 MV 4 30])
(.ret))))
noncomputable def espec_l2Meets : Env := envL [(24, Fspec_GiveNear)]
noncomputable def Fspec_l2Meets : Fun := runF espec_l2Meets cspec_l2Meets [.t 4]
theorem espec_l2Meets_spec_GiveNear : espec_l2Meets 24 = some Fspec_GiveNear := by simp [espec_l2Meets, envL_cons]

/-! ### spec_GiveBookOk: function 49 -/
def cspec_GiveBookOk_L1 : ACode := (.seq ((.seq (.reg [] [MV 56 4,
 MV 57 3,
 OP 58 (.bin .lss (.t 56) (.t 57))])
(.cond (.t 58) (.skip) (.exit 2))))
((.seq (.block 3 ((.seq (.regD [] [FA 61 2 1,
 LD 62 61,
 MV 63 4,
 IA 64 3 62 63,
 OP 65 (.loadN 3 (.t 64)),
 FA 66 2 1,
 LD 67 66,
 MV 68 3,
 IA 69 3 67 68,
 OP 70 (.loadN 3 (.t 69)),
 OP 71 (.call 126 [.t 65, .t 70])] [])
(.cond (.t 71) ((.seq (.reg [] [MF 2])
(.ret))) (.skip)))))
(.reg [] [MV 59 4,
 OP 60 (.bin .add (.t 59) (KI 1)),
 MV 4 60]))))
def cspec_GiveBookOk_L0 : ACode := (.seq ((.seq (.reg [] [MV 21 3,
 FA 22 2 1,
 LD 23 22,
 LE 24 23,
 OP 25 (.bin .lss (.t 21) (.t 24))])
(.cond (.t 25) (.skip) (.exit 0))))
((.seq (.block 1 ((.seq ((.seq (.regD [] [OP 28 (.loadN 3 (.t 1)),
 FA 29 2 1,
 LD 30 29,
 MV 31 3,
 IA 32 3 30 31,
 OP 33 (.loadN 3 (.t 32)),
 OP 34 (.call 125 [.t 28, .t 33]),
 OP 35 (.un .not (.t 34)),
 MV 36 35,
 OF 37 36 (.mov (.t 3)),
 OF 38 36 (.bin .gtr (.t 37) (KI 0)),
 OF 39 36 (.mov (.t 38)),
 OT 40 39 (.faddr 2 (.t 1)),
 OT 41 39 (.load1 (.t 40)),
 OT 42 39 (.mov (.t 3)),
 OT 43 39 (.bin .sub (.t 42) (KI 1)),
 OT 44 39 (.iaddr 3 (.t 41) (.t 43)),
 OT 45 39 (.faddr 0 (.t 44)),
 OT 46 39 (.load1 (.t 45)),
 OT 47 39 (.faddr 2 (.t 1)),
 OT 48 39 (.load1 (.t 47)),
 OT 49 39 (.mov (.t 3)),
 OT 50 39 (.iaddr 3 (.t 48) (.t 49)),
 OT 51 39 (.faddr 0 (.t 50)),
 OT 52 39 (.load1 (.t 51)),
 OT 53 39 (.bin .geq (.t 46) (.t 52)),
 OF 54 36 (.pick (.t 39) (.t 53) KF),
 OP 55 (.pick (.t 36) KT (.t 54))] [])
(.cond (.t 55) ((.seq (.reg [] [MF 2])
(.ret))) (.skip))))
((.seq (.reg [] [OP 4 (.mov (KI 0))])
(.block 2 (.loop cspec_GiveBookOk_L1)))))))
(.reg [] [MV 26 3,
 OP 27 (.bin .add (.t 26) (KI 1)),
 MV 3 27]))))
def cspec_GiveBookOk : ACode := (.seq (.reg [1] [OP 1 (.boxL 3 (.t 0)),
 MF 2])
((.seq ((.seq (.reg [] [FA 5 0 1,
 LD 6 5,
 OP 7 (.call 91 [.t 6, KI 0, KI 10000]),
 OP 8 (.un .not (.t 7)),
 MV 9 8,
 OF 10 9 (.faddr 1 (.t 1)),
 OF 11 9 (.load1 (.t 10)),
 OF 12 9 (.call 118 [.t 11]),
 OF 13 9 (.un .not (.t 12)),
 OP 14 (.pick (.t 9) KT (.t 13)),
 MV 15 14,
 OF 16 15 (.faddr 2 (.t 1)),
 OF 17 15 (.load1 (.t 16)),
 OF 18 15 (.len (.t 17)),
 OF 19 15 (.bin .gtr (.t 18) (KI 16)),
 OP 20 (.pick (.t 15) KT (.t 19))])
(.cond (.t 20) ((.seq (.reg [] [MF 2])
(.ret))) (.skip))))
((.seq ((.seq (.reg [] [OP 3 (.mov (KI 0))])
(.block 0 (.loop cspec_GiveBookOk_L0))))
((.seq (.reg [] [OP 2 (.mov KT)])
(.ret))))))))
noncomputable def espec_GiveBookOk : Env := envL [(91, Fspec_l1In), (118, Fspec_l2FieldsOk), (125, Fspec_l2HeldOk), (126, Fspec_l2Meets)]
noncomputable def Fspec_GiveBookOk : Fun := runF espec_GiveBookOk cspec_GiveBookOk [.t 2]
theorem espec_GiveBookOk_spec_l1In : espec_GiveBookOk 91 = some Fspec_l1In := by simp [espec_GiveBookOk, envL_cons]
theorem espec_GiveBookOk_spec_l2FieldsOk : espec_GiveBookOk 118 = some Fspec_l2FieldsOk := by simp [espec_GiveBookOk, envL_cons]
theorem espec_GiveBookOk_spec_l2HeldOk : espec_GiveBookOk 125 = some Fspec_l2HeldOk := by simp [espec_GiveBookOk, envL_cons]
theorem espec_GiveBookOk_spec_l2Meets : espec_GiveBookOk 126 = some Fspec_l2Meets := by simp [espec_GiveBookOk, envL_cons]

/-! ### laws_toGiveHeld: function 164 -/
def claws_toGiveHeld : ACode := (.seq (.reg [1, 2] [OP 1 (.boxL 3 (.t 0)),
 ⟨some 2, .allocL 3 [.str ⟨#[]⟩, .nils, .nils], none⟩])
((.seq (.reg [3] [⟨some 3, .allocL 3 [.str ⟨#[]⟩, .nils, .nils], none⟩])
((.seq (.reg [] [FA 4 0 1,
 LD 5 4,
 FA 6 0 3,
 OX (.store 1 (.t 6) (.t 5))])
((.seq (.reg [] [FA 7 1 1,
 LD 8 7,
 OP 9 (.call 25 [.t 8]),
 FA 10 1 3,
 OX (.store 1 (.t 10) (.t 9))])
((.seq (.reg [] [FA 11 2 1,
 LD 12 11,
 OP 13 (.call 25 [.t 12]),
 FA 14 2 3,
 OX (.store 1 (.t 14) (.t 13))])
((.seq (.reg [] [OP 15 (.loadN 3 (.t 3)),
 OX (.store 3 (.t 2) (.t 15))])
(.ret))))))))))))
noncomputable def elaws_toGiveHeld : Env := envL [(25, Flaws_toGiveBoxS)]
noncomputable def Flaws_toGiveHeld : Fun := runF elaws_toGiveHeld claws_toGiveHeld [.cellN 2 3]
theorem elaws_toGiveHeld_laws_toGiveBoxS : elaws_toGiveHeld 25 = some Flaws_toGiveBoxS := by simp [elaws_toGiveHeld, envL_cons]

/-! ### laws_toGiveHeldS: function 127 -/
def claws_toGiveHeldS_L0 : ACode := (.seq ((.seq (.reg [] [MV 8 4,
 MV 9 0,
 LE 10 9,
 OP 11 (.bin .lss (.t 8) (.t 10))])
(.cond (.t 11) (.skip) (.exit 0))))
((.seq (.block 1 (.reg [] [MV 14 3,
 MV 15 4,
 MV 16 0,
 MV 17 4,
 IA 18 3 16 17,
 OP 19 (.loadN 3 (.t 18)),
 OP 20 (.call 164 [.t 19]),
 IA 21 3 14 15,
 OX (.store 3 (.t 21) (.t 20))]))
(.reg [] [MV 12 4,
 OP 13 (.bin .add (.t 12) (KI 1)),
 MV 4 13]))))
def claws_toGiveHeldS : ACode := (.seq (.reg [] [OP 2 (.mov KN)])
((.seq (.reg [] [MV 5 0,
 LE 6 5,
 ⟨some 7, .make 3 [.str ⟨#[]⟩, .nils, .nils] (.t 6) (.t 6), none⟩,
 MV 3 7])
((.seq ((.seq (.reg [] [OP 4 (.mov (KI 0))])
(.block 0 (.loop claws_toGiveHeldS_L0))))
((.seq (.reg [] [MV 22 3,
 MV 2 22])
(.ret))))))))
noncomputable def elaws_toGiveHeldS : Env := envL [(164, Flaws_toGiveHeld)]
noncomputable def Flaws_toGiveHeldS : Fun := runF elaws_toGiveHeldS claws_toGiveHeldS [.t 2]
theorem elaws_toGiveHeldS_laws_toGiveHeld : elaws_toGiveHeldS 164 = some Flaws_toGiveHeld := by simp [elaws_toGiveHeldS, envL_cons]

/-! ### laws_toGiveBook: function 50 -/
def claws_toGiveBook : ACode := (.seq (.reg [1, 2] [OP 1 (.boxL 3 (.t 0)),
 OP 2 (.allocL 3 [.int .i64 0, .nils, .nils])])
((.seq (.reg [3] [OP 3 (.allocL 3 [.int .i64 0, .nils, .nils])])
((.seq (.reg [] [FA 4 0 1,
 LD 5 4,
 FA 6 0 3,
 OX (.store 1 (.t 6) (.t 5))])
((.seq (.reg [] [FA 7 1 1,
 LD 8 7,
 OP 9 (.call 34 [.t 8]),
 FA 10 1 3,
 OX (.store 1 (.t 10) (.t 9))])
((.seq (.reg [] [FA 11 2 1,
 LD 12 11,
 OP 13 (.call 127 [.t 12]),
 FA 14 2 3,
 OX (.store 1 (.t 14) (.t 13))])
((.seq (.reg [] [OP 15 (.loadN 3 (.t 3)),
 OX (.store 3 (.t 2) (.t 15))])
(.ret))))))))))))
noncomputable def elaws_toGiveBook : Env := envL [(34, Flaws_toGiveFieldS), (127, Flaws_toGiveHeldS)]
noncomputable def Flaws_toGiveBook : Fun := runF elaws_toGiveBook claws_toGiveBook [.cellN 2 3]
theorem elaws_toGiveBook_laws_toGiveFieldS : elaws_toGiveBook 34 = some Flaws_toGiveFieldS := by simp [elaws_toGiveBook, envL_cons]
theorem elaws_toGiveBook_laws_toGiveHeldS : elaws_toGiveBook 127 = some Flaws_toGiveHeldS := by simp [elaws_toGiveBook, envL_cons]

/-! ### impl_from: function 128 -/
def cimpl_from_L0 : ACode := (.seq (.reg [] [OP 10 (.bin .lss (.t 9) (.t 8))])
((.seq (.cond (.t 10) (.skip) (.exit 0))
((.seq (.block 1 ((.seq (.reg [6] [IA 11 6 7 9,
 OP 12 (.loadN 6 (.t 11)),
 OP 6 (.allocL 6 Z6),
 OX (.store 6 (.t 6) (.t 12))])
((.seq (.reg [] [FA 13 4 6,
 LD 14 13,
 MV 15 1,
 OP 16 (.bin .lss (.t 14) (.t 15))])
(.cond (.t 16) ((.seq (.reg [] [MF 4])
(.ret))) (.skip)))))))
(.reg [] [OP 17 (.bin .add (.t 9) (KI 1)),
 MV 9 17]))))))
def cimpl_from : ACode := (.seq (.reg [] [MF 4])
((.seq ((.seq (.reg [] [MV 7 0,
 LE 8 7,
 OP 9 (.mov (KI 0))])
(.block 0 (.loop cimpl_from_L0))))
((.seq (.reg [] [OP 4 (.mov KT)])
(.ret))))))
noncomputable def eimpl_from : Env := envL []
noncomputable def Fimpl_from : Fun := runF eimpl_from cimpl_from [.t 4]

/-! ### impl_GiveHeld_near: function 129 -/
def cimpl_GiveHeld_near : ACode := (.seq (.reg [2] [OP 2 (.boxL 3 (.t 0)),
 MF 4])
((.seq (.reg [] [FA 5 1 2,
 LD 6 5,
 MV 7 1,
 OP 8 (.call 26 [.t 6, .t 7]),
 MV 9 8,
 OF 10 9 (.faddr 2 (.t 2)),
 OF 11 9 (.load1 (.t 10)),
 OF 12 9 (.mov (.t 1)),
 OF 13 9 (.call 26 [.t 11, .t 12]),
 OP 14 (.pick (.t 9) KT (.t 13)),
 MV 4 14])
(.ret))))
noncomputable def eimpl_GiveHeld_near : Env := envL [(26, Fimpl_GiveNear)]
noncomputable def Fimpl_GiveHeld_near : Fun := runF eimpl_GiveHeld_near cimpl_GiveHeld_near [.t 4]
theorem eimpl_GiveHeld_near_impl_GiveNear : eimpl_GiveHeld_near 26 = some Fimpl_GiveNear := by simp [eimpl_GiveHeld_near, envL_cons]

/-! ### impl_GiveBookOk: function 51 -/
def cimpl_GiveBookOk_L1 : ACode := (.seq (.reg [] [OP 93 (.bin .lss (.t 92) (.t 91))])
((.seq (.cond (.t 93) (.skip) (.exit 2))
((.seq (.block 3 ((.seq (.reg [6] [IA 94 3 90 92,
 OP 95 (.loadN 3 (.t 94)),
 ⟨some 6, .allocL 3 [.str ⟨#[]⟩, .nils, .nils], none⟩,
 OX (.store 3 (.t 6) (.t 95))])
((.seq (.reg [] [OP 96 (.loadN 3 (.t 6)),
 FA 97 1 4,
 LD 98 97,
 OP 99 (.call 129 [.t 96, .t 98]),
 MV 100 99,
 OF 101 100 (.loadN 3 (.t 6)),
 OF 102 100 (.faddr 2 (.t 4)),
 OF 103 100 (.load1 (.t 102)),
 OF 104 100 (.call 129 [.t 101, .t 103]),
 OP 105 (.pick (.t 100) KT (.t 104))])
(.cond (.t 105) ((.seq (.reg [] [MF 2])
(.ret))) (.skip)))))))
(.reg [] [OP 106 (.bin .add (.t 92) (KI 1)),
 MV 92 106]))))))
def cimpl_GiveBookOk_L0 : ACode := (.seq (.reg [] [OP 27 (.bin .lss (.t 26) (.t 25))])
((.seq (.cond (.t 27) (.skip) (.exit 0))
((.seq (.block 1 ((.seq (.reg [4] [MV 28 26,
 IA 29 3 24 26,
 OP 30 (.loadN 3 (.t 29)),
 ⟨some 4, .allocL 3 [.str ⟨#[]⟩, .nils, .nils], none⟩,
 MV 3 28,
 OX (.store 3 (.t 4) (.t 30))])
((.seq ((.seq (.regD [] [FA 31 0 4,
 LD 32 31,
 OP 33 (.call 122 [.t 32]),
 OP 34 (.un .not (.t 33)),
 MV 35 34,
 OF 36 35 (.mov (.t 3)),
 OF 37 35 (.bin .gtr (.t 36) (KI 0)),
 OF 38 35 (.mov (.t 37)),
 OT 39 38 (.faddr 2 (.t 1)),
 OT 40 38 (.load1 (.t 39)),
 OT 41 38 (.mov (.t 3)),
 OT 42 38 (.bin .sub (.t 41) (KI 1)),
 OT 43 38 (.iaddr 3 (.t 40) (.t 42)),
 OT 44 38 (.faddr 0 (.t 43)),
 OT 45 38 (.load1 (.t 44)),
 OT 46 38 (.faddr 0 (.t 4)),
 OT 47 38 (.load1 (.t 46)),
 OT 48 38 (.bin .geq (.t 45) (.t 47)),
 OF 49 35 (.pick (.t 38) (.t 48) KF),
 OP 50 (.pick (.t 35) KT (.t 49)),
 MV 51 50,
 OF 52 51 (.faddr 1 (.t 1)),
 OF 53 51 (.load1 (.t 52)),
 OF 54 51 (.faddr 1 (.t 4)),
 OF 55 51 (.load1 (.t 54)),
 OF 56 51 (.call 35 [.t 53, .t 55]),
 OF 57 51 (.un .not (.t 56)),
 OP 58 (.pick (.t 51) KT (.t 57)),
 MV 59 58,
 OF 60 59 (.faddr 1 (.t 4)),
 OF 61 59 (.load1 (.t 60)),
 OF 62 59 (.faddr 0 (.t 1)),
 OF 63 59 (.load1 (.t 62)),
 OF 64 59 (.call 128 [.t 61, .t 63]),
 OF 65 59 (.un .not (.t 64)),
 OP 66 (.pick (.t 59) KT (.t 65))] [])
(.cond (.t 66) ((.seq (.reg [] [MF 2])
(.ret))) (.skip))))
((.seq ((.seq (.reg [] [FA 67 2 4,
 LD 68 67,
 LE 69 68,
 OP 70 (.bin .gtr (.t 69) (KI 0)),
 MV 71 70,
 OT 72 71 (.faddr 1 (.t 1)),
 OT 73 71 (.load1 (.t 72)),
 OT 74 71 (.faddr 2 (.t 4)),
 OT 75 71 (.load1 (.t 74)),
 OT 76 71 (.call 35 [.t 73, .t 75]),
 OT 77 71 (.un .not (.t 76)),
 OT 78 71 (.mov (.t 77)),
 OF 79 78 (.faddr 2 (.t 4)),
 OF 80 78 (.load1 (.t 79)),
 OF 81 78 (.faddr 0 (.t 1)),
 OF 82 78 (.load1 (.t 81)),
 OF 83 78 (.call 128 [.t 80, .t 82]),
 OF 84 78 (.un .not (.t 83)),
 OT 85 71 (.pick (.t 78) KT (.t 84)),
 OP 86 (.pick (.t 71) (.t 85) KF)])
(.cond (.t 86) ((.seq (.reg [] [MF 2])
(.ret))) (.skip))))
((.seq (.reg [] [FA 87 2 1,
 LD 88 87,
 MV 89 3,
 OP 90 (.slice 3 (.t 88) none (some (.t 89)) none),
 LE 91 90,
 OP 92 (.mov (KI 0))])
(.block 2 (.loop cimpl_GiveBookOk_L1)))))))))))
(.reg [] [OP 107 (.bin .add (.t 26) (KI 1)),
 MV 26 107]))))))
def cimpl_GiveBookOk : ACode := (.seq (.reg [1] [OP 1 (.boxL 3 (.t 0)),
 MF 2])
((.seq ((.seq (.reg [] [FA 7 0 1,
 LD 8 7,
 OP 9 (.call 96 [.t 8, KI 0, KI 10000]),
 OP 10 (.un .not (.t 9)),
 MV 11 10,
 OF 12 11 (.faddr 1 (.t 1)),
 OF 13 11 (.load1 (.t 12)),
 OF 14 11 (.call 121 [.t 13]),
 OF 15 11 (.un .not (.t 14)),
 OP 16 (.pick (.t 11) KT (.t 15)),
 MV 17 16,
 OF 18 17 (.faddr 2 (.t 1)),
 OF 19 17 (.load1 (.t 18)),
 OF 20 17 (.len (.t 19)),
 OF 21 17 (.bin .gtr (.t 20) (KI 16)),
 OP 22 (.pick (.t 17) KT (.t 21))])
(.cond (.t 22) ((.seq (.reg [] [MF 2])
(.ret))) (.skip))))
((.seq ((.seq (.reg [] [FA 23 2 1,
 LD 24 23,
 LE 25 24,
 OP 26 (.mov (KI 0))])
(.block 0 (.loop cimpl_GiveBookOk_L0))))
((.seq (.reg [] [OP 2 (.mov KT)])
(.ret))))))))
noncomputable def eimpl_GiveBookOk : Env := envL [(35, Fimpl_GiveTubeOk), (96, Fimpl_in), (121, Fimpl_fieldsOk), (122, Fimpl_name), (128, Fimpl_from), (129, Fimpl_GiveHeld_near)]
noncomputable def Fimpl_GiveBookOk : Fun := runF eimpl_GiveBookOk cimpl_GiveBookOk [.t 2]
theorem eimpl_GiveBookOk_impl_GiveTubeOk : eimpl_GiveBookOk 35 = some Fimpl_GiveTubeOk := by simp [eimpl_GiveBookOk, envL_cons]
theorem eimpl_GiveBookOk_impl_in : eimpl_GiveBookOk 96 = some Fimpl_in := by simp [eimpl_GiveBookOk, envL_cons]
theorem eimpl_GiveBookOk_impl_fieldsOk : eimpl_GiveBookOk 121 = some Fimpl_fieldsOk := by simp [eimpl_GiveBookOk, envL_cons]
theorem eimpl_GiveBookOk_impl_name : eimpl_GiveBookOk 122 = some Fimpl_name := by simp [eimpl_GiveBookOk, envL_cons]
theorem eimpl_GiveBookOk_impl_from : eimpl_GiveBookOk 128 = some Fimpl_from := by simp [eimpl_GiveBookOk, envL_cons]
theorem eimpl_GiveBookOk_impl_GiveHeld_near : eimpl_GiveBookOk 129 = some Fimpl_GiveHeld_near := by simp [eimpl_GiveBookOk, envL_cons]

/-! ### laws_eqGiveHeld: function 165 -/
def claws_eqGiveHeld : ACode := (.seq (.reg [2, 3] [OP 2 (.boxL 3 (.t 0)),
 OP 3 (.boxL 3 (.t 1)),
 MF 4])
((.seq ((.seq (.reg [] [FA 5 0 2,
 LD 6 5,
 FA 7 0 3,
 LD 8 7,
 OP 9 (.bin .neq (.t 6) (.t 8))])
(.cond (.t 9) ((.seq (.reg [] [MF 4])
(.ret))) (.skip))))
((.seq ((.seq (.reg [] [FA 10 1 2,
 LD 11 10,
 FA 12 1 3,
 LD 13 12,
 OP 14 (.call 27 [.t 11, .t 13]),
 OP 15 (.un .not (.t 14))])
(.cond (.t 15) ((.seq (.reg [] [MF 4])
(.ret))) (.skip))))
((.seq ((.seq (.reg [] [FA 16 2 2,
 LD 17 16,
 FA 18 2 3,
 LD 19 18,
 OP 20 (.call 27 [.t 17, .t 19]),
 OP 21 (.un .not (.t 20))])
(.cond (.t 21) ((.seq (.reg [] [MF 4])
(.ret))) (.skip))))
((.seq (.reg [] [OP 4 (.mov KT)])
(.ret))))))))))
noncomputable def elaws_eqGiveHeld : Env := envL [(27, Flaws_eqGiveBoxS)]
noncomputable def Flaws_eqGiveHeld : Fun := runF elaws_eqGiveHeld claws_eqGiveHeld [.t 4]
theorem elaws_eqGiveHeld_laws_eqGiveBoxS : elaws_eqGiveHeld 27 = some Flaws_eqGiveBoxS := by simp [elaws_eqGiveHeld, envL_cons]

/-! ### laws_eqGiveHeldS: function 130 -/
def claws_eqGiveHeldS_L0 : ACode := (.seq ((.seq (.reg [] [MV 11 5,
 MV 12 0,
 LE 13 12,
 OP 14 (.bin .lss (.t 11) (.t 13))])
(.cond (.t 14) (.skip) (.exit 0))))
((.seq (.block 1 ((.seq (.regD [] [MV 17 0,
 MV 18 5,
 IA 19 3 17 18,
 OP 20 (.loadN 3 (.t 19)),
 MV 21 1,
 MV 22 5,
 IA 23 3 21 22,
 OP 24 (.loadN 3 (.t 23)),
 OP 25 (.call 165 [.t 20, .t 24]),
 OP 26 (.un .not (.t 25))] [])
(.cond (.t 26) ((.seq (.reg [] [MF 4])
(.ret))) (.skip)))))
(.reg [] [MV 15 5,
 OP 16 (.bin .add (.t 15) (KI 1)),
 MV 5 16]))))
def claws_eqGiveHeldS : ACode := (.seq (.reg [] [MF 4])
((.seq ((.seq (.reg [] [MV 6 0,
 LE 7 6,
 MV 8 1,
 LE 9 8,
 OP 10 (.bin .neq (.t 7) (.t 9))])
(.cond (.t 10) ((.seq (.reg [] [MF 4])
(.ret))) (.skip))))
((.seq ((.seq (.reg [] [OP 5 (.mov (KI 0))])
(.block 0 (.loop claws_eqGiveHeldS_L0))))
((.seq (.reg [] [OP 4 (.mov KT)])
(.ret))))))))
noncomputable def elaws_eqGiveHeldS : Env := envL [(165, Flaws_eqGiveHeld)]
noncomputable def Flaws_eqGiveHeldS : Fun := runF elaws_eqGiveHeldS claws_eqGiveHeldS [.t 4]
theorem elaws_eqGiveHeldS_laws_eqGiveHeld : elaws_eqGiveHeldS 165 = some Flaws_eqGiveHeld := by simp [elaws_eqGiveHeldS, envL_cons]

/-! ### laws_eqGiveBook: function 52 -/
def claws_eqGiveBook : ACode := (.seq (.reg [2, 3] [OP 2 (.boxL 3 (.t 0)),
 OP 3 (.boxL 3 (.t 1)),
 MF 4])
((.seq ((.seq (.reg [] [FA 5 0 2,
 LD 6 5,
 FA 7 0 3,
 LD 8 7,
 OP 9 (.bin .neq (.t 6) (.t 8))])
(.cond (.t 9) ((.seq (.reg [] [MF 4])
(.ret))) (.skip))))
((.seq ((.seq (.reg [] [FA 10 1 2,
 LD 11 10,
 FA 12 1 3,
 LD 13 12,
 OP 14 (.call 36 [.t 11, .t 13]),
 OP 15 (.un .not (.t 14))])
(.cond (.t 15) ((.seq (.reg [] [MF 4])
(.ret))) (.skip))))
((.seq ((.seq (.reg [] [FA 16 2 2,
 LD 17 16,
 FA 18 2 3,
 LD 19 18,
 OP 20 (.call 130 [.t 17, .t 19]),
 OP 21 (.un .not (.t 20))])
(.cond (.t 21) ((.seq (.reg [] [MF 4])
(.ret))) (.skip))))
((.seq (.reg [] [OP 4 (.mov KT)])
(.ret))))))))))
noncomputable def elaws_eqGiveBook : Env := envL [(36, Flaws_eqGiveFieldS), (130, Flaws_eqGiveHeldS)]
noncomputable def Flaws_eqGiveBook : Fun := runF elaws_eqGiveBook claws_eqGiveBook [.t 4]
theorem elaws_eqGiveBook_laws_eqGiveFieldS : elaws_eqGiveBook 36 = some Flaws_eqGiveFieldS := by simp [elaws_eqGiveBook, envL_cons]
theorem elaws_eqGiveBook_laws_eqGiveHeldS : elaws_eqGiveBook 130 = some Flaws_eqGiveHeldS := by simp [elaws_eqGiveBook, envL_cons]

/-! ### laws_FnExactGiveBookOk: function 10 -/
def claws_FnExactGiveBookOk : ACode := (.seq (.reg [1] [OP 1 (.boxL 3 (.t 0)),
 MF 2])
((.seq (.reg [] [OP 3 (.mov (KI 1048576))])
((.seq (.reg [] [OP 7 (.loadN 3 (.t 1)),
 MV 8 3,
 OP 9 (.call 48 [.t 7, .t 8]),
 MV 3 9])
((.seq ((.seq (.reg [] [MV 10 3,
 OP 11 (.bin .lss (.t 10) (KI 0))])
(.cond (.t 11) ((.seq (.reg [] [OP 2 (.mov KT)])
(.ret))) (.skip))))
((.seq (.reg [] [OP 12 (.loadN 3 (.t 1)),
 OP 13 (.call 50 [.t 12]),
 OP 14 (.call 49 [.t 13]),
 MV 4 14])
((.seq (.reg [5] [OP 15 (.loadN 3 (.t 1)),
 OP 16 (.call 50 [.t 15]),
 OP 5 (.allocL 3 [.int .i64 0, .nils, .nils]),
 OX (.store 3 (.t 5) (.t 16))])
((.seq (.reg [] [OP 17 (.loadN 3 (.t 5)),
 OP 18 (.call 51 [.t 17]),
 MV 6 18])
((.seq ((.seq (.reg [] [MV 19 6,
 MV 20 4,
 OP 21 (.binB true (.t 19) (.t 20))])
(.cond (.t 21) ((.seq (.reg [] [MF 2])
(.ret))) (.skip))))
((.seq ((.seq (.regD [] [OP 22 (.loadN 3 (.t 5)),
 OP 23 (.loadN 3 (.t 1)),
 OP 24 (.call 50 [.t 23]),
 OP 25 (.call 52 [.t 22, .t 24]),
 OP 26 (.un .not (.t 25))] [(2, 0)])
(.cond (.t 26) ((.seq (.reg [] [MF 2])
(.ret))) (.skip))))
((.seq (.reg [] [OP 2 (.mov KT)])
(.ret))))))))))))))))))))
noncomputable def elaws_FnExactGiveBookOk : Env := envL [(48, Flaws_szGiveBook), (49, Fspec_GiveBookOk), (50, Flaws_toGiveBook), (51, Fimpl_GiveBookOk), (52, Flaws_eqGiveBook)]
noncomputable def Flaws_FnExactGiveBookOk : Fun := runF elaws_FnExactGiveBookOk claws_FnExactGiveBookOk [.t 2]
theorem elaws_FnExactGiveBookOk_laws_szGiveBook : elaws_FnExactGiveBookOk 48 = some Flaws_szGiveBook := by simp [elaws_FnExactGiveBookOk, envL_cons]
theorem elaws_FnExactGiveBookOk_spec_GiveBookOk : elaws_FnExactGiveBookOk 49 = some Fspec_GiveBookOk := by simp [elaws_FnExactGiveBookOk, envL_cons]
theorem elaws_FnExactGiveBookOk_laws_toGiveBook : elaws_FnExactGiveBookOk 50 = some Flaws_toGiveBook := by simp [elaws_FnExactGiveBookOk, envL_cons]
theorem elaws_FnExactGiveBookOk_impl_GiveBookOk : elaws_FnExactGiveBookOk 51 = some Fimpl_GiveBookOk := by simp [elaws_FnExactGiveBookOk, envL_cons]
theorem elaws_FnExactGiveBookOk_laws_eqGiveBook : elaws_FnExactGiveBookOk 52 = some Flaws_eqGiveBook := by simp [elaws_FnExactGiveBookOk, envL_cons]

/-! ### spec_l3Free: function 131 -/
def cspec_l3Free_L0 : ACode := (.seq ((.seq (.reg [] [MV 8 7,
 FA 9 2 3,
 LD 10 9,
 LE 11 10,
 OP 12 (.bin .lss (.t 8) (.t 11))])
(.cond (.t 12) (.skip) (.exit 0))))
((.seq (.block 1 ((.seq (.reg [] [FA 15 2 3,
 LD 16 15,
 MV 17 7,
 IA 18 3 16 17,
 FA 19 0 18,
 LD 20 19,
 MV 21 1,
 OP 22 (.bin .neq (.t 20) (.t 21)),
 MV 23 22,
 OT 24 23 (.faddr 2 (.t 3)),
 OT 25 23 (.load1 (.t 24)),
 OT 26 23 (.mov (.t 7)),
 OT 27 23 (.iaddr 3 (.t 25) (.t 26)),
 OT 28 23 (.faddr 1 (.t 27)),
 OT 29 23 (.load1 (.t 28)),
 OT 30 23 (.mov (.t 2)),
 OT 31 23 (.call 24 [.t 29, .t 30]),
 OT 32 23 (.mov (.t 31)),
 OF 33 32 (.faddr 2 (.t 3)),
 OF 34 32 (.load1 (.t 33)),
 OF 35 32 (.mov (.t 7)),
 OF 36 32 (.iaddr 3 (.t 34) (.t 35)),
 OF 37 32 (.faddr 2 (.t 36)),
 OF 38 32 (.load1 (.t 37)),
 OF 39 32 (.mov (.t 2)),
 OF 40 32 (.call 24 [.t 38, .t 39]),
 OT 41 23 (.pick (.t 32) KT (.t 40)),
 OP 42 (.pick (.t 23) (.t 41) KF)])
(.cond (.t 42) ((.seq (.reg [] [MF 6])
(.ret))) (.skip)))))
(.reg [] [MV 13 7,
 OP 14 (.bin .add (.t 13) (KI 1)),
 MV 7 14]))))
def cspec_l3Free : ACode := (.seq (.reg [3] [OP 3 (.boxL 3 (.t 0)),
 MF 6])
((.seq ((.seq (.reg [] [OP 7 (.mov (KI 0))])
(.block 0 (.loop cspec_l3Free_L0))))
((.seq (.reg [] [OP 6 (.mov KT)])
(.ret))))))
noncomputable def espec_l3Free : Env := envL [(24, Fspec_GiveNear)]
noncomputable def Fspec_l3Free : Fun := runF espec_l3Free cspec_l3Free [.t 6]
theorem espec_l3Free_spec_GiveNear : espec_l3Free 24 = some Fspec_GiveNear := by simp [espec_l3Free, envL_cons]

/-! ### spec_GiveFree: function 53 -/
def cspec_GiveFree : ACode := (.seq (.reg [3] [OP 3 (.boxL 3 (.t 0)),
 MF 6])
((.seq (.reg [] [OP 7 (.loadN 3 (.t 3)),
 OP 8 (.call 49 [.t 7]),
 MV 9 8,
 OT 10 9 (.faddr 1 (.t 3)),
 OT 11 9 (.load1 (.t 10)),
 OT 12 9 (.mov (.t 2)),
 OT 13 9 (.call 33 [.t 11, .t 12]),
 OP 14 (.pick (.t 9) (.t 13) KF),
 MV 15 14,
 OT 16 15 (.loadN 3 (.t 3)),
 OT 17 15 (.mov (.t 1)),
 OT 18 15 (.mov (.t 2)),
 OT 19 15 (.call 131 [.t 16, .t 17, .t 18]),
 OP 20 (.pick (.t 15) (.t 19) KF),
 MV 6 20])
(.ret))))
noncomputable def espec_GiveFree : Env := envL [(33, Fspec_GiveTubeOk), (49, Fspec_GiveBookOk), (131, Fspec_l3Free)]
noncomputable def Fspec_GiveFree : Fun := runF espec_GiveFree cspec_GiveFree [.t 6]
theorem espec_GiveFree_spec_GiveTubeOk : espec_GiveFree 33 = some Fspec_GiveTubeOk := by simp [espec_GiveFree, envL_cons]
theorem espec_GiveFree_spec_GiveBookOk : espec_GiveFree 49 = some Fspec_GiveBookOk := by simp [espec_GiveFree, envL_cons]
theorem espec_GiveFree_spec_l3Free : espec_GiveFree 131 = some Fspec_l3Free := by simp [espec_GiveFree, envL_cons]

/-! ### impl_GiveBook_free: function 132 -/
def cimpl_GiveBook_free_L0 : ACode := (.seq (.reg [] [OP 13 (.bin .lss (.t 12) (.t 11))])
((.seq (.cond (.t 13) (.skip) (.exit 0))
((.seq (.block 1 ((.seq (.reg [8] [IA 14 3 10 12,
 OP 15 (.loadN 3 (.t 14)),
 ⟨some 8, .allocL 3 [.str ⟨#[]⟩, .nils, .nils], none⟩,
 OX (.store 3 (.t 8) (.t 15))])
((.seq (.reg [] [FA 16 0 8,
 LD 17 16,
 MV 18 1,
 OP 19 (.bin .neq (.t 17) (.t 18)),
 MV 20 19,
 OT 21 20 (.loadN 3 (.t 8)),
 OT 22 20 (.mov (.t 2)),
 OT 23 20 (.call 129 [.t 21, .t 22]),
 OP 24 (.pick (.t 20) (.t 23) KF)])
(.cond (.t 24) ((.seq (.reg [] [MF 6])
(.ret))) (.skip)))))))
(.reg [] [OP 25 (.bin .add (.t 12) (KI 1)),
 MV 12 25]))))))
def cimpl_GiveBook_free : ACode := (.seq (.reg [3] [OP 3 (.boxL 3 (.t 0)),
 MF 6])
((.seq ((.seq (.reg [] [FA 9 2 3,
 LD 10 9,
 LE 11 10,
 OP 12 (.mov (KI 0))])
(.block 0 (.loop cimpl_GiveBook_free_L0))))
((.seq (.reg [] [OP 6 (.mov KT)])
(.ret))))))
noncomputable def eimpl_GiveBook_free : Env := envL [(129, Fimpl_GiveHeld_near)]
noncomputable def Fimpl_GiveBook_free : Fun := runF eimpl_GiveBook_free cimpl_GiveBook_free [.t 6]
theorem eimpl_GiveBook_free_impl_GiveHeld_near : eimpl_GiveBook_free 129 = some Fimpl_GiveHeld_near := by simp [eimpl_GiveBook_free, envL_cons]

/-! ### impl_GiveFree: function 54 -/
def cimpl_GiveFree : ACode := (.seq (.reg [3] [OP 3 (.boxL 3 (.t 0)),
 MF 6])
((.seq (.reg [] [OP 7 (.loadN 3 (.t 3)),
 OP 8 (.call 51 [.t 7]),
 MV 9 8,
 OT 10 9 (.faddr 1 (.t 3)),
 OT 11 9 (.load1 (.t 10)),
 OT 12 9 (.mov (.t 2)),
 OT 13 9 (.call 35 [.t 11, .t 12]),
 OP 14 (.pick (.t 9) (.t 13) KF),
 MV 15 14,
 OT 16 15 (.loadN 3 (.t 3)),
 OT 17 15 (.mov (.t 1)),
 OT 18 15 (.mov (.t 2)),
 OT 19 15 (.call 132 [.t 16, .t 17, .t 18]),
 OP 20 (.pick (.t 15) (.t 19) KF),
 MV 6 20])
(.ret))))
noncomputable def eimpl_GiveFree : Env := envL [(35, Fimpl_GiveTubeOk), (51, Fimpl_GiveBookOk), (132, Fimpl_GiveBook_free)]
noncomputable def Fimpl_GiveFree : Fun := runF eimpl_GiveFree cimpl_GiveFree [.t 6]
theorem eimpl_GiveFree_impl_GiveTubeOk : eimpl_GiveFree 35 = some Fimpl_GiveTubeOk := by simp [eimpl_GiveFree, envL_cons]
theorem eimpl_GiveFree_impl_GiveBookOk : eimpl_GiveFree 51 = some Fimpl_GiveBookOk := by simp [eimpl_GiveFree, envL_cons]
theorem eimpl_GiveFree_impl_GiveBook_free : eimpl_GiveFree 132 = some Fimpl_GiveBook_free := by simp [eimpl_GiveFree, envL_cons]

/-! ### laws_FnExactGiveFree: function 11 -/
def claws_FnExactGiveFree : ACode := (.seq (.reg [3] [OP 3 (.boxL 3 (.t 0)),
 MF 6])
((.seq ((.seq (.reg [] [MV 12 1,
 OP 13 (.lenS (.t 12)),
 OP 14 (.bin .gtr (.t 13) (KI 1048576))])
(.cond (.t 14) ((.seq (.reg [] [OP 6 (.mov KT)])
(.ret))) (.skip))))
((.seq (.reg [] [OP 7 (.mov (KI 1048576))])
((.seq (.reg [] [OP 15 (.loadN 3 (.t 3)),
 MV 16 7,
 OP 17 (.call 48 [.t 15, .t 16]),
 MV 7 17])
((.seq ((.seq (.reg [] [MV 18 7,
 OP 19 (.bin .lss (.t 18) (KI 0))])
(.cond (.t 19) ((.seq (.reg [] [OP 6 (.mov KT)])
(.ret))) (.skip))))
((.seq (.reg [] [MV 20 2,
 MV 21 7,
 OP 22 (.call 23 [.t 20, .t 21]),
 MV 7 22])
((.seq ((.seq (.reg [] [MV 23 7,
 OP 24 (.bin .lss (.t 23) (KI 0))])
(.cond (.t 24) ((.seq (.reg [] [OP 6 (.mov KT)])
(.ret))) (.skip))))
((.seq (.reg [] [OP 25 (.loadN 3 (.t 3)),
 OP 26 (.call 50 [.t 25]),
 MV 27 1,
 MV 28 2,
 OP 29 (.call 25 [.t 28]),
 OP 30 (.call 53 [.t 26, .t 27, .t 29]),
 MV 8 30])
((.seq (.reg [9] [OP 31 (.loadN 3 (.t 3)),
 OP 32 (.call 50 [.t 31]),
 OP 9 (.allocL 3 [.int .i64 0, .nils, .nils]),
 OX (.store 3 (.t 9) (.t 32))])
((.seq (.reg [] [MV 33 2,
 OP 34 (.call 25 [.t 33]),
 MV 10 34])
((.seq (.reg [] [OP 35 (.loadN 3 (.t 9)),
 MV 36 1,
 MV 37 10,
 OP 38 (.call 54 [.t 35, .t 36, .t 37]),
 MV 11 38])
((.seq ((.seq (.reg [] [MV 39 11,
 MV 40 8,
 OP 41 (.binB true (.t 39) (.t 40))])
(.cond (.t 41) ((.seq (.reg [] [MF 6])
(.ret))) (.skip))))
((.seq ((.seq (.regD [] [OP 42 (.loadN 3 (.t 9)),
 OP 43 (.loadN 3 (.t 3)),
 OP 44 (.call 50 [.t 43]),
 OP 45 (.call 52 [.t 42, .t 44]),
 OP 46 (.un .not (.t 45))] [(2, 0)])
(.cond (.t 46) ((.seq (.reg [] [MF 6])
(.ret))) (.skip))))
((.seq ((.seq (.reg [] [MV 47 10,
 MV 48 2,
 OP 49 (.call 25 [.t 48]),
 OP 50 (.call 27 [.t 47, .t 49]),
 OP 51 (.un .not (.t 50))])
(.cond (.t 51) ((.seq (.reg [] [MF 6])
(.ret))) (.skip))))
((.seq (.reg [] [OP 6 (.mov KT)])
(.ret))))))))))))))))))))))))))))))
noncomputable def elaws_FnExactGiveFree : Env := envL [(23, Flaws_szGiveBoxS), (25, Flaws_toGiveBoxS), (27, Flaws_eqGiveBoxS), (48, Flaws_szGiveBook), (50, Flaws_toGiveBook), (52, Flaws_eqGiveBook), (53, Fspec_GiveFree), (54, Fimpl_GiveFree)]
noncomputable def Flaws_FnExactGiveFree : Fun := runF elaws_FnExactGiveFree claws_FnExactGiveFree [.t 6]
theorem elaws_FnExactGiveFree_laws_szGiveBoxS : elaws_FnExactGiveFree 23 = some Flaws_szGiveBoxS := by simp [elaws_FnExactGiveFree, envL_cons]
theorem elaws_FnExactGiveFree_laws_toGiveBoxS : elaws_FnExactGiveFree 25 = some Flaws_toGiveBoxS := by simp [elaws_FnExactGiveFree, envL_cons]
theorem elaws_FnExactGiveFree_laws_eqGiveBoxS : elaws_FnExactGiveFree 27 = some Flaws_eqGiveBoxS := by simp [elaws_FnExactGiveFree, envL_cons]
theorem elaws_FnExactGiveFree_laws_szGiveBook : elaws_FnExactGiveFree 48 = some Flaws_szGiveBook := by simp [elaws_FnExactGiveFree, envL_cons]
theorem elaws_FnExactGiveFree_laws_toGiveBook : elaws_FnExactGiveFree 50 = some Flaws_toGiveBook := by simp [elaws_FnExactGiveFree, envL_cons]
theorem elaws_FnExactGiveFree_laws_eqGiveBook : elaws_FnExactGiveFree 52 = some Flaws_eqGiveBook := by simp [elaws_FnExactGiveFree, envL_cons]
theorem elaws_FnExactGiveFree_spec_GiveFree : elaws_FnExactGiveFree 53 = some Fspec_GiveFree := by simp [elaws_FnExactGiveFree, envL_cons]
theorem elaws_FnExactGiveFree_impl_GiveFree : elaws_FnExactGiveFree 54 = some Fimpl_GiveFree := by simp [elaws_FnExactGiveFree, envL_cons]

end Go.Abs

/-
  What the codes tell is what the program's functions do (printed by wip/tools/gen3.py).
-/

namespace Go.Abs
open Go.Proofs
set_option maxRecDepth 100000

theorem slaws_szGiveHeld : Sound Try.prog 163 Flaws_szGiveHeld := sound_of (envL_ok (by simp only [List.forall_mem_cons, List.not_mem_nil, false_implies, implies_true, and_true]; exact slaws_szGiveBoxS)) mixed [2] Try.func163 (by kernel_rfl) (by kernel_rfl) (by kernel_rfl)
theorem slaws_szGiveHeldS : Sound Try.prog 124 Flaws_szGiveHeldS := sound_of (envL_ok (by simp only [List.forall_mem_cons, List.not_mem_nil, false_implies, implies_true, and_true]; exact slaws_szGiveHeld)) mixed [] Try.func124 (by kernel_rfl) (by kernel_rfl) (by kernel_rfl)
theorem slaws_szGiveBook : Sound Try.prog 48 Flaws_szGiveBook := sound_of (envL_ok (by simp only [List.forall_mem_cons, List.not_mem_nil, false_implies, implies_true, and_true]; exact ⟨slaws_szGiveFieldS, slaws_szGiveHeldS⟩)) mixed [2] Try.func48 (by kernel_rfl) (by kernel_rfl) (by kernel_rfl)
theorem sspec_l2From : Sound Try.prog 145 Fspec_l2From := sound_of (envL_ok (fun p hp => by simp at hp)) mixed [] Try.func145 (by kernel_rfl) (by kernel_rfl) (by kernel_rfl)
theorem sspec_l2HeldOk : Sound Try.prog 125 Fspec_l2HeldOk := sound_of (envL_ok (by simp only [List.forall_mem_cons, List.not_mem_nil, false_implies, implies_true, and_true]; exact ⟨sspec_GiveTubeOk, sspec_l1NameOk, sspec_l2From⟩)) mixed [2, 3] Try.func125 (by kernel_rfl) (by kernel_rfl) (by kernel_rfl)
theorem sspec_l2Meets : Sound Try.prog 126 Fspec_l2Meets := sound_of (envL_ok (by simp only [List.forall_mem_cons, List.not_mem_nil, false_implies, implies_true, and_true]; exact sspec_GiveNear)) mixed [2, 3] Try.func126 (by kernel_rfl) (by kernel_rfl) (by kernel_rfl)
theorem sspec_GiveBookOk : Sound Try.prog 49 Fspec_GiveBookOk := sound_of (envL_ok (by simp only [List.forall_mem_cons, List.not_mem_nil, false_implies, implies_true, and_true]; exact ⟨sspec_l1In, sspec_l2FieldsOk, sspec_l2HeldOk, sspec_l2Meets⟩)) mixed [1] Try.func49 (by kernel_rfl) (by kernel_rfl) (by kernel_rfl)
theorem slaws_toGiveHeld : Sound Try.prog 164 Flaws_toGiveHeld := sound_of (envL_ok (by simp only [List.forall_mem_cons, List.not_mem_nil, false_implies, implies_true, and_true]; exact slaws_toGiveBoxS)) mixed [1, 2, 3] Try.func164 (by kernel_rfl) (by kernel_rfl) (by kernel_rfl)
theorem slaws_toGiveHeldS : Sound Try.prog 127 Flaws_toGiveHeldS := sound_of (envL_ok (by simp only [List.forall_mem_cons, List.not_mem_nil, false_implies, implies_true, and_true]; exact slaws_toGiveHeld)) mixed [] Try.func127 (by kernel_rfl) (by kernel_rfl) (by kernel_rfl)
theorem slaws_toGiveBook : Sound Try.prog 50 Flaws_toGiveBook := sound_of (envL_ok (by simp only [List.forall_mem_cons, List.not_mem_nil, false_implies, implies_true, and_true]; exact ⟨slaws_toGiveFieldS, slaws_toGiveHeldS⟩)) mixed [1, 2, 3] Try.func50 (by kernel_rfl) (by kernel_rfl) (by kernel_rfl)
theorem simpl_from : Sound Try.prog 128 Fimpl_from := sound_of (envL_ok (fun p hp => by simp at hp)) mixed [6] Try.func128 (by kernel_rfl) (by kernel_rfl) (by kernel_rfl)
theorem simpl_GiveHeld_near : Sound Try.prog 129 Fimpl_GiveHeld_near := sound_of (envL_ok (by simp only [List.forall_mem_cons, List.not_mem_nil, false_implies, implies_true, and_true]; exact simpl_GiveNear)) mixed [2] Try.func129 (by kernel_rfl) (by kernel_rfl) (by kernel_rfl)
theorem simpl_GiveBookOk : Sound Try.prog 51 Fimpl_GiveBookOk := sound_of (envL_ok (by simp only [List.forall_mem_cons, List.not_mem_nil, false_implies, implies_true, and_true]; exact ⟨simpl_GiveTubeOk, simpl_in, simpl_fieldsOk, simpl_name, simpl_from, simpl_GiveHeld_near⟩)) mixed [1, 4, 6] Try.func51 (by kernel_rfl) (by kernel_rfl) (by kernel_rfl)
theorem slaws_eqGiveHeld : Sound Try.prog 165 Flaws_eqGiveHeld := sound_of (envL_ok (by simp only [List.forall_mem_cons, List.not_mem_nil, false_implies, implies_true, and_true]; exact slaws_eqGiveBoxS)) mixed [2, 3] Try.func165 (by kernel_rfl) (by kernel_rfl) (by kernel_rfl)
theorem slaws_eqGiveHeldS : Sound Try.prog 130 Flaws_eqGiveHeldS := sound_of (envL_ok (by simp only [List.forall_mem_cons, List.not_mem_nil, false_implies, implies_true, and_true]; exact slaws_eqGiveHeld)) mixed [] Try.func130 (by kernel_rfl) (by kernel_rfl) (by kernel_rfl)
theorem slaws_eqGiveBook : Sound Try.prog 52 Flaws_eqGiveBook := sound_of (envL_ok (by simp only [List.forall_mem_cons, List.not_mem_nil, false_implies, implies_true, and_true]; exact ⟨slaws_eqGiveFieldS, slaws_eqGiveHeldS⟩)) mixed [2, 3] Try.func52 (by kernel_rfl) (by kernel_rfl) (by kernel_rfl)
theorem slaws_FnExactGiveBookOk : Sound Try.prog 10 Flaws_FnExactGiveBookOk := sound_of (envL_ok (by simp only [List.forall_mem_cons, List.not_mem_nil, false_implies, implies_true, and_true]; exact ⟨slaws_szGiveBook, sspec_GiveBookOk, slaws_toGiveBook, simpl_GiveBookOk, slaws_eqGiveBook⟩)) mixed [1, 5] Try.func10 (by kernel_rfl) (by kernel_rfl) (by kernel_rfl)
theorem sspec_l3Free : Sound Try.prog 131 Fspec_l3Free := sound_of (envL_ok (by simp only [List.forall_mem_cons, List.not_mem_nil, false_implies, implies_true, and_true]; exact sspec_GiveNear)) mixed [3] Try.func131 (by kernel_rfl) (by kernel_rfl) (by kernel_rfl)
theorem sspec_GiveFree : Sound Try.prog 53 Fspec_GiveFree := sound_of (envL_ok (by simp only [List.forall_mem_cons, List.not_mem_nil, false_implies, implies_true, and_true]; exact ⟨sspec_GiveTubeOk, sspec_GiveBookOk, sspec_l3Free⟩)) mixed [3] Try.func53 (by kernel_rfl) (by kernel_rfl) (by kernel_rfl)
theorem simpl_GiveBook_free : Sound Try.prog 132 Fimpl_GiveBook_free := sound_of (envL_ok (by simp only [List.forall_mem_cons, List.not_mem_nil, false_implies, implies_true, and_true]; exact simpl_GiveHeld_near)) mixed [3, 8] Try.func132 (by kernel_rfl) (by kernel_rfl) (by kernel_rfl)
theorem simpl_GiveFree : Sound Try.prog 54 Fimpl_GiveFree := sound_of (envL_ok (by simp only [List.forall_mem_cons, List.not_mem_nil, false_implies, implies_true, and_true]; exact ⟨simpl_GiveTubeOk, simpl_GiveBookOk, simpl_GiveBook_free⟩)) mixed [3] Try.func54 (by kernel_rfl) (by kernel_rfl) (by kernel_rfl)
theorem slaws_FnExactGiveFree : Sound Try.prog 11 Flaws_FnExactGiveFree := sound_of (envL_ok (by simp only [List.forall_mem_cons, List.not_mem_nil, false_implies, implies_true, and_true]; exact ⟨slaws_szGiveBoxS, slaws_toGiveBoxS, slaws_eqGiveBoxS, slaws_szGiveBook, slaws_toGiveBook, slaws_eqGiveBook, sspec_GiveFree, simpl_GiveFree⟩)) mixed [3, 9] Try.func11 (by kernel_rfl) (by kernel_rfl) (by kernel_rfl)

end Go.Abs

/-
  The codes of the functions, for the abstract machine (printed by wip/tools/gen3.py; not typed by hand).
-/

namespace Go.Abs

/-! ### spec_l3Asked: function 133 -/
def cspec_l3Asked : ACode := (.seq (.reg [3] [OP 3 (.boxL 3 (.t 0)),
 MF 6])
((.seq (.reg [] [OP 7 (.loadN 3 (.t 3)),
 OP 8 (.call 49 [.t 7]),
 MV 9 8,
 OT 10 9 (.faddr 1 (.t 3)),
 OT 11 9 (.load1 (.t 10)),
 OT 12 9 (.mov (.t 1)),
 OT 13 9 (.call 33 [.t 11, .t 12]),
 OP 14 (.pick (.t 9) (.t 13) KF),
 MV 15 14,
 OT 16 15 (.mov (.t 2)),
 OT 17 15 (.call 91 [.t 16, KI 0, KI 300]),
 OP 18 (.pick (.t 15) (.t 17) KF),
 MV 6 18])
(.ret))))
noncomputable def espec_l3Asked : Env := envL [(33, Fspec_GiveTubeOk), (49, Fspec_GiveBookOk), (91, Fspec_l1In)]
noncomputable def Fspec_l3Asked : Fun := runF espec_l3Asked cspec_l3Asked [.t 6]
theorem espec_l3Asked_spec_GiveTubeOk : espec_l3Asked 33 = some Fspec_GiveTubeOk := by simp [espec_l3Asked, envL_cons]
theorem espec_l3Asked_spec_GiveBookOk : espec_l3Asked 49 = some Fspec_GiveBookOk := by simp [espec_l3Asked, envL_cons]
theorem espec_l3Asked_spec_l1In : espec_l3Asked 91 = some Fspec_l1In := by simp [espec_l3Asked, envL_cons]

/-! ### spec_l2Tube: function 146 -/
def cspec_l2Tube : ACode := (.seq (.reg [] [OP 2 (.mov KN)])
((.seq (.reg [] [OP 3 (.mkSlH 6 0 Z6 []),
 MV 4 0,
 OP 5 (.append 6 (.t 3) (.t 4)),
 MV 2 5])
(.ret))))
noncomputable def espec_l2Tube : Env := envL []
noncomputable def Fspec_l2Tube : Fun := runF espec_l2Tube cspec_l2Tube [.t 2]

/-! ### spec_l3Later: function 149 -/
def cspec_l3Later_L0 : ACode := (.seq ((.seq (.reg [] [MV 9 6,
 MV 10 5,
 LE 11 10,
 OP 12 (.bin .lss (.t 9) (.t 11))])
(.cond (.t 12) (.skip) (.exit 0))))
((.seq (.block 1 ((.seq (.reg [] [MV 15 5,
 MV 16 6,
 MV 17 5,
 MV 18 6,
 IA 19 6 17 18,
 FA 20 4 19,
 LD 21 20,
 MV 22 1,
 OP 23 (.bin .add (.t 21) (.t 22)),
 IA 24 6 15 16,
 FA 25 4 24,
 OX (.store 1 (.t 25) (.t 23))])
(.reg [] [MV 26 5,
 MV 27 6,
 MV 28 5,
 MV 29 6,
 IA 30 6 28 29,
 FA 31 5 30,
 LD 32 31,
 MV 33 1,
 OP 34 (.bin .add (.t 32) (.t 33)),
 IA 35 6 26 27,
 FA 36 5 35,
 OX (.store 1 (.t 36) (.t 34))]))))
(.reg [] [MV 13 6,
 OP 14 (.bin .add (.t 13) (KI 1)),
 MV 6 14]))))
def cspec_l3Later : ACode := (.seq (.reg [] [OP 4 (.mov KN)])
((.seq (.reg [] [MV 7 0,
 OP 8 (.call 146 [.t 7]),
 MV 5 8])
((.seq ((.seq (.reg [] [OP 6 (.mov (KI 0))])
(.block 0 (.loop cspec_l3Later_L0))))
((.seq (.reg [] [MV 37 5,
 MV 4 37])
(.ret))))))))
noncomputable def espec_l3Later : Env := envL [(146, Fspec_l2Tube)]
noncomputable def Fspec_l3Later : Fun := runF espec_l3Later cspec_l3Later [.t 4]
theorem espec_l3Later_spec_l2Tube : espec_l3Later 146 = some Fspec_l2Tube := by simp [espec_l3Later, envL_cons]

/-! ### spec_l3Can: function 134 -/
def cspec_l3Can : ACode := (.seq (.reg [4] [OP 4 (.boxL 3 (.t 0)),
 MF 8])
((.seq (.reg [] [MV 10 2,
 MV 11 3,
 OP 12 (.call 149 [.t 10, .t 11]),
 MV 9 12])
((.seq (.reg [] [FA 13 1 4,
 LD 14 13,
 MV 15 9,
 OP 16 (.call 33 [.t 14, .t 15]),
 MV 17 16,
 OT 18 17 (.loadN 3 (.t 4)),
 OT 19 17 (.mov (.t 1)),
 OT 20 17 (.mov (.t 9)),
 OT 21 17 (.call 131 [.t 18, .t 19, .t 20]),
 OP 22 (.pick (.t 17) (.t 21) KF),
 MV 8 22])
(.ret))))))
noncomputable def espec_l3Can : Env := envL [(33, Fspec_GiveTubeOk), (131, Fspec_l3Free), (149, Fspec_l3Later)]
noncomputable def Fspec_l3Can : Fun := runF espec_l3Can cspec_l3Can [.t 8]
theorem espec_l3Can_spec_GiveTubeOk : espec_l3Can 33 = some Fspec_GiveTubeOk := by simp [espec_l3Can, envL_cons]
theorem espec_l3Can_spec_l3Free : espec_l3Can 131 = some Fspec_l3Free := by simp [espec_l3Can, envL_cons]
theorem espec_l3Can_spec_l3Later : espec_l3Can 149 = some Fspec_l3Later := by simp [espec_l3Can, envL_cons]

/-! ### spec_GiveEarliest: function 55 -/
def cspec_GiveEarliest_L0 : ACode := (.seq ((.seq (.reg [] [MV 16 10,
 MV 17 3,
 OP 18 (.bin .leq (.t 16) (.t 17))])
(.cond (.t 18) (.skip) (.exit 0))))
((.seq (.block 1 ((.seq (.reg [] [OP 21 (.loadN 3 (.t 4)),
 MV 22 1,
 MV 23 2,
 MV 24 10,
 OP 25 (.call 134 [.t 21, .t 22, .t 23, .t 24])])
(.cond (.t 25) ((.seq (.reg [] [MV 26 10,
 MV 8 26,
 OP 9 (.mov KT)])
(.ret))) (.skip)))))
(.reg [] [MV 19 10,
 OP 20 (.bin .add (.t 19) (KI 1)),
 MV 10 20]))))
def cspec_GiveEarliest : ACode := (.seq (.reg [4] [OP 4 (.boxL 3 (.t 0)),
 OP 8 (.mov (KI 0)),
 MF 9])
((.seq ((.seq (.reg [] [OP 11 (.loadN 3 (.t 4)),
 MV 12 2,
 MV 13 3,
 OP 14 (.call 133 [.t 11, .t 12, .t 13]),
 OP 15 (.un .not (.t 14))])
(.cond (.t 15) ((.seq (.reg [] [OP 8 (.mov (KI 0)),
 MF 9])
(.ret))) (.skip))))
((.seq ((.seq (.reg [] [OP 10 (.mov (KI 0))])
(.block 0 (.loop cspec_GiveEarliest_L0))))
((.seq (.reg [] [OP 8 (.mov (KI 0)),
 MF 9])
(.ret))))))))
noncomputable def espec_GiveEarliest : Env := envL [(133, Fspec_l3Asked), (134, Fspec_l3Can)]
noncomputable def Fspec_GiveEarliest : Fun := runF espec_GiveEarliest cspec_GiveEarliest [.t 8, .t 9]
theorem espec_GiveEarliest_spec_l3Asked : espec_GiveEarliest 133 = some Fspec_l3Asked := by simp [espec_GiveEarliest, envL_cons]
theorem espec_GiveEarliest_spec_l3Can : espec_GiveEarliest 134 = some Fspec_l3Can := by simp [espec_GiveEarliest, envL_cons]

/-! ### impl_GiveBook_barred_1: function 166 -/
def cimpl_GiveBook_barred_1_L0 : ACode := (.seq ((.seq (.reg [] [MV 9 6,
 MV 10 1,
 OP 11 (.bin .leq (.t 9) (.t 10)),
 MV 12 11,
 OT 13 12 (.mov (.t 6)),
 OT 14 12 (.load1 (.t 2)),
 OT 15 12 (.bin .leq (.t 13) (.t 14)),
 OP 16 (.pick (.t 12) (.t 15) KF)])
(.cond (.t 16) (.skip) (.exit 0))))
((.seq (.block 1 (.reg [] [LD 19 3,
 MV 20 6,
 IA 21 1 19 20,
 OX (.store 1 (.t 21) KT)]))
(.reg [] [MV 17 6,
 OP 18 (.bin .add (.t 17) (KI 1)),
 MV 6 18]))))
def cimpl_GiveBook_barred_1 : ACode := (.seq (.reg [] [MV 7 0,
 OP 8 (.maxs [.t 7, KI 0]),
 MV 6 8])
(.block 0 (.loop cimpl_GiveBook_barred_1_L0)))
noncomputable def eimpl_GiveBook_barred_1 : Env := envL []
noncomputable def Fimpl_GiveBook_barred_1 : Fun := runF eimpl_GiveBook_barred_1 cimpl_GiveBook_barred_1 []

/-! ### impl_GiveBook_barred: function 135 -/
def cimpl_GiveBook_barred_L4 : ACode := (.seq (.reg [] [OP 69 (.bin .lss (.t 68) (.t 67))])
((.seq (.cond (.t 69) (.skip) (.exit 8))
((.seq (.block 9 ((.seq (.reg [20] [IA 70 6 66 68,
 OP 71 (.loadN 6 (.t 70)),
 OP 20 (.allocL 6 Z6),
 OX (.store 6 (.t 20) (.t 71))])
((.seq (.reg [] [OP 72 (.loadN 6 (.t 20)),
 OP 73 (.loadN 6 (.t 18)),
 OP 74 (.call 88 [.t 72, .t 73])])
(.cond (.t 74) (.reg [] [MV 75 10,
 FA 76 4 18,
 LD 77 76,
 FA 78 5 20,
 LD 79 78,
 OP 80 (.bin .sub (.t 77) (.t 79)),
 FA 81 5 18,
 LD 82 81,
 FA 83 4 20,
 LD 84 83,
 OP 85 (.bin .sub (.t 82) (.t 84)),
 OP 86 (.callV (.t 75) [.t 80, .t 85])]) (.skip)))))))
(.reg [] [OP 87 (.bin .add (.t 68) (KI 1)),
 MV 68 87]))))))
def cimpl_GiveBook_barred_L3 : ACode := (.seq (.reg [] [OP 63 (.bin .lss (.t 62) (.t 61))])
((.seq (.cond (.t 63) (.skip) (.exit 6))
((.seq (.block 7 ((.seq (.reg [18] [IA 64 6 60 62,
 OP 65 (.loadN 6 (.t 64)),
 OP 18 (.allocL 6 Z6),
 OX (.store 6 (.t 18) (.t 65))])
((.seq (.reg [] [MV 66 2,
 LE 67 66,
 OP 68 (.mov (KI 0))])
(.block 8 (.loop cimpl_GiveBook_barred_L4)))))))
(.reg [] [OP 88 (.bin .add (.t 62) (KI 1)),
 MV 62 88]))))))
def cimpl_GiveBook_barred_L2 : ACode := (.seq (.reg [] [OP 57 (.bin .lss (.t 56) (.t 55))])
((.seq (.cond (.t 57) (.skip) (.exit 4))
((.seq (.block 5 ((.seq (.reg [] [IA 58 1 54 56,
 LD 59 58,
 MV 16 59])
((.seq (.reg [] [MV 60 16,
 LE 61 60,
 OP 62 (.mov (KI 0))])
(.block 6 (.loop cimpl_GiveBook_barred_L3)))))))
(.reg [] [OP 89 (.bin .add (.t 56) (KI 1)),
 MV 56 89]))))))
def cimpl_GiveBook_barred_L1 : ACode := (.seq (.reg [] [OP 43 (.bin .lss (.t 42) (.t 41))])
((.seq (.cond (.t 43) (.skip) (.exit 2))
((.seq (.block 3 ((.seq (.reg [14] [IA 44 3 40 42,
 OP 45 (.loadN 3 (.t 44)),
 ⟨some 14, .allocL 3 [.str ⟨#[]⟩, .nils, .nils], none⟩,
 OX (.store 3 (.t 14) (.t 45))])
((.seq ((.seq (.reg [] [FA 46 0 14,
 LD 47 46,
 MV 48 1,
 OP 49 (.bin .eql (.t 47) (.t 48))])
(.cond (.t 49) (.exit 3) (.skip))))
((.seq (.reg [] [FA 50 1 14,
 LD 51 50,
 FA 52 2 14,
 LD 53 52,
 OP 54 (.mkSlH 1 2 [.nils] [(0, 1, .t 51), (1, 1, .t 53)]),
 LE 55 54,
 OP 56 (.mov (KI 0))])
(.block 4 (.loop cimpl_GiveBook_barred_L2)))))))))
(.reg [] [OP 90 (.bin .add (.t 42) (KI 1)),
 MV 42 90]))))))
def cimpl_GiveBook_barred_L0 : ACode := (.seq (.reg [] [OP 28 (.bin .lss (.t 27) (.t 26))])
((.seq (.cond (.t 28) (.skip) (.exit 0))
((.seq (.block 1 ((.seq (.reg [12] [IA 29 6 25 27,
 OP 30 (.loadN 6 (.t 29)),
 OP 12 (.allocL 6 Z6),
 OX (.store 6 (.t 12) (.t 30))])
(.reg [] [MV 31 10,
 FA 32 5 12,
 LD 33 32,
 OP 34 (.bin .sub (KI 10000) (.t 33)),
 OP 35 (.bin .add (.t 34) (KI 1)),
 LD 36 7,
 OP 37 (.callV (.t 31) [.t 35, .t 36])]))))
(.reg [] [OP 38 (.bin .add (.t 27) (KI 1)),
 MV 27 38]))))))
def cimpl_GiveBook_barred : ACode := (.seq (.reg [4] [OP 4 (.boxL 3 (.t 0)),
 OP 7 (.boxH 1 (.t 3)),
 OP 8 (.mov KN)])
((.seq (.reg [] [LD 21 7,
 OP 22 (.bin .add (.t 21) (KI 1)),
 OP 23 (.make 1 [.bool false] (.t 22) (.t 22)),
 OP 9 (.allocH 1 [.nils]),
 OX (.store 1 (.t 9) (.t 23))])
((.seq (.reg [] [OP 24 (.mkfn 166 [.t 7, .t 9]),
 MV 10 24])
((.seq ((.seq (.reg [] [MV 25 2,
 LE 26 25,
 OP 27 (.mov (KI 0))])
(.block 0 (.loop cimpl_GiveBook_barred_L0))))
((.seq ((.seq (.reg [] [FA 39 2 4,
 LD 40 39,
 LE 41 40,
 OP 42 (.mov (KI 0))])
(.block 2 (.loop cimpl_GiveBook_barred_L1))))
((.seq (.reg [] [LD 91 9,
 MV 8 91])
(.ret))))))))))))
noncomputable def eimpl_GiveBook_barred : Env := envL [(88, Fimpl_beside), (166, Fimpl_GiveBook_barred_1)]
noncomputable def Fimpl_GiveBook_barred : Fun := runF eimpl_GiveBook_barred cimpl_GiveBook_barred [.t 8]
theorem eimpl_GiveBook_barred_impl_beside : eimpl_GiveBook_barred 88 = some Fimpl_beside := by simp [eimpl_GiveBook_barred, envL_cons]
theorem eimpl_GiveBook_barred_impl_GiveBook_barred_1 : eimpl_GiveBook_barred 166 = some Fimpl_GiveBook_barred_1 := by simp [eimpl_GiveBook_barred, envL_cons]

/-! ### impl_GiveEarliest: function 56 -/
def cimpl_GiveEarliest_L0 : ACode := (.seq (.reg [] [OP 34 (.bin .lss (.t 33) (.t 32))])
((.seq (.cond (.t 34) (.skip) (.exit 0))
((.seq (.block 1 ((.seq (.reg [] [MV 35 33,
 IA 36 1 31 33,
 LD 37 36,
 MV 10 35,
 MV 11 37])
((.seq (.reg [] [MV 38 11,
 OP 39 (.un .not (.t 38))])
(.cond (.t 39) ((.seq (.reg [] [MV 40 10,
 MV 8 40,
 OP 9 (.mov KT)])
(.ret))) (.skip)))))))
(.reg [] [OP 41 (.bin .add (.t 33) (KI 1)),
 MV 33 41]))))))
def cimpl_GiveEarliest : ACode := (.seq (.reg [4] [OP 4 (.boxL 3 (.t 0)),
 OP 8 (.mov (KI 0)),
 MF 9])
((.seq ((.seq (.reg [] [OP 12 (.loadN 3 (.t 4)),
 OP 13 (.call 51 [.t 12]),
 OP 14 (.un .not (.t 13)),
 MV 15 14,
 OF 16 15 (.faddr 1 (.t 4)),
 OF 17 15 (.load1 (.t 16)),
 OF 18 15 (.mov (.t 2)),
 OF 19 15 (.call 35 [.t 17, .t 18]),
 OF 20 15 (.un .not (.t 19)),
 OP 21 (.pick (.t 15) KT (.t 20)),
 MV 22 21,
 OF 23 22 (.mov (.t 3)),
 OF 24 22 (.call 96 [.t 23, KI 0, KI 300]),
 OF 25 22 (.un .not (.t 24)),
 OP 26 (.pick (.t 22) KT (.t 25))])
(.cond (.t 26) ((.seq (.reg [] [OP 8 (.mov (KI 0)),
 MF 9])
(.ret))) (.skip))))
((.seq ((.seq (.reg [] [OP 27 (.loadN 3 (.t 4)),
 MV 28 1,
 MV 29 2,
 MV 30 3,
 OP 31 (.call 135 [.t 27, .t 28, .t 29, .t 30]),
 LE 32 31,
 OP 33 (.mov (KI 0))])
(.block 0 (.loop cimpl_GiveEarliest_L0))))
((.seq (.reg [] [OP 8 (.mov (KI 0)),
 MF 9])
(.ret))))))))
noncomputable def eimpl_GiveEarliest : Env := envL [(35, Fimpl_GiveTubeOk), (51, Fimpl_GiveBookOk), (96, Fimpl_in), (135, Fimpl_GiveBook_barred)]
noncomputable def Fimpl_GiveEarliest : Fun := runF eimpl_GiveEarliest cimpl_GiveEarliest [.t 8, .t 9]
theorem eimpl_GiveEarliest_impl_GiveTubeOk : eimpl_GiveEarliest 35 = some Fimpl_GiveTubeOk := by simp [eimpl_GiveEarliest, envL_cons]
theorem eimpl_GiveEarliest_impl_GiveBookOk : eimpl_GiveEarliest 51 = some Fimpl_GiveBookOk := by simp [eimpl_GiveEarliest, envL_cons]
theorem eimpl_GiveEarliest_impl_in : eimpl_GiveEarliest 96 = some Fimpl_in := by simp [eimpl_GiveEarliest, envL_cons]
theorem eimpl_GiveEarliest_impl_GiveBook_barred : eimpl_GiveEarliest 135 = some Fimpl_GiveBook_barred := by simp [eimpl_GiveEarliest, envL_cons]

/-! ### laws_FnExactGiveEarliest: function 12 -/
def claws_FnExactGiveEarliest : ACode := (.seq (.reg [4] [OP 4 (.boxL 3 (.t 0)),
 MF 8])
((.seq ((.seq (.reg [] [MV 16 1,
 OP 17 (.lenS (.t 16)),
 OP 18 (.bin .gtr (.t 17) (KI 1048576))])
(.cond (.t 18) ((.seq (.reg [] [OP 8 (.mov KT)])
(.ret))) (.skip))))
((.seq (.reg [] [OP 9 (.mov (KI 1048576))])
((.seq (.reg [] [OP 19 (.loadN 3 (.t 4)),
 MV 20 9,
 OP 21 (.call 48 [.t 19, .t 20]),
 MV 9 21])
((.seq ((.seq (.reg [] [MV 22 9,
 OP 23 (.bin .lss (.t 22) (KI 0))])
(.cond (.t 23) ((.seq (.reg [] [OP 8 (.mov KT)])
(.ret))) (.skip))))
((.seq (.reg [] [MV 24 2,
 MV 25 9,
 OP 26 (.call 23 [.t 24, .t 25]),
 MV 9 26])
((.seq ((.seq (.reg [] [MV 27 9,
 OP 28 (.bin .lss (.t 27) (KI 0))])
(.cond (.t 28) ((.seq (.reg [] [OP 8 (.mov KT)])
(.ret))) (.skip))))
((.seq (.reg [] [OP 30 (.loadN 3 (.t 4)),
 OP 31 (.call 50 [.t 30]),
 MV 32 1,
 MV 33 2,
 OP 34 (.call 25 [.t 33]),
 MV 35 3,
 OP 36 (.call 55 [.t 31, .t 32, .t 34, .t 35]),
 MV 29 36,
 OP 37 (.extract (.t 29) 0),
 OP 38 (.extract (.t 29) 1),
 MV 10 37,
 MV 11 38])
((.seq (.reg [12] [OP 39 (.loadN 3 (.t 4)),
 OP 40 (.call 50 [.t 39]),
 OP 12 (.allocL 3 [.int .i64 0, .nils, .nils]),
 OX (.store 3 (.t 12) (.t 40))])
((.seq (.reg [] [MV 41 2,
 OP 42 (.call 25 [.t 41]),
 MV 13 42])
((.seq (.reg [] [OP 44 (.loadN 3 (.t 12)),
 MV 45 1,
 MV 46 13,
 MV 47 3,
 OP 48 (.call 56 [.t 44, .t 45, .t 46, .t 47]),
 MV 43 48,
 OP 49 (.extract (.t 43) 0),
 OP 50 (.extract (.t 43) 1),
 MV 14 49,
 MV 15 50])
((.seq ((.seq (.reg [] [MV 51 14,
 MV 52 10,
 OP 53 (.bin .neq (.t 51) (.t 52)),
 MV 54 53,
 OF 55 54 (.mov (.t 15)),
 OF 56 54 (.mov (.t 11)),
 OF 57 54 (.binB true (.t 55) (.t 56)),
 OP 58 (.pick (.t 54) KT (.t 57))])
(.cond (.t 58) ((.seq (.reg [] [MF 8])
(.ret))) (.skip))))
((.seq ((.seq (.regD [] [OP 59 (.loadN 3 (.t 12)),
 OP 60 (.loadN 3 (.t 4)),
 OP 61 (.call 50 [.t 60]),
 OP 62 (.call 52 [.t 59, .t 61]),
 OP 63 (.un .not (.t 62))] [(2, 0)])
(.cond (.t 63) ((.seq (.reg [] [MF 8])
(.ret))) (.skip))))
((.seq ((.seq (.reg [] [MV 64 13,
 MV 65 2,
 OP 66 (.call 25 [.t 65]),
 OP 67 (.call 27 [.t 64, .t 66]),
 OP 68 (.un .not (.t 67))])
(.cond (.t 68) ((.seq (.reg [] [MF 8])
(.ret))) (.skip))))
((.seq (.reg [] [OP 8 (.mov KT)])
(.ret))))))))))))))))))))))))))))))
noncomputable def elaws_FnExactGiveEarliest : Env := envL [(23, Flaws_szGiveBoxS), (25, Flaws_toGiveBoxS), (27, Flaws_eqGiveBoxS), (48, Flaws_szGiveBook), (50, Flaws_toGiveBook), (52, Flaws_eqGiveBook), (55, Fspec_GiveEarliest), (56, Fimpl_GiveEarliest)]
noncomputable def Flaws_FnExactGiveEarliest : Fun := runF elaws_FnExactGiveEarliest claws_FnExactGiveEarliest [.t 8]
theorem elaws_FnExactGiveEarliest_laws_szGiveBoxS : elaws_FnExactGiveEarliest 23 = some Flaws_szGiveBoxS := by simp [elaws_FnExactGiveEarliest, envL_cons]
theorem elaws_FnExactGiveEarliest_laws_toGiveBoxS : elaws_FnExactGiveEarliest 25 = some Flaws_toGiveBoxS := by simp [elaws_FnExactGiveEarliest, envL_cons]
theorem elaws_FnExactGiveEarliest_laws_eqGiveBoxS : elaws_FnExactGiveEarliest 27 = some Flaws_eqGiveBoxS := by simp [elaws_FnExactGiveEarliest, envL_cons]
theorem elaws_FnExactGiveEarliest_laws_szGiveBook : elaws_FnExactGiveEarliest 48 = some Flaws_szGiveBook := by simp [elaws_FnExactGiveEarliest, envL_cons]
theorem elaws_FnExactGiveEarliest_laws_toGiveBook : elaws_FnExactGiveEarliest 50 = some Flaws_toGiveBook := by simp [elaws_FnExactGiveEarliest, envL_cons]
theorem elaws_FnExactGiveEarliest_laws_eqGiveBook : elaws_FnExactGiveEarliest 52 = some Flaws_eqGiveBook := by simp [elaws_FnExactGiveEarliest, envL_cons]
theorem elaws_FnExactGiveEarliest_spec_GiveEarliest : elaws_FnExactGiveEarliest 55 = some Fspec_GiveEarliest := by simp [elaws_FnExactGiveEarliest, envL_cons]
theorem elaws_FnExactGiveEarliest_impl_GiveEarliest : elaws_FnExactGiveEarliest 56 = some Fimpl_GiveEarliest := by simp [elaws_FnExactGiveEarliest, envL_cons]

/-! ### spec_GiveBars: function 57 -/
def cspec_GiveBars_L0 : ACode := (.seq ((.seq (.reg [] [MV 19 10,
 MV 20 3,
 OP 21 (.bin .leq (.t 19) (.t 20))])
(.cond (.t 21) (.skip) (.exit 0))))
((.seq (.block 1 ((.seq ((.seq (.reg [] [OP 24 (.loadN 3 (.t 4)),
 MV 25 1,
 MV 26 2,
 MV 27 10,
 OP 28 (.call 134 [.t 24, .t 25, .t 26, .t 27])])
(.cond (.t 28) (.exit 1) (.skip))))
((.seq (.reg [] [MV 29 9,
 LE 30 29,
 MV 11 30])
((.seq (.reg [] [MV 31 11,
 OP 32 (.bin .gtr (.t 31) (KI 0)),
 MV 33 32,
 OT 34 33 (.mov (.t 9)),
 OT 35 33 (.mov (.t 11)),
 OT 36 33 (.bin .sub (.t 35) (KI 1)),
 OT 37 33 (.iaddr 2 (.t 34) (.t 36)),
 OT 38 33 (.faddr 1 (.t 37)),
 OT 39 33 (.load1 (.t 38)),
 OT 40 33 (.mov (.t 10)),
 OT 41 33 (.bin .sub (.t 40) (KI 1)),
 OT 42 33 (.bin .eql (.t 39) (.t 41)),
 OP 43 (.pick (.t 33) (.t 42) KF)])
(.cond (.t 43) (.reg [] [MV 44 9,
 MV 45 11,
 OP 46 (.bin .sub (.t 45) (KI 1)),
 MV 47 10,
 IA 48 2 44 46,
 FA 49 1 48,
 OX (.store 1 (.t 49) (.t 47))]) (.reg [54] [MV 50 9,
 MV 51 10,
 MV 52 10,
 OP 53 (.build [.int .i64 0, .int .i64 0] [(0, 1, .t 51), (1, 1, .t 52)]),
 OP 54 (.mkSlL 2 1 [.int .i64 0, .int .i64 0] [(0, 2, .t 53)]),
 OP 55 (.append 2 (.t 50) (.t 54)),
 MV 9 55])))))))))
(.reg [] [MV 22 10,
 OP 23 (.bin .add (.t 22) (KI 1)),
 MV 10 23]))))
def cspec_GiveBars : ACode := (.seq (.reg [4] [OP 4 (.boxL 3 (.t 0)),
 OP 8 (.mov KN)])
((.seq (.reg [] [OP 12 (.mkSlH 2 0 [.int .i64 0, .int .i64 0] []),
 MV 9 12])
((.seq ((.seq (.reg [] [OP 13 (.loadN 3 (.t 4)),
 MV 14 2,
 MV 15 3,
 OP 16 (.call 133 [.t 13, .t 14, .t 15]),
 OP 17 (.un .not (.t 16))])
(.cond (.t 17) ((.seq (.reg [] [MV 18 9,
 MV 8 18])
(.ret))) (.skip))))
((.seq ((.seq (.reg [] [OP 10 (.mov (KI 0))])
(.block 0 (.loop cspec_GiveBars_L0))))
((.seq (.reg [] [MV 56 9,
 MV 8 56])
(.ret))))))))))
noncomputable def espec_GiveBars : Env := envL [(133, Fspec_l3Asked), (134, Fspec_l3Can)]
noncomputable def Fspec_GiveBars : Fun := runF espec_GiveBars cspec_GiveBars [.t 8]
theorem espec_GiveBars_spec_l3Asked : espec_GiveBars 133 = some Fspec_l3Asked := by simp [espec_GiveBars, envL_cons]
theorem espec_GiveBars_spec_l3Can : espec_GiveBars 134 = some Fspec_l3Can := by simp [espec_GiveBars, envL_cons]

/-! ### impl_GiveBars: function 58 -/
def cimpl_GiveBars_L0 : ACode := (.seq (.reg [] [OP 36 (.bin .lss (.t 35) (.t 34))])
((.seq (.cond (.t 36) (.skip) (.exit 0))
((.seq (.block 1 ((.seq (.reg [] [MV 37 35,
 IA 38 1 33 35,
 LD 39 38,
 MV 10 37,
 MV 11 39])
((.seq ((.seq (.reg [] [MV 40 11,
 OP 41 (.un .not (.t 40))])
(.cond (.t 41) (.exit 1) (.skip))))
((.seq ((.seq (.reg [] [MV 42 9,
 LE 43 42,
 OP 44 (.bin .sub (.t 43) (KI 1)),
 MV 12 44])
((.seq (.reg [] [MV 45 12,
 OP 46 (.bin .geq (.t 45) (KI 0)),
 MV 47 46,
 OT 48 47 (.mov (.t 9)),
 OT 49 47 (.mov (.t 12)),
 OT 50 47 (.iaddr 2 (.t 48) (.t 49)),
 OT 51 47 (.faddr 1 (.t 50)),
 OT 52 47 (.load1 (.t 51)),
 OT 53 47 (.mov (.t 10)),
 OT 54 47 (.bin .sub (.t 53) (KI 1)),
 OT 55 47 (.bin .eql (.t 52) (.t 54)),
 OP 56 (.pick (.t 47) (.t 55) KF)])
(.cond (.t 56) ((.seq (.reg [] [MV 57 9,
 MV 58 12,
 MV 59 10,
 IA 60 2 57 58,
 FA 61 1 60,
 OX (.store 1 (.t 61) (.t 59))])
(.exit 1))) (.skip))))))
(.reg [66] [MV 62 9,
 MV 63 10,
 MV 64 10,
 OP 65 (.build [.int .i64 0, .int .i64 0] [(0, 1, .t 63), (1, 1, .t 64)]),
 OP 66 (.mkSlL 2 1 [.int .i64 0, .int .i64 0] [(0, 2, .t 65)]),
 OP 67 (.append 2 (.t 62) (.t 66)),
 MV 9 67]))))))))
(.reg [] [OP 68 (.bin .add (.t 35) (KI 1)),
 MV 35 68]))))))
def cimpl_GiveBars : ACode := (.seq (.reg [4] [OP 4 (.boxL 3 (.t 0)),
 OP 8 (.mov KN)])
((.seq ((.seq (.reg [] [OP 13 (.loadN 3 (.t 4)),
 OP 14 (.call 51 [.t 13]),
 OP 15 (.un .not (.t 14)),
 MV 16 15,
 OF 17 16 (.faddr 1 (.t 4)),
 OF 18 16 (.load1 (.t 17)),
 OF 19 16 (.mov (.t 2)),
 OF 20 16 (.call 35 [.t 18, .t 19]),
 OF 21 16 (.un .not (.t 20)),
 OP 22 (.pick (.t 16) KT (.t 21)),
 MV 23 22,
 OF 24 23 (.mov (.t 3)),
 OF 25 23 (.call 96 [.t 24, KI 0, KI 300]),
 OF 26 23 (.un .not (.t 25)),
 OP 27 (.pick (.t 23) KT (.t 26))])
(.cond (.t 27) ((.seq (.reg [] [OP 8 (.mov KN)])
(.ret))) (.skip))))
((.seq (.reg [] [OP 28 (.mkSlH 2 0 [.int .i64 0, .int .i64 0] []),
 MV 9 28])
((.seq ((.seq (.reg [] [OP 29 (.loadN 3 (.t 4)),
 MV 30 1,
 MV 31 2,
 MV 32 3,
 OP 33 (.call 135 [.t 29, .t 30, .t 31, .t 32]),
 LE 34 33,
 OP 35 (.mov (KI 0))])
(.block 0 (.loop cimpl_GiveBars_L0))))
((.seq (.reg [] [MV 69 9,
 MV 8 69])
(.ret))))))))))
noncomputable def eimpl_GiveBars : Env := envL [(35, Fimpl_GiveTubeOk), (51, Fimpl_GiveBookOk), (96, Fimpl_in), (135, Fimpl_GiveBook_barred)]
noncomputable def Fimpl_GiveBars : Fun := runF eimpl_GiveBars cimpl_GiveBars [.t 8]
theorem eimpl_GiveBars_impl_GiveTubeOk : eimpl_GiveBars 35 = some Fimpl_GiveTubeOk := by simp [eimpl_GiveBars, envL_cons]
theorem eimpl_GiveBars_impl_GiveBookOk : eimpl_GiveBars 51 = some Fimpl_GiveBookOk := by simp [eimpl_GiveBars, envL_cons]
theorem eimpl_GiveBars_impl_in : eimpl_GiveBars 96 = some Fimpl_in := by simp [eimpl_GiveBars, envL_cons]
theorem eimpl_GiveBars_impl_GiveBook_barred : eimpl_GiveBars 135 = some Fimpl_GiveBook_barred := by simp [eimpl_GiveBars, envL_cons]

/-! ### laws_eqGiveSpan: function 136 -/
def claws_eqGiveSpan : ACode := (.seq (.reg [2, 3] [OP 2 (.boxL 2 (.t 0)),
 OP 3 (.boxL 2 (.t 1)),
 MF 4])
((.seq ((.seq (.reg [] [FA 5 0 2,
 LD 6 5,
 FA 7 0 3,
 LD 8 7,
 OP 9 (.bin .neq (.t 6) (.t 8))])
(.cond (.t 9) ((.seq (.reg [] [MF 4])
(.ret))) (.skip))))
((.seq ((.seq (.reg [] [FA 10 1 2,
 LD 11 10,
 FA 12 1 3,
 LD 13 12,
 OP 14 (.bin .neq (.t 11) (.t 13))])
(.cond (.t 14) ((.seq (.reg [] [MF 4])
(.ret))) (.skip))))
((.seq (.reg [] [OP 4 (.mov KT)])
(.ret))))))))
noncomputable def elaws_eqGiveSpan : Env := envL []
noncomputable def Flaws_eqGiveSpan : Fun := runF elaws_eqGiveSpan claws_eqGiveSpan [.t 4]

/-! ### laws_eqGiveSpanS: function 59 -/
def claws_eqGiveSpanS_L0 : ACode := (.seq ((.seq (.reg [] [MV 11 5,
 MV 12 0,
 LE 13 12,
 OP 14 (.bin .lss (.t 11) (.t 13))])
(.cond (.t 14) (.skip) (.exit 0))))
((.seq (.block 1 ((.seq (.regD [] [MV 17 0,
 MV 18 5,
 IA 19 2 17 18,
 OP 20 (.loadN 2 (.t 19)),
 MV 21 1,
 MV 22 5,
 IA 23 2 21 22,
 OP 24 (.loadN 2 (.t 23)),
 OP 25 (.call 136 [.t 20, .t 24]),
 OP 26 (.un .not (.t 25))] [])
(.cond (.t 26) ((.seq (.reg [] [MF 4])
(.ret))) (.skip)))))
(.reg [] [MV 15 5,
 OP 16 (.bin .add (.t 15) (KI 1)),
 MV 5 16]))))
def claws_eqGiveSpanS : ACode := (.seq (.reg [] [MF 4])
((.seq ((.seq (.reg [] [MV 6 0,
 LE 7 6,
 MV 8 1,
 LE 9 8,
 OP 10 (.bin .neq (.t 7) (.t 9))])
(.cond (.t 10) ((.seq (.reg [] [MF 4])
(.ret))) (.skip))))
((.seq ((.seq (.reg [] [OP 5 (.mov (KI 0))])
(.block 0 (.loop claws_eqGiveSpanS_L0))))
((.seq (.reg [] [OP 4 (.mov KT)])
(.ret))))))))
noncomputable def elaws_eqGiveSpanS : Env := envL [(136, Flaws_eqGiveSpan)]
noncomputable def Flaws_eqGiveSpanS : Fun := runF elaws_eqGiveSpanS claws_eqGiveSpanS [.t 4]
theorem elaws_eqGiveSpanS_laws_eqGiveSpan : elaws_eqGiveSpanS 136 = some Flaws_eqGiveSpan := by simp [elaws_eqGiveSpanS, envL_cons]

/-! ### laws_markText: function 167 -/
def claws_markText_L0 : ACode := (.seq ((.seq (.reg [] [MV 6 0,
 OP 7 (.bin .gtr (.t 6) (KI 0))])
(.cond (.t 7) (.skip) (.exit 0))))
(.block 1 ((.seq (.reg [] [MV 8 0,
 OP 9 (.bin .rem (.t 8) (KI 10)),
 OP 10 (.bin .add (KI 48) (.t 9)),
 OP 11 (.conv .u8 (.t 10)),
 OP 12 (.mkSlH 1 1 [.int .u8 0] [(0, 1, .t 11)]),
 OP 13 (.convSB (.t 12)),
 MV 14 3,
 OP 15 (.bin .add (.t 13) (.t 14)),
 MV 3 15])
(.reg [] [MV 16 0,
 OP 17 (.bin .quo (.t 16) (KI 10)),
 MV 0 17])))))
def claws_markText : ACode := (.seq (.reg [] [⟨some 2, .mov (.k (.v (.c (.str ⟨#[]⟩)))), none⟩])
((.seq ((.seq (.reg [] [MV 4 0,
 OP 5 (.bin .leq (.t 4) (KI 0))])
(.cond (.t 5) ((.seq (.reg [] [⟨some 2, .mov (.k (.v (.c (.str ⟨#[109, 48]⟩)))), none⟩])
(.ret))) (.skip))))
((.seq (.reg [] [⟨some 3, .mov (.k (.v (.c (.str ⟨#[]⟩)))), none⟩])
((.seq (.block 0 (.loop claws_markText_L0))
((.seq (.reg [] [MV 18 3,
 ⟨some 19, .bin .add (.k (.v (.c (.str ⟨#[109]⟩)))) (.t 18), none⟩,
 MV 2 19])
(.ret))))))))))
noncomputable def elaws_markText : Env := envL []
noncomputable def Flaws_markText : Fun := runF elaws_markText claws_markText [.t 2]

/-! ### laws_markGiveFieldS: function 137 -/
def claws_markGiveFieldS_L0 : ACode := (.seq ((.seq (.reg [] [MV 6 5,
 MV 7 0,
 LE 8 7,
 OP 9 (.bin .lss (.t 6) (.t 8))])
(.cond (.t 9) (.skip) (.exit 0))))
((.seq (.block 1 ((.seq (.reg [] [MV 12 0,
 MV 13 5,
 MV 14 1,
 OP 15 (.call 167 [.t 14]),
 IA 16 3 12 13,
 FA 17 0 16,
 OX (.store 1 (.t 17) (.t 15))])
((.seq (.reg [] [MV 18 1,
 OP 19 (.bin .add (.t 18) (KI 1)),
 MV 1 19])
((.seq (.reg [] [MV 20 0,
 MV 21 5,
 MV 22 1,
 IA 23 3 20 21,
 FA 24 1 23,
 OX (.store 1 (.t 24) (.t 22))])
((.seq (.reg [] [MV 25 1,
 OP 26 (.bin .add (.t 25) (KI 1)),
 MV 1 26])
((.seq (.reg [] [MV 27 0,
 MV 28 5,
 MV 29 1,
 IA 30 3 27 28,
 FA 31 2 30,
 OX (.store 1 (.t 31) (.t 29))])
(.reg [] [MV 32 1,
 OP 33 (.bin .add (.t 32) (KI 1)),
 MV 1 33]))))))))))))
(.reg [] [MV 10 5,
 OP 11 (.bin .add (.t 10) (KI 1)),
 MV 5 11]))))
def claws_markGiveFieldS : ACode := (.seq (.reg [] [OP 4 (.mov (KI 0))])
((.seq ((.seq (.reg [] [OP 5 (.mov (KI 0))])
(.block 0 (.loop claws_markGiveFieldS_L0))))
((.seq (.reg [] [MV 34 1,
 MV 4 34])
(.ret))))))
noncomputable def elaws_markGiveFieldS : Env := envL [(167, Flaws_markText)]
noncomputable def Flaws_markGiveFieldS : Fun := runF elaws_markGiveFieldS claws_markGiveFieldS [.t 4]
theorem elaws_markGiveFieldS_laws_markText : elaws_markGiveFieldS 167 = some Flaws_markText := by simp [elaws_markGiveFieldS, envL_cons]

/-! ### laws_markGiveHeldS: function 138 -/
def claws_markGiveHeldS_L0 : ACode := (.seq ((.seq (.reg [] [MV 6 5,
 MV 7 0,
 LE 8 7,
 OP 9 (.bin .lss (.t 6) (.t 8))])
(.cond (.t 9) (.skip) (.exit 0))))
((.seq (.block 1 ((.seq (.reg [] [MV 12 0,
 MV 13 5,
 MV 14 1,
 OP 15 (.call 167 [.t 14]),
 IA 16 3 12 13,
 FA 17 0 16,
 OX (.store 1 (.t 17) (.t 15))])
((.seq (.reg [] [MV 18 1,
 OP 19 (.bin .add (.t 18) (KI 1)),
 MV 1 19])
((.seq (.reg [] [MV 20 0,
 MV 21 5,
 IA 22 3 20 21,
 FA 23 1 22,
 LD 24 23,
 MV 25 1,
 OP 26 (.call 30 [.t 24, .t 25]),
 MV 1 26])
(.reg [] [MV 27 0,
 MV 28 5,
 IA 29 3 27 28,
 FA 30 2 29,
 LD 31 30,
 MV 32 1,
 OP 33 (.call 30 [.t 31, .t 32]),
 MV 1 33]))))))))
(.reg [] [MV 10 5,
 OP 11 (.bin .add (.t 10) (KI 1)),
 MV 5 11]))))
def claws_markGiveHeldS : ACode := (.seq (.reg [] [OP 4 (.mov (KI 0))])
((.seq ((.seq (.reg [] [OP 5 (.mov (KI 0))])
(.block 0 (.loop claws_markGiveHeldS_L0))))
((.seq (.reg [] [MV 34 1,
 MV 4 34])
(.ret))))))
noncomputable def elaws_markGiveHeldS : Env := envL [(30, Flaws_markGiveBoxS), (167, Flaws_markText)]
noncomputable def Flaws_markGiveHeldS : Fun := runF elaws_markGiveHeldS claws_markGiveHeldS [.t 4]
theorem elaws_markGiveHeldS_laws_markGiveBoxS : elaws_markGiveHeldS 30 = some Flaws_markGiveBoxS := by simp [elaws_markGiveHeldS, envL_cons]
theorem elaws_markGiveHeldS_laws_markText : elaws_markGiveHeldS 167 = some Flaws_markText := by simp [elaws_markGiveHeldS, envL_cons]

/-! ### laws_markGiveBook: function 60 -/
def claws_markGiveBook : ACode := (.seq (.reg [2] [OP 2 (.boxL 3 (.t 0)),
 OP 4 (.mov (KI 0))])
((.seq (.reg [] [FA 5 1 2,
 LD 6 5,
 MV 7 1,
 OP 8 (.call 137 [.t 6, .t 7]),
 MV 1 8])
((.seq (.reg [] [FA 9 2 2,
 LD 10 9,
 MV 11 1,
 OP 12 (.call 138 [.t 10, .t 11]),
 MV 1 12])
((.seq (.reg [] [MV 13 1,
 MV 4 13])
(.ret))))))))
noncomputable def elaws_markGiveBook : Env := envL [(137, Flaws_markGiveFieldS), (138, Flaws_markGiveHeldS)]
noncomputable def Flaws_markGiveBook : Fun := runF elaws_markGiveBook claws_markGiveBook [.t 4]
theorem elaws_markGiveBook_laws_markGiveFieldS : elaws_markGiveBook 137 = some Flaws_markGiveFieldS := by simp [elaws_markGiveBook, envL_cons]
theorem elaws_markGiveBook_laws_markGiveHeldS : elaws_markGiveBook 138 = some Flaws_markGiveHeldS := by simp [elaws_markGiveBook, envL_cons]

/-! ### laws_markGiveSpanS: function 61 -/
def claws_markGiveSpanS_L0 : ACode := (.seq ((.seq (.reg [] [MV 6 5,
 MV 7 0,
 LE 8 7,
 OP 9 (.bin .lss (.t 6) (.t 8))])
(.cond (.t 9) (.skip) (.exit 0))))
((.seq (.block 1 ((.seq (.reg [] [MV 12 0,
 MV 13 5,
 MV 14 1,
 IA 15 2 12 13,
 FA 16 0 15,
 OX (.store 1 (.t 16) (.t 14))])
((.seq (.reg [] [MV 17 1,
 OP 18 (.bin .add (.t 17) (KI 1)),
 MV 1 18])
((.seq (.reg [] [MV 19 0,
 MV 20 5,
 MV 21 1,
 IA 22 2 19 20,
 FA 23 1 22,
 OX (.store 1 (.t 23) (.t 21))])
(.reg [] [MV 24 1,
 OP 25 (.bin .add (.t 24) (KI 1)),
 MV 1 25]))))))))
(.reg [] [MV 10 5,
 OP 11 (.bin .add (.t 10) (KI 1)),
 MV 5 11]))))
def claws_markGiveSpanS : ACode := (.seq (.reg [] [OP 4 (.mov (KI 0))])
((.seq ((.seq (.reg [] [OP 5 (.mov (KI 0))])
(.block 0 (.loop claws_markGiveSpanS_L0))))
((.seq (.reg [] [MV 26 1,
 MV 4 26])
(.ret))))))
noncomputable def elaws_markGiveSpanS : Env := envL []
noncomputable def Flaws_markGiveSpanS : Fun := runF elaws_markGiveSpanS claws_markGiveSpanS [.t 4]

/-! ### laws_heldGiveSpanS: function 62 -/
def claws_heldGiveSpanS_L0 : ACode := (.seq ((.seq (.reg [] [MV 6 5,
 MV 7 0,
 LE 8 7,
 OP 9 (.bin .lss (.t 6) (.t 8))])
(.cond (.t 9) (.skip) (.exit 0))))
((.seq (.block 1 ((.seq ((.seq (.reg [] [MV 12 0,
 MV 13 5,
 IA 14 2 12 13,
 FA 15 0 14,
 LD 16 15,
 MV 17 1,
 OP 18 (.bin .neq (.t 16) (.t 17))])
(.cond (.t 18) ((.seq (.reg [] [OP 4 (.mov (KI (-1)))])
(.ret))) (.skip))))
((.seq (.reg [] [MV 19 1,
 OP 20 (.bin .add (.t 19) (KI 1)),
 MV 1 20])
((.seq ((.seq (.reg [] [MV 21 0,
 MV 22 5,
 IA 23 2 21 22,
 FA 24 1 23,
 LD 25 24,
 MV 26 1,
 OP 27 (.bin .neq (.t 25) (.t 26))])
(.cond (.t 27) ((.seq (.reg [] [OP 4 (.mov (KI (-1)))])
(.ret))) (.skip))))
(.reg [] [MV 28 1,
 OP 29 (.bin .add (.t 28) (KI 1)),
 MV 1 29]))))))))
(.reg [] [MV 10 5,
 OP 11 (.bin .add (.t 10) (KI 1)),
 MV 5 11]))))
def claws_heldGiveSpanS : ACode := (.seq (.reg [] [OP 4 (.mov (KI 0))])
((.seq ((.seq (.reg [] [OP 5 (.mov (KI 0))])
(.block 0 (.loop claws_heldGiveSpanS_L0))))
((.seq (.reg [] [MV 30 1,
 MV 4 30])
(.ret))))))
noncomputable def elaws_heldGiveSpanS : Env := envL []
noncomputable def Flaws_heldGiveSpanS : Fun := runF elaws_heldGiveSpanS claws_heldGiveSpanS [.t 4]

/-! ### laws_FnExactGiveBars: function 13 -/
def claws_FnExactGiveBars : ACode := (.seq (.reg [4] [OP 4 (.boxL 3 (.t 0)),
 MF 8])
((.seq ((.seq (.reg [] [MV 18 1,
 OP 19 (.lenS (.t 18)),
 OP 20 (.bin .gtr (.t 19) (KI 1048576))])
(.cond (.t 20) ((.seq (.reg [] [OP 8 (.mov KT)])
(.ret))) (.skip))))
((.seq (.reg [] [OP 9 (.mov (KI 1048576))])
((.seq (.reg [] [OP 21 (.loadN 3 (.t 4)),
 MV 22 9,
 OP 23 (.call 48 [.t 21, .t 22]),
 MV 9 23])
((.seq ((.seq (.reg [] [MV 24 9,
 OP 25 (.bin .lss (.t 24) (KI 0))])
(.cond (.t 25) ((.seq (.reg [] [OP 8 (.mov KT)])
(.ret))) (.skip))))
((.seq (.reg [] [MV 26 2,
 MV 27 9,
 OP 28 (.call 23 [.t 26, .t 27]),
 MV 9 28])
((.seq ((.seq (.reg [] [MV 29 9,
 OP 30 (.bin .lss (.t 29) (KI 0))])
(.cond (.t 30) ((.seq (.reg [] [OP 8 (.mov KT)])
(.ret))) (.skip))))
((.seq (.reg [] [OP 31 (.loadN 3 (.t 4)),
 OP 32 (.call 50 [.t 31]),
 MV 33 1,
 MV 34 2,
 OP 35 (.call 25 [.t 34]),
 MV 36 3,
 OP 37 (.call 57 [.t 32, .t 33, .t 35, .t 36]),
 MV 10 37])
((.seq (.reg [11] [OP 38 (.loadN 3 (.t 4)),
 OP 39 (.call 50 [.t 38]),
 OP 11 (.allocL 3 [.int .i64 0, .nils, .nils]),
 OX (.store 3 (.t 11) (.t 39))])
((.seq (.reg [] [MV 40 2,
 OP 41 (.call 25 [.t 40]),
 MV 12 41])
((.seq (.reg [] [OP 42 (.loadN 3 (.t 11)),
 MV 43 1,
 MV 44 12,
 MV 45 3,
 OP 46 (.call 58 [.t 42, .t 43, .t 44, .t 45]),
 MV 13 46])
((.seq ((.seq (.reg [] [MV 47 13,
 MV 48 10,
 OP 49 (.call 59 [.t 47, .t 48]),
 OP 50 (.un .not (.t 49))])
(.cond (.t 50) ((.seq (.reg [] [MF 8])
(.ret))) (.skip))))
((.seq ((.seq (.regD [] [OP 51 (.loadN 3 (.t 11)),
 OP 52 (.loadN 3 (.t 4)),
 OP 53 (.call 50 [.t 52]),
 OP 54 (.call 52 [.t 51, .t 53]),
 OP 55 (.un .not (.t 54))] [(2, 0)])
(.cond (.t 55) ((.seq (.reg [] [MF 8])
(.ret))) (.skip))))
((.seq ((.seq (.reg [] [MV 56 12,
 MV 57 2,
 OP 58 (.call 25 [.t 57]),
 OP 59 (.call 27 [.t 56, .t 58]),
 OP 60 (.un .not (.t 59))])
(.cond (.t 60) ((.seq (.reg [] [MF 8])
(.ret))) (.skip))))
((.seq (.reg [] [OP 14 (.mov (KI 1))])
((.seq (.reg [] [OP 61 (.loadN 3 (.t 11)),
 MV 62 14,
 OP 63 (.call 60 [.t 61, .t 62]),
 MV 14 63])
((.seq (.reg [] [MV 64 12,
 MV 65 14,
 OP 66 (.call 30 [.t 64, .t 65]),
 MV 14 66])
((.seq ((.seq (.reg [] [MV 67 14,
 OP 68 (.bin .lss (.t 67) (KI 0)),
 MV 69 68,
 OF 70 69 (.mov (.t 13)),
 OF 71 69 (.mov (.t 10)),
 OF 72 69 (.call 59 [.t 70, .t 71]),
 OF 73 69 (.un .not (.t 72)),
 OP 74 (.pick (.t 69) KT (.t 73))])
(.cond (.t 74) ((.seq (.reg [] [MF 8])
(.ret))) (.skip))))
((.seq (.reg [] [OP 15 (.mov (KI 1))])
((.seq (.reg [] [MV 75 13,
 MV 76 15,
 OP 77 (.call 61 [.t 75, .t 76]),
 MV 15 77])
((.seq (.reg [] [OP 16 (.mov (KI 1))])
((.seq (.reg [] [MV 78 13,
 MV 79 16,
 OP 80 (.call 62 [.t 78, .t 79]),
 MV 16 80])
((.seq ((.seq (.reg [] [MV 81 16,
 OP 82 (.bin .lss (.t 81) (KI 0))])
(.cond (.t 82) ((.seq (.reg [] [MF 8])
(.ret))) (.skip))))
((.seq ((.seq (.reg [] [MV 83 16,
 MV 84 15,
 OP 85 (.bin .neq (.t 83) (.t 84))])
(.cond (.t 85) ((.seq (.reg [] [MF 8])
(.ret))) (.skip))))
((.seq (.reg [] [OP 86 (.loadN 3 (.t 4)),
 OP 87 (.call 50 [.t 86]),
 MV 88 1,
 MV 89 2,
 OP 90 (.call 25 [.t 89]),
 MV 91 3,
 OP 92 (.call 58 [.t 87, .t 88, .t 90, .t 91]),
 MV 17 92])
((.seq ((.seq (.reg [] [MV 93 17,
 MV 94 10,
 OP 95 (.call 59 [.t 93, .t 94]),
 OP 96 (.un .not (.t 95))])
(.cond (.t 96) ((.seq (.reg [] [MF 8])
(.ret))) (.skip))))
((.seq (.reg [] [OP 16 (.mov (KI 1))])
((.seq (.reg [] [MV 97 13,
 MV 98 16,
 OP 99 (.call 62 [.t 97, .t 98]),
 MV 16 99])
((.seq ((.seq (.reg [] [MV 100 16,
 OP 101 (.bin .lss (.t 100) (KI 0))])
(.cond (.t 101) ((.seq (.reg [] [MF 8])
(.ret))) (.skip))))
((.seq ((.seq (.reg [] [MV 102 16,
 MV 103 15,
 OP 104 (.bin .neq (.t 102) (.t 103))])
(.cond (.t 104) ((.seq (.reg [] [MF 8])
(.ret))) (.skip))))
((.seq (.reg [] [OP 8 (.mov KT)])
(.ret))))))))))))))))))))))))))))))))))))))))))))))))))))))))))))))
noncomputable def elaws_FnExactGiveBars : Env := envL [(23, Flaws_szGiveBoxS), (25, Flaws_toGiveBoxS), (27, Flaws_eqGiveBoxS), (30, Flaws_markGiveBoxS), (48, Flaws_szGiveBook), (50, Flaws_toGiveBook), (52, Flaws_eqGiveBook), (57, Fspec_GiveBars), (58, Fimpl_GiveBars), (59, Flaws_eqGiveSpanS), (60, Flaws_markGiveBook), (61, Flaws_markGiveSpanS), (62, Flaws_heldGiveSpanS)]
noncomputable def Flaws_FnExactGiveBars : Fun := runF elaws_FnExactGiveBars claws_FnExactGiveBars [.t 8]
theorem elaws_FnExactGiveBars_laws_szGiveBoxS : elaws_FnExactGiveBars 23 = some Flaws_szGiveBoxS := by simp [elaws_FnExactGiveBars, envL_cons]
theorem elaws_FnExactGiveBars_laws_toGiveBoxS : elaws_FnExactGiveBars 25 = some Flaws_toGiveBoxS := by simp [elaws_FnExactGiveBars, envL_cons]
theorem elaws_FnExactGiveBars_laws_eqGiveBoxS : elaws_FnExactGiveBars 27 = some Flaws_eqGiveBoxS := by simp [elaws_FnExactGiveBars, envL_cons]
theorem elaws_FnExactGiveBars_laws_markGiveBoxS : elaws_FnExactGiveBars 30 = some Flaws_markGiveBoxS := by simp [elaws_FnExactGiveBars, envL_cons]
theorem elaws_FnExactGiveBars_laws_szGiveBook : elaws_FnExactGiveBars 48 = some Flaws_szGiveBook := by simp [elaws_FnExactGiveBars, envL_cons]
theorem elaws_FnExactGiveBars_laws_toGiveBook : elaws_FnExactGiveBars 50 = some Flaws_toGiveBook := by simp [elaws_FnExactGiveBars, envL_cons]
theorem elaws_FnExactGiveBars_laws_eqGiveBook : elaws_FnExactGiveBars 52 = some Flaws_eqGiveBook := by simp [elaws_FnExactGiveBars, envL_cons]
theorem elaws_FnExactGiveBars_spec_GiveBars : elaws_FnExactGiveBars 57 = some Fspec_GiveBars := by simp [elaws_FnExactGiveBars, envL_cons]
theorem elaws_FnExactGiveBars_impl_GiveBars : elaws_FnExactGiveBars 58 = some Fimpl_GiveBars := by simp [elaws_FnExactGiveBars, envL_cons]
theorem elaws_FnExactGiveBars_laws_eqGiveSpanS : elaws_FnExactGiveBars 59 = some Flaws_eqGiveSpanS := by simp [elaws_FnExactGiveBars, envL_cons]
theorem elaws_FnExactGiveBars_laws_markGiveBook : elaws_FnExactGiveBars 60 = some Flaws_markGiveBook := by simp [elaws_FnExactGiveBars, envL_cons]
theorem elaws_FnExactGiveBars_laws_markGiveSpanS : elaws_FnExactGiveBars 61 = some Flaws_markGiveSpanS := by simp [elaws_FnExactGiveBars, envL_cons]
theorem elaws_FnExactGiveBars_laws_heldGiveSpanS : elaws_FnExactGiveBars 62 = some Flaws_heldGiveSpanS := by simp [elaws_FnExactGiveBars, envL_cons]

end Go.Abs

/-
  What the codes tell is what the program's functions do (printed by wip/tools/gen3.py).
-/

namespace Go.Abs
open Go.Proofs
set_option maxRecDepth 100000

theorem sspec_l3Asked : Sound Try.prog 133 Fspec_l3Asked := sound_of (envL_ok (by simp only [List.forall_mem_cons, List.not_mem_nil, false_implies, implies_true, and_true]; exact ⟨sspec_GiveTubeOk, sspec_GiveBookOk, sspec_l1In⟩)) mixed [3] Try.func133 (by kernel_rfl) (by kernel_rfl) (by kernel_rfl)
theorem sspec_l2Tube : Sound Try.prog 146 Fspec_l2Tube := sound_of (envL_ok (fun p hp => by simp at hp)) mixed [] Try.func146 (by kernel_rfl) (by kernel_rfl) (by kernel_rfl)
theorem sspec_l3Later : Sound Try.prog 149 Fspec_l3Later := sound_of (envL_ok (by simp only [List.forall_mem_cons, List.not_mem_nil, false_implies, implies_true, and_true]; exact sspec_l2Tube)) mixed [] Try.func149 (by kernel_rfl) (by kernel_rfl) (by kernel_rfl)
theorem sspec_l3Can : Sound Try.prog 134 Fspec_l3Can := sound_of (envL_ok (by simp only [List.forall_mem_cons, List.not_mem_nil, false_implies, implies_true, and_true]; exact ⟨sspec_GiveTubeOk, sspec_l3Free, sspec_l3Later⟩)) mixed [4] Try.func134 (by kernel_rfl) (by kernel_rfl) (by kernel_rfl)
theorem sspec_GiveEarliest : Sound Try.prog 55 Fspec_GiveEarliest := sound_of (envL_ok (by simp only [List.forall_mem_cons, List.not_mem_nil, false_implies, implies_true, and_true]; exact ⟨sspec_l3Asked, sspec_l3Can⟩)) mixed [4] Try.func55 (by kernel_rfl) (by kernel_rfl) (by kernel_rfl)
theorem simpl_GiveBook_barred_1 : Sound Try.prog 166 Fimpl_GiveBook_barred_1 := sound_of (envL_ok (fun p hp => by simp at hp)) mixed [] Try.func166 (by kernel_rfl) (by kernel_rfl) (by kernel_rfl)
theorem simpl_GiveBook_barred : Sound Try.prog 135 Fimpl_GiveBook_barred := sound_of (envL_ok (by simp only [List.forall_mem_cons, List.not_mem_nil, false_implies, implies_true, and_true]; exact ⟨simpl_beside, simpl_GiveBook_barred_1⟩)) mixed [4, 12, 14, 18, 20] Try.func135 (by kernel_rfl) (by kernel_rfl) (by kernel_rfl)
theorem simpl_GiveEarliest : Sound Try.prog 56 Fimpl_GiveEarliest := sound_of (envL_ok (by simp only [List.forall_mem_cons, List.not_mem_nil, false_implies, implies_true, and_true]; exact ⟨simpl_GiveTubeOk, simpl_GiveBookOk, simpl_in, simpl_GiveBook_barred⟩)) mixed [4] Try.func56 (by kernel_rfl) (by kernel_rfl) (by kernel_rfl)
theorem slaws_FnExactGiveEarliest : Sound Try.prog 12 Flaws_FnExactGiveEarliest := sound_of (envL_ok (by simp only [List.forall_mem_cons, List.not_mem_nil, false_implies, implies_true, and_true]; exact ⟨slaws_szGiveBoxS, slaws_toGiveBoxS, slaws_eqGiveBoxS, slaws_szGiveBook, slaws_toGiveBook, slaws_eqGiveBook, sspec_GiveEarliest, simpl_GiveEarliest⟩)) mixed [4, 12] Try.func12 (by kernel_rfl) (by kernel_rfl) (by kernel_rfl)
theorem sspec_GiveBars : Sound Try.prog 57 Fspec_GiveBars := sound_of (envL_ok (by simp only [List.forall_mem_cons, List.not_mem_nil, false_implies, implies_true, and_true]; exact ⟨sspec_l3Asked, sspec_l3Can⟩)) mixed [4, 54] Try.func57 (by kernel_rfl) (by kernel_rfl) (by kernel_rfl)
theorem simpl_GiveBars : Sound Try.prog 58 Fimpl_GiveBars := sound_of (envL_ok (by simp only [List.forall_mem_cons, List.not_mem_nil, false_implies, implies_true, and_true]; exact ⟨simpl_GiveTubeOk, simpl_GiveBookOk, simpl_in, simpl_GiveBook_barred⟩)) mixed [4, 66] Try.func58 (by kernel_rfl) (by kernel_rfl) (by kernel_rfl)
theorem slaws_eqGiveSpan : Sound Try.prog 136 Flaws_eqGiveSpan := sound_of (envL_ok (fun p hp => by simp at hp)) mixed [2, 3] Try.func136 (by kernel_rfl) (by kernel_rfl) (by kernel_rfl)
theorem slaws_eqGiveSpanS : Sound Try.prog 59 Flaws_eqGiveSpanS := sound_of (envL_ok (by simp only [List.forall_mem_cons, List.not_mem_nil, false_implies, implies_true, and_true]; exact slaws_eqGiveSpan)) mixed [] Try.func59 (by kernel_rfl) (by kernel_rfl) (by kernel_rfl)
theorem slaws_markText : Sound Try.prog 167 Flaws_markText := sound_of (envL_ok (fun p hp => by simp at hp)) mixed [] Try.func167 (by kernel_rfl) (by kernel_rfl) (by kernel_rfl)
theorem slaws_markGiveFieldS : Sound Try.prog 137 Flaws_markGiveFieldS := sound_of (envL_ok (by simp only [List.forall_mem_cons, List.not_mem_nil, false_implies, implies_true, and_true]; exact slaws_markText)) mixed [] Try.func137 (by kernel_rfl) (by kernel_rfl) (by kernel_rfl)
theorem slaws_markGiveHeldS : Sound Try.prog 138 Flaws_markGiveHeldS := sound_of (envL_ok (by simp only [List.forall_mem_cons, List.not_mem_nil, false_implies, implies_true, and_true]; exact ⟨slaws_markGiveBoxS, slaws_markText⟩)) mixed [] Try.func138 (by kernel_rfl) (by kernel_rfl) (by kernel_rfl)
theorem slaws_markGiveBook : Sound Try.prog 60 Flaws_markGiveBook := sound_of (envL_ok (by simp only [List.forall_mem_cons, List.not_mem_nil, false_implies, implies_true, and_true]; exact ⟨slaws_markGiveFieldS, slaws_markGiveHeldS⟩)) mixed [2] Try.func60 (by kernel_rfl) (by kernel_rfl) (by kernel_rfl)
theorem slaws_markGiveSpanS : Sound Try.prog 61 Flaws_markGiveSpanS := sound_of (envL_ok (fun p hp => by simp at hp)) mixed [] Try.func61 (by kernel_rfl) (by kernel_rfl) (by kernel_rfl)
theorem slaws_heldGiveSpanS : Sound Try.prog 62 Flaws_heldGiveSpanS := sound_of (envL_ok (fun p hp => by simp at hp)) mixed [] Try.func62 (by kernel_rfl) (by kernel_rfl) (by kernel_rfl)
theorem slaws_FnExactGiveBars : Sound Try.prog 13 Flaws_FnExactGiveBars := sound_of (envL_ok (by simp only [List.forall_mem_cons, List.not_mem_nil, false_implies, implies_true, and_true]; exact ⟨slaws_szGiveBoxS, slaws_toGiveBoxS, slaws_eqGiveBoxS, slaws_markGiveBoxS, slaws_szGiveBook, slaws_toGiveBook, slaws_eqGiveBook, sspec_GiveBars, simpl_GiveBars, slaws_eqGiveSpanS, slaws_markGiveBook, slaws_markGiveSpanS, slaws_heldGiveSpanS⟩)) mixed [4, 11] Try.func13 (by kernel_rfl) (by kernel_rfl) (by kernel_rfl)

end Go.Abs
