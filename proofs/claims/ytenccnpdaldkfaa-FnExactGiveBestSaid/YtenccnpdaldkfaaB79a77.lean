/-
  The codes of the functions, for the abstract machine (printed by wip/tools/gen3.py; not typed by hand).
-/
import Derived.Test.YtenccnpdaldkfaaB69a55
import Derived.Test.YtenccnpdaldkfaaB4dbb2
set_option linter.unusedSimpArgs false
set_option linter.unusedVariables false
namespace Go.Abs

/-! ### spec_l2Copy: function 139 -/
def cspec_l2Copy_L0 : ACode := (.seq ((.seq (.reg [] [MV 12 4,
 FA 13 2 1,
 LD 14 13,
 LE 15 14,
 OP 16 (.bin .lss (.t 12) (.t 15))])
(.cond (.t 16) (.skip) (.exit 0))))
((.seq (.block 1 (.regD [42] [FA 19 2 3,
 LD 20 19,
 FA 21 2 1,
 LD 22 21,
 MV 23 4,
 IA 24 3 22 23,
 FA 25 0 24,
 LD 26 25,
 FA 27 2 1,
 LD 28 27,
 MV 29 4,
 IA 30 3 28 29,
 FA 31 1 30,
 LD 32 31,
 OP 33 (.call 146 [.t 32]),
 FA 34 2 1,
 LD 35 34,
 MV 36 4,
 IA 37 3 35 36,
 FA 38 2 37,
 LD 39 38,
 OP 40 (.call 146 [.t 39]),
 ⟨some 41, .build [.str ⟨#[]⟩, .nils, .nils] [(0, 1, .t 26), (1, 1, .t 33), (2, 1, .t 40)], none⟩,
 ⟨some 42, .mkSlL 3 1 [.str ⟨#[]⟩, .nils, .nils] [(0, 3, .t 41)], none⟩,
 OP 43 (.append 3 (.t 20) (.t 42)),
 FA 44 2 3,
 OX (.store 1 (.t 44) (.t 43))] [(14, 1), (14, 3), (14, 7), (14, 16), (14, 20), (21, 1), (21, 3), (21, 7)]))
(.reg [] [MV 17 4,
 OP 18 (.bin .add (.t 17) (KI 1)),
 MV 4 18]))))
def cspec_l2Copy : ACode := (.seq (.reg [1, 2] [OP 1 (.boxL 3 (.t 0)),
 OP 2 (.allocL 3 [.int .i64 0, .nils, .nils])])
((.seq (.regD [3] [FA 5 0 1,
 LD 6 5,
 ⟨some 7, .mkSlH 3 0 [.str ⟨#[]⟩, .int .i64 0, .int .i64 0] [], none⟩,
 FA 8 1 1,
 LD 9 8,
 OP 10 (.append 3 (.t 7) (.t 9)),
 OP 11 (.build [.int .i64 0, .nils, .nils] [(0, 1, .t 6), (1, 1, .t 10)]),
 OP 3 (.allocL 3 [.int .i64 0, .nils, .nils]),
 OX (.store 3 (.t 3) (.t 11))] [(5, 1), (5, 7)])
((.seq ((.seq (.reg [] [OP 4 (.mov (KI 0))])
(.block 0 (.loop cspec_l2Copy_L0))))
((.seq (.reg [] [OP 45 (.loadN 3 (.t 3)),
 OX (.store 3 (.t 2) (.t 45))])
(.ret))))))))
noncomputable def espec_l2Copy : Env := envL [(146, Fspec_l2Tube)]
noncomputable def Fspec_l2Copy : Fun := runF espec_l2Copy cspec_l2Copy [.cellN 2 3]
theorem espec_l2Copy_spec_l2Tube : espec_l2Copy 146 = some Fspec_l2Tube := by simp [espec_l2Copy, envL_cons]

/-! ### spec_l2At: function 140 -/
def cspec_l2At_L0 : ACode := (.seq ((.seq (.reg [] [MV 6 5,
 FA 7 2 2,
 LD 8 7,
 LE 9 8,
 OP 10 (.bin .lss (.t 6) (.t 9))])
(.cond (.t 10) (.skip) (.exit 0))))
((.seq (.block 1 ((.seq (.reg [] [FA 13 2 2,
 LD 14 13,
 MV 15 5,
 IA 16 3 14 15,
 FA 17 0 16,
 LD 18 17,
 MV 19 1,
 OP 20 (.bin .eql (.t 18) (.t 19))])
(.cond (.t 20) ((.seq (.reg [] [MV 21 5,
 MV 4 21])
(.ret))) (.skip)))))
(.reg [] [MV 11 5,
 OP 12 (.bin .add (.t 11) (KI 1)),
 MV 5 12]))))
def cspec_l2At : ACode := (.seq (.reg [2] [OP 2 (.boxL 3 (.t 0)),
 OP 4 (.mov (KI 0))])
((.seq ((.seq (.reg [] [OP 5 (.mov (KI 0))])
(.block 0 (.loop cspec_l2At_L0))))
((.seq (.reg [] [OP 4 (.mov (KI (-1)))])
(.ret))))))
noncomputable def espec_l2At : Env := envL []
noncomputable def Fspec_l2At : Fun := runF espec_l2At cspec_l2At [.t 4]

/-! ### spec_GiveHear: function 63 -/
def cspec_GiveHear : ACode := (.seq (.reg [3, 6] [OP 3 (.boxL 3 (.t 0)),
 OP 6 (.allocL 3 [.int .i64 0, .nils, .nils]),
 OP 7 (.mov (KI 0))])
((.seq ((.seq (.reg [] [OP 10 (.loadN 3 (.t 3)),
 OP 11 (.call 49 [.t 10]),
 OP 12 (.un .not (.t 11))])
(.cond (.t 12) ((.seq (.reg [] [OP 13 (.build [.int .i64 0, .nils, .nils] []),
 OX (.store 3 (.t 6) (.t 13)),
 OP 7 (.mov (KI 1))])
(.ret))) (.skip))))
((.seq (.reg [8] [OP 14 (.loadN 3 (.t 3)),
 OP 15 (.call 139 [.t 14]),
 OP 8 (.allocL 3 [.int .i64 0, .nils, .nils]),
 OX (.store 3 (.t 8) (.t 15))])
((.seq (.reg [] [OP 16 (.loadN 3 (.t 3)),
 MV 17 1,
 OP 18 (.call 140 [.t 16, .t 17]),
 MV 9 18])
((.seq ((.seq (.reg [] [MV 19 9,
 OP 20 (.bin .lss (.t 19) (KI 0))])
(.cond (.t 20) ((.seq (.reg [] [OP 21 (.loadN 3 (.t 8)),
 OX (.store 3 (.t 6) (.t 21)),
 OP 7 (.mov (KI 6))])
(.ret))) (.skip))))
((.seq ((.seq (.reg [] [FA 22 2 3,
 LD 23 22,
 MV 24 9,
 IA 25 3 23 24,
 FA 26 2 25,
 LD 27 26,
 LE 28 27,
 OP 29 (.bin .eql (.t 28) (KI 0))])
(.cond (.t 29) ((.seq (.reg [] [OP 30 (.loadN 3 (.t 8)),
 OX (.store 3 (.t 6) (.t 30)),
 OP 7 (.mov (KI 8))])
(.ret))) (.skip))))
((.seq ((.seq (.reg [] [MV 31 2])
(.cond (.t 31) (.regD [] [FA 32 2 8,
 LD 33 32,
 MV 34 9,
 FA 35 2 8,
 LD 36 35,
 MV 37 9,
 IA 38 3 36 37,
 FA 39 2 38,
 LD 40 39,
 IA 41 3 33 34,
 FA 42 1 41,
 OX (.store 1 (.t 42) (.t 40))] []) (.skip))))
((.seq (.reg [] [FA 43 2 8,
 LD 44 43,
 MV 45 9,
 OP 46 (.mkSlH 6 0 Z6 []),
 IA 47 3 44 45,
 FA 48 2 47,
 OX (.store 1 (.t 48) (.t 46))])
((.seq (.reg [] [OP 49 (.loadN 3 (.t 8)),
 OX (.store 3 (.t 6) (.t 49)),
 OP 7 (.mov (KI 0))])
(.ret))))))))))))))))))
noncomputable def espec_GiveHear : Env := envL [(49, Fspec_GiveBookOk), (139, Fspec_l2Copy), (140, Fspec_l2At)]
noncomputable def Fspec_GiveHear : Fun := runF espec_GiveHear cspec_GiveHear [.cellN 6 3, .t 7]
theorem espec_GiveHear_spec_GiveBookOk : espec_GiveHear 49 = some Fspec_GiveBookOk := by simp [espec_GiveHear, envL_cons]
theorem espec_GiveHear_spec_l2Copy : espec_GiveHear 139 = some Fspec_l2Copy := by simp [espec_GiveHear, envL_cons]
theorem espec_GiveHear_spec_l2At : espec_GiveHear 140 = some Fspec_l2At := by simp [espec_GiveHear, envL_cons]

/-! ### impl_copyTube: function 147 -/
def cimpl_copyTube : ACode := (.seq (.reg [] [OP 2 (.mov KN)])
((.seq (.reg [] [OP 3 (.mkSlH 6 0 Z6 []),
 MV 4 0,
 OP 5 (.append 6 (.t 3) (.t 4)),
 MV 2 5])
(.ret))))
noncomputable def eimpl_copyTube : Env := envL []
noncomputable def Fimpl_copyTube : Fun := runF eimpl_copyTube cimpl_copyTube [.t 2]

/-! ### impl_copyBook: function 141 -/
def cimpl_copyBook_L0 : ACode := (.seq (.reg [] [OP 17 (.bin .lss (.t 16) (.t 15))])
((.seq (.cond (.t 17) (.skip) (.exit 0))
((.seq (.block 1 ((.seq (.reg [5] [IA 18 3 14 16,
 OP 19 (.loadN 3 (.t 18)),
 ⟨some 5, .allocL 3 [.str ⟨#[]⟩, .nils, .nils], none⟩,
 OX (.store 3 (.t 5) (.t 19))])
(.regD [31] [FA 20 2 3,
 LD 21 20,
 FA 22 0 5,
 LD 23 22,
 FA 24 1 5,
 LD 25 24,
 OP 26 (.call 147 [.t 25]),
 FA 27 2 5,
 LD 28 27,
 OP 29 (.call 147 [.t 28]),
 ⟨some 30, .build [.str ⟨#[]⟩, .nils, .nils] [(0, 1, .t 23), (1, 1, .t 26), (2, 1, .t 29)], none⟩,
 ⟨some 31, .mkSlL 3 1 [.str ⟨#[]⟩, .nils, .nils] [(0, 3, .t 30)], none⟩,
 OP 32 (.append 3 (.t 21) (.t 31)),
 FA 33 2 3,
 OX (.store 1 (.t 33) (.t 32))] [(6, 1), (6, 3), (6, 8), (9, 1), (9, 3)]))))
(.reg [] [OP 34 (.bin .add (.t 16) (KI 1)),
 MV 16 34]))))))
def cimpl_copyBook : ACode := (.seq (.reg [1, 2] [OP 1 (.boxL 3 (.t 0)),
 OP 2 (.allocL 3 [.int .i64 0, .nils, .nils])])
((.seq (.regD [3] [FA 6 0 1,
 LD 7 6,
 ⟨some 8, .mkSlH 3 0 [.str ⟨#[]⟩, .int .i64 0, .int .i64 0] [], none⟩,
 FA 9 1 1,
 LD 10 9,
 OP 11 (.append 3 (.t 8) (.t 10)),
 OP 12 (.build [.int .i64 0, .nils, .nils] [(0, 1, .t 7), (1, 1, .t 11)]),
 OP 3 (.allocL 3 [.int .i64 0, .nils, .nils]),
 OX (.store 3 (.t 3) (.t 12))] [(5, 1), (5, 7)])
((.seq ((.seq (.reg [] [FA 13 2 1,
 LD 14 13,
 LE 15 14,
 OP 16 (.mov (KI 0))])
(.block 0 (.loop cimpl_copyBook_L0))))
((.seq (.reg [] [OP 35 (.loadN 3 (.t 3)),
 OX (.store 3 (.t 2) (.t 35))])
(.ret))))))))
noncomputable def eimpl_copyBook : Env := envL [(147, Fimpl_copyTube)]
noncomputable def Fimpl_copyBook : Fun := runF eimpl_copyBook cimpl_copyBook [.cellN 2 3]
theorem eimpl_copyBook_impl_copyTube : eimpl_copyBook 147 = some Fimpl_copyTube := by simp [eimpl_copyBook, envL_cons]

/-! ### impl_GiveBook_at: function 142 -/
def cimpl_GiveBook_at_L0 : ACode := (.seq (.reg [] [OP 11 (.bin .lss (.t 10) (.t 9))])
((.seq (.cond (.t 11) (.skip) (.exit 0))
((.seq (.block 1 ((.seq (.reg [6] [MV 12 10,
 IA 13 3 8 10,
 OP 14 (.loadN 3 (.t 13)),
 ⟨some 6, .allocL 3 [.str ⟨#[]⟩, .nils, .nils], none⟩,
 MV 5 12,
 OX (.store 3 (.t 6) (.t 14))])
((.seq (.reg [] [FA 15 0 6,
 LD 16 15,
 MV 17 1,
 OP 18 (.bin .eql (.t 16) (.t 17))])
(.cond (.t 18) ((.seq (.reg [] [MV 19 5,
 MV 4 19])
(.ret))) (.skip)))))))
(.reg [] [OP 20 (.bin .add (.t 10) (KI 1)),
 MV 10 20]))))))
def cimpl_GiveBook_at : ACode := (.seq (.reg [2] [OP 2 (.boxL 3 (.t 0)),
 OP 4 (.mov (KI 0))])
((.seq ((.seq (.reg [] [FA 7 2 2,
 LD 8 7,
 LE 9 8,
 OP 10 (.mov (KI 0))])
(.block 0 (.loop cimpl_GiveBook_at_L0))))
((.seq (.reg [] [OP 4 (.mov (KI (-1)))])
(.ret))))))
noncomputable def eimpl_GiveBook_at : Env := envL []
noncomputable def Fimpl_GiveBook_at : Fun := runF eimpl_GiveBook_at cimpl_GiveBook_at [.t 4]

/-! ### impl_GiveHear: function 64 -/
def cimpl_GiveHear : ACode := (.seq (.reg [3, 6] [OP 3 (.boxL 3 (.t 0)),
 OP 6 (.allocL 3 [.int .i64 0, .nils, .nils]),
 OP 7 (.mov (KI 0))])
((.seq ((.seq (.reg [] [OP 10 (.loadN 3 (.t 3)),
 OP 11 (.call 51 [.t 10]),
 OP 12 (.un .not (.t 11))])
(.cond (.t 12) ((.seq (.reg [] [OP 13 (.build [.int .i64 0, .nils, .nils] []),
 OX (.store 3 (.t 6) (.t 13)),
 OP 7 (.mov (KI 1))])
(.ret))) (.skip))))
((.seq (.reg [8] [OP 14 (.loadN 3 (.t 3)),
 OP 15 (.call 141 [.t 14]),
 OP 8 (.allocL 3 [.int .i64 0, .nils, .nils]),
 OX (.store 3 (.t 8) (.t 15))])
((.seq (.reg [] [OP 16 (.loadN 3 (.t 3)),
 MV 17 1,
 OP 18 (.call 142 [.t 16, .t 17]),
 MV 9 18])
((.seq (.block 0 ((.seq (.reg [] [MV 20 9,
 OP 21 (.bin .lss (.t 20) (KI 0)),
 MV 19 21])
(.cond (.t 19) ((.seq (.reg [] [OP 22 (.loadN 3 (.t 8)),
 OX (.store 3 (.t 6) (.t 22)),
 OP 7 (.mov (KI 6))])
(.ret))) ((.seq (.reg [] [FA 24 2 3,
 LD 25 24,
 MV 26 9,
 IA 27 3 25 26,
 FA 28 2 27,
 LD 29 28,
 LE 30 29,
 OP 31 (.bin .eql (.t 30) (KI 0)),
 MV 23 31])
(.cond (.t 23) ((.seq (.reg [] [OP 32 (.loadN 3 (.t 8)),
 OX (.store 3 (.t 6) (.t 32)),
 OP 7 (.mov (KI 8))])
(.ret))) (.skip))))))))
((.seq ((.seq (.reg [] [MV 33 2])
(.cond (.t 33) (.regD [] [FA 34 2 8,
 LD 35 34,
 MV 36 9,
 FA 37 2 8,
 LD 38 37,
 MV 39 9,
 IA 40 3 38 39,
 FA 41 2 40,
 LD 42 41,
 IA 43 3 35 36,
 FA 44 1 43,
 OX (.store 1 (.t 44) (.t 42))] []) (.skip))))
((.seq (.reg [] [FA 45 2 8,
 LD 46 45,
 MV 47 9,
 IA 48 3 46 47,
 FA 49 2 48,
 OX (.store 1 (.t 49) KN)])
((.seq (.reg [] [OP 50 (.loadN 3 (.t 8)),
 OX (.store 3 (.t 6) (.t 50)),
 OP 7 (.mov (KI 0))])
(.ret))))))))))))))))
noncomputable def eimpl_GiveHear : Env := envL [(51, Fimpl_GiveBookOk), (141, Fimpl_copyBook), (142, Fimpl_GiveBook_at)]
noncomputable def Fimpl_GiveHear : Fun := runF eimpl_GiveHear cimpl_GiveHear [.cellN 6 3, .t 7]
theorem eimpl_GiveHear_impl_GiveBookOk : eimpl_GiveHear 51 = some Fimpl_GiveBookOk := by simp [eimpl_GiveHear, envL_cons]
theorem eimpl_GiveHear_impl_copyBook : eimpl_GiveHear 141 = some Fimpl_copyBook := by simp [eimpl_GiveHear, envL_cons]
theorem eimpl_GiveHear_impl_GiveBook_at : eimpl_GiveHear 142 = some Fimpl_GiveBook_at := by simp [eimpl_GiveHear, envL_cons]

/-! ### laws_heldGiveFieldS: function 143 -/
def claws_heldGiveFieldS_L0 : ACode := (.seq ((.seq (.reg [] [MV 6 5,
 MV 7 0,
 LE 8 7,
 OP 9 (.bin .lss (.t 6) (.t 8))])
(.cond (.t 9) (.skip) (.exit 0))))
((.seq (.block 1 ((.seq ((.seq (.regD [] [MV 12 0,
 MV 13 5,
 IA 14 3 12 13,
 FA 15 0 14,
 LD 16 15,
 MV 17 1,
 OP 18 (.call 167 [.t 17]),
 OP 19 (.bin .neq (.t 16) (.t 18))] [(6, 4)])
(.cond (.t 19) ((.seq (.reg [] [OP 4 (.mov (KI (-1)))])
(.ret))) (.skip))))
((.seq (.reg [] [MV 20 1,
 OP 21 (.bin .add (.t 20) (KI 1)),
 MV 1 21])
((.seq ((.seq (.reg [] [MV 22 0,
 MV 23 5,
 IA 24 3 22 23,
 FA 25 1 24,
 LD 26 25,
 MV 27 1,
 OP 28 (.bin .neq (.t 26) (.t 27))])
(.cond (.t 28) ((.seq (.reg [] [OP 4 (.mov (KI (-1)))])
(.ret))) (.skip))))
((.seq (.reg [] [MV 29 1,
 OP 30 (.bin .add (.t 29) (KI 1)),
 MV 1 30])
((.seq ((.seq (.reg [] [MV 31 0,
 MV 32 5,
 IA 33 3 31 32,
 FA 34 2 33,
 LD 35 34,
 MV 36 1,
 OP 37 (.bin .neq (.t 35) (.t 36))])
(.cond (.t 37) ((.seq (.reg [] [OP 4 (.mov (KI (-1)))])
(.ret))) (.skip))))
(.reg [] [MV 38 1,
 OP 39 (.bin .add (.t 38) (KI 1)),
 MV 1 39]))))))))))))
(.reg [] [MV 10 5,
 OP 11 (.bin .add (.t 10) (KI 1)),
 MV 5 11]))))
def claws_heldGiveFieldS : ACode := (.seq (.reg [] [OP 4 (.mov (KI 0))])
((.seq ((.seq (.reg [] [OP 5 (.mov (KI 0))])
(.block 0 (.loop claws_heldGiveFieldS_L0))))
((.seq (.reg [] [MV 40 1,
 MV 4 40])
(.ret))))))
noncomputable def elaws_heldGiveFieldS : Env := envL [(167, Flaws_markText)]
noncomputable def Flaws_heldGiveFieldS : Fun := runF elaws_heldGiveFieldS claws_heldGiveFieldS [.t 4]
theorem elaws_heldGiveFieldS_laws_markText : elaws_heldGiveFieldS 167 = some Flaws_markText := by simp [elaws_heldGiveFieldS, envL_cons]

/-! ### laws_heldGiveHeldS: function 144 -/
def claws_heldGiveHeldS_L0 : ACode := (.seq ((.seq (.reg [] [MV 6 5,
 MV 7 0,
 LE 8 7,
 OP 9 (.bin .lss (.t 6) (.t 8))])
(.cond (.t 9) (.skip) (.exit 0))))
((.seq (.block 1 ((.seq ((.seq (.regD [] [MV 12 0,
 MV 13 5,
 IA 14 3 12 13,
 FA 15 0 14,
 LD 16 15,
 MV 17 1,
 OP 18 (.call 167 [.t 17]),
 OP 19 (.bin .neq (.t 16) (.t 18))] [(6, 4)])
(.cond (.t 19) ((.seq (.reg [] [OP 4 (.mov (KI (-1)))])
(.ret))) (.skip))))
((.seq (.reg [] [MV 20 1,
 OP 21 (.bin .add (.t 20) (KI 1)),
 MV 1 21])
((.seq (.reg [] [MV 22 0,
 MV 23 5,
 IA 24 3 22 23,
 FA 25 1 24,
 LD 26 25,
 MV 27 1,
 OP 28 (.call 31 [.t 26, .t 27]),
 MV 1 28])
((.seq ((.seq (.reg [] [MV 29 1,
 OP 30 (.bin .lss (.t 29) (KI 0))])
(.cond (.t 30) ((.seq (.reg [] [OP 4 (.mov (KI (-1)))])
(.ret))) (.skip))))
((.seq (.reg [] [MV 31 0,
 MV 32 5,
 IA 33 3 31 32,
 FA 34 2 33,
 LD 35 34,
 MV 36 1,
 OP 37 (.call 31 [.t 35, .t 36]),
 MV 1 37])
((.seq (.reg [] [MV 38 1,
 OP 39 (.bin .lss (.t 38) (KI 0))])
(.cond (.t 39) ((.seq (.reg [] [OP 4 (.mov (KI (-1)))])
(.ret))) (.skip)))))))))))))))
(.reg [] [MV 10 5,
 OP 11 (.bin .add (.t 10) (KI 1)),
 MV 5 11]))))
def claws_heldGiveHeldS : ACode := (.seq (.reg [] [OP 4 (.mov (KI 0))])
((.seq ((.seq (.reg [] [OP 5 (.mov (KI 0))])
(.block 0 (.loop claws_heldGiveHeldS_L0))))
((.seq (.reg [] [MV 40 1,
 MV 4 40])
(.ret))))))
noncomputable def elaws_heldGiveHeldS : Env := envL [(31, Flaws_heldGiveBoxS), (167, Flaws_markText)]
noncomputable def Flaws_heldGiveHeldS : Fun := runF elaws_heldGiveHeldS claws_heldGiveHeldS [.t 4]
theorem elaws_heldGiveHeldS_laws_heldGiveBoxS : elaws_heldGiveHeldS 31 = some Flaws_heldGiveBoxS := by simp [elaws_heldGiveHeldS, envL_cons]
theorem elaws_heldGiveHeldS_laws_markText : elaws_heldGiveHeldS 167 = some Flaws_markText := by simp [elaws_heldGiveHeldS, envL_cons]

/-! ### laws_heldGiveBook: function 65 -/
def claws_heldGiveBook : ACode := (.seq (.reg [2] [OP 2 (.boxL 3 (.t 0)),
 OP 4 (.mov (KI 0))])
((.seq (.reg [] [FA 5 1 2,
 LD 6 5,
 MV 7 1,
 OP 8 (.call 143 [.t 6, .t 7]),
 MV 1 8])
((.seq ((.seq (.reg [] [MV 9 1,
 OP 10 (.bin .lss (.t 9) (KI 0))])
(.cond (.t 10) ((.seq (.reg [] [OP 4 (.mov (KI (-1)))])
(.ret))) (.skip))))
((.seq (.reg [] [FA 11 2 2,
 LD 12 11,
 MV 13 1,
 OP 14 (.call 144 [.t 12, .t 13]),
 MV 1 14])
((.seq ((.seq (.reg [] [MV 15 1,
 OP 16 (.bin .lss (.t 15) (KI 0))])
(.cond (.t 16) ((.seq (.reg [] [OP 4 (.mov (KI (-1)))])
(.ret))) (.skip))))
((.seq (.reg [] [MV 17 1,
 MV 4 17])
(.ret))))))))))))
noncomputable def elaws_heldGiveBook : Env := envL [(143, Flaws_heldGiveFieldS), (144, Flaws_heldGiveHeldS)]
noncomputable def Flaws_heldGiveBook : Fun := runF elaws_heldGiveBook claws_heldGiveBook [.t 4]
theorem elaws_heldGiveBook_laws_heldGiveFieldS : elaws_heldGiveBook 143 = some Flaws_heldGiveFieldS := by simp [elaws_heldGiveBook, envL_cons]
theorem elaws_heldGiveBook_laws_heldGiveHeldS : elaws_heldGiveBook 144 = some Flaws_heldGiveHeldS := by simp [elaws_heldGiveBook, envL_cons]

/-! ### laws_FnExactGiveHear: function 14 -/
def claws_FnExactGiveHear : ACode := (.seq (.reg [3] [OP 3 (.boxL 3 (.t 0)),
 MF 6])
((.seq ((.seq (.reg [] [MV 18 1,
 OP 19 (.lenS (.t 18)),
 OP 20 (.bin .gtr (.t 19) (KI 1048576))])
(.cond (.t 20) ((.seq (.reg [] [OP 6 (.mov KT)])
(.ret))) (.skip))))
((.seq (.reg [] [OP 7 (.mov (KI 1048576))])
((.seq (.reg [] [OP 21 (.loadN 3 (.t 3)),
 MV 22 7,
 OP 23 (.call 48 [.t 21, .t 22]),
 MV 7 23])
((.seq ((.seq (.reg [] [MV 24 7,
 OP 25 (.bin .lss (.t 24) (KI 0))])
(.cond (.t 25) ((.seq (.reg [] [OP 6 (.mov KT)])
(.ret))) (.skip))))
((.seq (.reg [8] [OP 27 (.loadN 3 (.t 3)),
 OP 28 (.call 50 [.t 27]),
 MV 29 1,
 MV 30 2,
 OP 31 (.call 63 [.t 28, .t 29, .t 30]),
 MV 26 31,
 OP 32 (.extract (.t 26) 0),
 OP 33 (.extract (.t 26) 1),
 OP 8 (.allocL 3 [.int .i64 0, .nils, .nils]),
 OX (.store 3 (.t 8) (.t 32)),
 MV 9 33])
((.seq (.reg [10] [OP 34 (.loadN 3 (.t 3)),
 OP 35 (.call 50 [.t 34]),
 OP 10 (.allocL 3 [.int .i64 0, .nils, .nils]),
 OX (.store 3 (.t 10) (.t 35))])
((.seq (.reg [11] [OP 37 (.loadN 3 (.t 10)),
 MV 38 1,
 MV 39 2,
 OP 40 (.call 64 [.t 37, .t 38, .t 39]),
 MV 36 40,
 OP 41 (.extract (.t 36) 0),
 OP 42 (.extract (.t 36) 1),
 OP 11 (.allocL 3 [.int .i64 0, .nils, .nils]),
 OX (.store 3 (.t 11) (.t 41)),
 MV 12 42])
((.seq ((.seq (.reg [] [OP 43 (.loadN 3 (.t 11)),
 OP 44 (.loadN 3 (.t 8)),
 OP 45 (.call 52 [.t 43, .t 44]),
 OP 46 (.un .not (.t 45)),
 MV 47 46,
 OF 48 47 (.mov (.t 12)),
 OF 49 47 (.mov (.t 9)),
 OF 50 47 (.bin .neq (.t 48) (.t 49)),
 OP 51 (.pick (.t 47) KT (.t 50))])
(.cond (.t 51) ((.seq (.reg [] [MF 6])
(.ret))) (.skip))))
((.seq ((.seq (.regD [] [OP 52 (.loadN 3 (.t 10)),
 OP 53 (.loadN 3 (.t 3)),
 OP 54 (.call 50 [.t 53]),
 OP 55 (.call 52 [.t 52, .t 54]),
 OP 56 (.un .not (.t 55))] [(2, 0)])
(.cond (.t 56) ((.seq (.reg [] [MF 6])
(.ret))) (.skip))))
((.seq (.reg [] [OP 13 (.mov (KI 1))])
((.seq (.reg [] [OP 57 (.loadN 3 (.t 10)),
 MV 58 13,
 OP 59 (.call 60 [.t 57, .t 58]),
 MV 13 59])
((.seq ((.seq (.reg [] [MV 60 13,
 OP 61 (.bin .lss (.t 60) (KI 0)),
 MV 62 61,
 OF 63 62 (.loadN 3 (.t 11)),
 OF 64 62 (.loadN 3 (.t 8)),
 OF 65 62 (.call 52 [.t 63, .t 64]),
 OF 66 62 (.un .not (.t 65)),
 OP 67 (.pick (.t 62) KT (.t 66)),
 MV 68 67,
 OF 69 68 (.mov (.t 12)),
 OF 70 68 (.mov (.t 9)),
 OF 71 68 (.bin .neq (.t 69) (.t 70)),
 OP 72 (.pick (.t 68) KT (.t 71))])
(.cond (.t 72) ((.seq (.reg [] [MF 6])
(.ret))) (.skip))))
((.seq (.reg [] [OP 14 (.mov (KI 1))])
((.seq (.reg [] [OP 73 (.loadN 3 (.t 11)),
 MV 74 14,
 OP 75 (.call 60 [.t 73, .t 74]),
 MV 14 75])
((.seq (.reg [] [OP 15 (.mov (KI 1))])
((.seq (.reg [] [OP 76 (.loadN 3 (.t 11)),
 MV 77 15,
 OP 78 (.call 65 [.t 76, .t 77]),
 MV 15 78])
((.seq ((.seq (.reg [] [MV 79 15,
 OP 80 (.bin .lss (.t 79) (KI 0))])
(.cond (.t 80) ((.seq (.reg [] [MF 6])
(.ret))) (.skip))))
((.seq ((.seq (.reg [] [MV 81 15,
 MV 82 14,
 OP 83 (.bin .neq (.t 81) (.t 82))])
(.cond (.t 83) ((.seq (.reg [] [MF 6])
(.ret))) (.skip))))
((.seq (.reg [16] [OP 85 (.loadN 3 (.t 3)),
 OP 86 (.call 50 [.t 85]),
 MV 87 1,
 MV 88 2,
 OP 89 (.call 64 [.t 86, .t 87, .t 88]),
 MV 84 89,
 OP 90 (.extract (.t 84) 0),
 OP 91 (.extract (.t 84) 1),
 OP 16 (.allocL 3 [.int .i64 0, .nils, .nils]),
 OX (.store 3 (.t 16) (.t 90)),
 MV 17 91])
((.seq ((.seq (.reg [] [OP 92 (.loadN 3 (.t 16)),
 OP 93 (.loadN 3 (.t 8)),
 OP 94 (.call 52 [.t 92, .t 93]),
 OP 95 (.un .not (.t 94)),
 MV 96 95,
 OF 97 96 (.mov (.t 17)),
 OF 98 96 (.mov (.t 9)),
 OF 99 96 (.bin .neq (.t 97) (.t 98)),
 OP 100 (.pick (.t 96) KT (.t 99))])
(.cond (.t 100) ((.seq (.reg [] [MF 6])
(.ret))) (.skip))))
((.seq (.reg [] [OP 15 (.mov (KI 1))])
((.seq (.reg [] [OP 101 (.loadN 3 (.t 11)),
 MV 102 15,
 OP 103 (.call 65 [.t 101, .t 102]),
 MV 15 103])
((.seq ((.seq (.reg [] [MV 104 15,
 OP 105 (.bin .lss (.t 104) (KI 0))])
(.cond (.t 105) ((.seq (.reg [] [MF 6])
(.ret))) (.skip))))
((.seq ((.seq (.reg [] [MV 106 15,
 MV 107 14,
 OP 108 (.bin .neq (.t 106) (.t 107))])
(.cond (.t 108) ((.seq (.reg [] [MF 6])
(.ret))) (.skip))))
((.seq (.reg [] [OP 6 (.mov KT)])
(.ret))))))))))))))))))))))))))))))))))))))))))))))))))))
noncomputable def elaws_FnExactGiveHear : Env := envL [(48, Flaws_szGiveBook), (50, Flaws_toGiveBook), (52, Flaws_eqGiveBook), (60, Flaws_markGiveBook), (63, Fspec_GiveHear), (64, Fimpl_GiveHear), (65, Flaws_heldGiveBook)]
noncomputable def Flaws_FnExactGiveHear : Fun := runF elaws_FnExactGiveHear claws_FnExactGiveHear [.t 6]
theorem elaws_FnExactGiveHear_laws_szGiveBook : elaws_FnExactGiveHear 48 = some Flaws_szGiveBook := by simp [elaws_FnExactGiveHear, envL_cons]
theorem elaws_FnExactGiveHear_laws_toGiveBook : elaws_FnExactGiveHear 50 = some Flaws_toGiveBook := by simp [elaws_FnExactGiveHear, envL_cons]
theorem elaws_FnExactGiveHear_laws_eqGiveBook : elaws_FnExactGiveHear 52 = some Flaws_eqGiveBook := by simp [elaws_FnExactGiveHear, envL_cons]
theorem elaws_FnExactGiveHear_laws_markGiveBook : elaws_FnExactGiveHear 60 = some Flaws_markGiveBook := by simp [elaws_FnExactGiveHear, envL_cons]
theorem elaws_FnExactGiveHear_spec_GiveHear : elaws_FnExactGiveHear 63 = some Fspec_GiveHear := by simp [elaws_FnExactGiveHear, envL_cons]
theorem elaws_FnExactGiveHear_impl_GiveHear : elaws_FnExactGiveHear 64 = some Fimpl_GiveHear := by simp [elaws_FnExactGiveHear, envL_cons]
theorem elaws_FnExactGiveHear_laws_heldGiveBook : elaws_FnExactGiveHear 65 = some Flaws_heldGiveBook := by simp [elaws_FnExactGiveHear, envL_cons]

/-! ### spec_GiveTick: function 66 -/
def cspec_GiveTick_L0 : ACode := (.seq ((.seq (.reg [] [MV 36 8,
 FA 37 2 6,
 LD 38 37,
 LE 39 38,
 OP 40 (.bin .lss (.t 36) (.t 39))])
(.cond (.t 40) (.skip) (.exit 0))))
((.seq (.block 1 ((.seq (.reg [9] [FA 43 2 6,
 LD 44 43,
 MV 45 8,
 IA 46 3 44 45,
 OP 47 (.loadN 3 (.t 46)),
 ⟨some 9, .allocL 3 [.str ⟨#[]⟩, .nils, .nils], none⟩,
 OX (.store 3 (.t 9) (.t 47))])
((.seq (.reg [] [FA 48 1 9,
 LD 49 48,
 FA 50 0 6,
 LD 51 50,
 OP 52 (.call 28 [.t 49, .t 51]),
 FA 53 1 9,
 OX (.store 1 (.t 53) (.t 52))])
((.seq (.reg [] [FA 54 2 9,
 LD 55 54,
 FA 56 0 6,
 LD 57 56,
 OP 58 (.call 28 [.t 55, .t 57]),
 FA 59 2 9,
 OX (.store 1 (.t 59) (.t 58))])
((.seq ((.seq (.reg [] [FA 60 1 9,
 LD 61 60,
 LE 62 61,
 OP 63 (.bin .eql (.t 62) (KI 0))])
(.cond (.t 63) ((.seq (.reg [] [FA 64 2 9,
 LD 65 64,
 FA 66 1 9,
 OX (.store 1 (.t 66) (.t 65))])
(.reg [] [OP 67 (.mkSlH 6 0 Z6 []),
 FA 68 2 9,
 OX (.store 1 (.t 68) (.t 67))]))) (.skip))))
((.seq (.reg [] [FA 69 1 9,
 LD 70 69,
 LE 71 70,
 OP 72 (.bin .gtr (.t 71) (KI 0))])
(.cond (.t 72) (.reg [75] [MV 73 7,
 OP 74 (.loadN 3 (.t 9)),
 ⟨some 75, .mkSlL 3 1 [.str ⟨#[]⟩, .nils, .nils] [(0, 3, .t 74)], none⟩,
 OP 76 (.append 3 (.t 73) (.t 75)),
 MV 7 76]) (.skip)))))))))))))
(.reg [] [MV 41 8,
 OP 42 (.bin .add (.t 41) (KI 1)),
 MV 8 42]))))
def cspec_GiveTick : ACode := (.seq (.reg [2, 4] [OP 2 (.boxL 3 (.t 0)),
 OP 4 (.allocL 3 [.int .i64 0, .nils, .nils]),
 OP 5 (.mov (KI 0))])
((.seq ((.seq (.reg [] [OP 10 (.loadN 3 (.t 2)),
 OP 11 (.call 49 [.t 10]),
 OP 12 (.un .not (.t 11))])
(.cond (.t 12) ((.seq (.reg [] [OP 13 (.build [.int .i64 0, .nils, .nils] []),
 OX (.store 3 (.t 4) (.t 13)),
 OP 5 (.mov (KI 1))])
(.ret))) (.skip))))
((.seq (.reg [6] [OP 14 (.loadN 3 (.t 2)),
 OP 15 (.call 139 [.t 14]),
 OP 6 (.allocL 3 [.int .i64 0, .nils, .nils]),
 OX (.store 3 (.t 6) (.t 15))])
((.seq ((.seq (.reg [] [MV 16 1,
 OP 17 (.bin .lss (.t 16) (KI 0)),
 MV 18 17,
 OF 19 18 (.mov (.t 1)),
 OF 20 18 (.bin .gtr (.t 19) (KI 10000)),
 OP 21 (.pick (.t 18) KT (.t 20)),
 MV 22 21,
 OF 23 22 (.faddr 0 (.t 2)),
 OF 24 22 (.load1 (.t 23)),
 OF 25 22 (.mov (.t 1)),
 OF 26 22 (.bin .add (.t 24) (.t 25)),
 OF 27 22 (.bin .gtr (.t 26) (KI 10000)),
 OP 28 (.pick (.t 22) KT (.t 27))])
(.cond (.t 28) ((.seq (.reg [] [OP 29 (.loadN 3 (.t 6)),
 OX (.store 3 (.t 4) (.t 29)),
 OP 5 (.mov (KI 2))])
(.ret))) (.skip))))
((.seq (.reg [] [FA 30 0 6,
 LD 31 30,
 MV 32 1,
 OP 33 (.bin .add (.t 31) (.t 32)),
 FA 34 0 6,
 OX (.store 1 (.t 34) (.t 33))])
((.seq (.reg [] [⟨some 35, .mkSlH 3 0 [.str ⟨#[]⟩, .nils, .nils] [], none⟩,
 MV 7 35])
((.seq ((.seq (.reg [] [OP 8 (.mov (KI 0))])
(.block 0 (.loop cspec_GiveTick_L0))))
((.seq (.reg [] [MV 77 7,
 FA 78 2 6,
 OX (.store 1 (.t 78) (.t 77))])
((.seq (.reg [] [OP 79 (.loadN 3 (.t 6)),
 OP 80 (.call 139 [.t 79]),
 OX (.store 3 (.t 4) (.t 80)),
 OP 5 (.mov (KI 0))])
(.ret))))))))))))))))))
noncomputable def espec_GiveTick : Env := envL [(28, Fspec_GiveCut), (49, Fspec_GiveBookOk), (139, Fspec_l2Copy)]
noncomputable def Fspec_GiveTick : Fun := runF espec_GiveTick cspec_GiveTick [.cellN 4 3, .t 5]
theorem espec_GiveTick_spec_GiveCut : espec_GiveTick 28 = some Fspec_GiveCut := by simp [espec_GiveTick, envL_cons]
theorem espec_GiveTick_spec_GiveBookOk : espec_GiveTick 49 = some Fspec_GiveBookOk := by simp [espec_GiveTick, envL_cons]
theorem espec_GiveTick_spec_l2Copy : espec_GiveTick 139 = some Fspec_l2Copy := by simp [espec_GiveTick, envL_cons]

/-! ### impl_GiveTick: function 67 -/
def cimpl_GiveTick_L0 : ACode := (.seq (.reg [] [OP 36 (.bin .lss (.t 35) (.t 34))])
((.seq (.cond (.t 36) (.skip) (.exit 0))
((.seq (.block 1 ((.seq (.reg [9] [IA 37 3 33 35,
 OP 38 (.loadN 3 (.t 37)),
 ⟨some 9, .allocL 3 [.str ⟨#[]⟩, .nils, .nils], none⟩,
 OX (.store 3 (.t 9) (.t 38))])
((.seq (.regD [] [FA 39 1 9,
 LD 40 39,
 FA 41 0 6,
 LD 42 41,
 OP 43 (.call 29 [.t 40, .t 42]),
 FA 44 2 9,
 LD 45 44,
 FA 46 0 6,
 LD 47 46,
 OP 48 (.call 29 [.t 45, .t 47]),
 FA 49 1 9,
 OX (.store 1 (.t 49) (.t 43)),
 FA 50 2 9,
 OX (.store 1 (.t 50) (.t 48))] [(4, 6), (4, 8)])
((.seq ((.seq (.reg [] [FA 51 1 9,
 LD 52 51,
 LE 53 52,
 OP 54 (.bin .eql (.t 53) (KI 0))])
(.cond (.t 54) (.reg [] [FA 55 2 9,
 LD 56 55,
 FA 57 1 9,
 OX (.store 1 (.t 57) (.t 56)),
 FA 58 2 9,
 OX (.store 1 (.t 58) KN)]) (.skip))))
((.seq (.reg [] [FA 59 1 9,
 LD 60 59,
 LE 61 60,
 OP 62 (.bin .gtr (.t 61) (KI 0))])
(.cond (.t 62) (.reg [65] [MV 63 7,
 OP 64 (.loadN 3 (.t 9)),
 ⟨some 65, .mkSlL 3 1 [.str ⟨#[]⟩, .nils, .nils] [(0, 3, .t 64)], none⟩,
 OP 66 (.append 3 (.t 63) (.t 65)),
 MV 7 66]) (.skip)))))))))))
(.reg [] [OP 67 (.bin .add (.t 35) (KI 1)),
 MV 35 67]))))))
def cimpl_GiveTick : ACode := (.seq (.reg [2, 4] [OP 2 (.boxL 3 (.t 0)),
 OP 4 (.allocL 3 [.int .i64 0, .nils, .nils]),
 OP 5 (.mov (KI 0))])
((.seq ((.seq (.reg [] [OP 10 (.loadN 3 (.t 2)),
 OP 11 (.call 51 [.t 10]),
 OP 12 (.un .not (.t 11))])
(.cond (.t 12) ((.seq (.reg [] [OP 13 (.build [.int .i64 0, .nils, .nils] []),
 OX (.store 3 (.t 4) (.t 13)),
 OP 5 (.mov (KI 1))])
(.ret))) (.skip))))
((.seq (.reg [6] [OP 14 (.loadN 3 (.t 2)),
 OP 15 (.call 141 [.t 14]),
 OP 6 (.allocL 3 [.int .i64 0, .nils, .nils]),
 OX (.store 3 (.t 6) (.t 15))])
((.seq ((.seq (.reg [] [MV 16 1,
 OP 17 (.bin .lss (.t 16) (KI 0)),
 MV 18 17,
 OF 19 18 (.mov (.t 1)),
 OF 20 18 (.faddr 0 (.t 2)),
 OF 21 18 (.load1 (.t 20)),
 OF 22 18 (.bin .sub (KI 10000) (.t 21)),
 OF 23 18 (.bin .gtr (.t 19) (.t 22)),
 OP 24 (.pick (.t 18) KT (.t 23))])
(.cond (.t 24) ((.seq (.reg [] [OP 25 (.loadN 3 (.t 6)),
 OX (.store 3 (.t 4) (.t 25)),
 OP 5 (.mov (KI 2))])
(.ret))) (.skip))))
((.seq (.reg [] [FA 26 0 6,
 LD 27 26,
 MV 28 1,
 OP 29 (.bin .add (.t 27) (.t 28)),
 FA 30 0 6,
 OX (.store 1 (.t 30) (.t 29))])
((.seq (.reg [] [⟨some 31, .mkSlH 3 0 [.str ⟨#[]⟩, .nils, .nils] [], none⟩,
 MV 7 31])
((.seq ((.seq (.reg [] [FA 32 2 6,
 LD 33 32,
 LE 34 33,
 OP 35 (.mov (KI 0))])
(.block 0 (.loop cimpl_GiveTick_L0))))
((.seq (.reg [] [MV 68 7,
 FA 69 2 6,
 OX (.store 1 (.t 69) (.t 68))])
((.seq (.reg [] [OP 70 (.loadN 3 (.t 6)),
 OX (.store 3 (.t 4) (.t 70)),
 OP 5 (.mov (KI 0))])
(.ret))))))))))))))))))
noncomputable def eimpl_GiveTick : Env := envL [(29, Fimpl_GiveCut), (51, Fimpl_GiveBookOk), (141, Fimpl_copyBook)]
noncomputable def Fimpl_GiveTick : Fun := runF eimpl_GiveTick cimpl_GiveTick [.cellN 4 3, .t 5]
theorem eimpl_GiveTick_impl_GiveCut : eimpl_GiveTick 29 = some Fimpl_GiveCut := by simp [eimpl_GiveTick, envL_cons]
theorem eimpl_GiveTick_impl_GiveBookOk : eimpl_GiveTick 51 = some Fimpl_GiveBookOk := by simp [eimpl_GiveTick, envL_cons]
theorem eimpl_GiveTick_impl_copyBook : eimpl_GiveTick 141 = some Fimpl_copyBook := by simp [eimpl_GiveTick, envL_cons]

/-! ### laws_FnExactGiveTick: function 15 -/
def claws_FnExactGiveTick : ACode := (.seq (.reg [2] [OP 2 (.boxL 3 (.t 0)),
 MF 4])
((.seq (.reg [] [OP 5 (.mov (KI 1048576))])
((.seq (.reg [] [OP 16 (.loadN 3 (.t 2)),
 MV 17 5,
 OP 18 (.call 48 [.t 16, .t 17]),
 MV 5 18])
((.seq ((.seq (.reg [] [MV 19 5,
 OP 20 (.bin .lss (.t 19) (KI 0))])
(.cond (.t 20) ((.seq (.reg [] [OP 4 (.mov KT)])
(.ret))) (.skip))))
((.seq (.reg [6] [OP 22 (.loadN 3 (.t 2)),
 OP 23 (.call 50 [.t 22]),
 MV 24 1,
 OP 25 (.call 66 [.t 23, .t 24]),
 MV 21 25,
 OP 26 (.extract (.t 21) 0),
 OP 27 (.extract (.t 21) 1),
 OP 6 (.allocL 3 [.int .i64 0, .nils, .nils]),
 OX (.store 3 (.t 6) (.t 26)),
 MV 7 27])
((.seq (.reg [8] [OP 28 (.loadN 3 (.t 2)),
 OP 29 (.call 50 [.t 28]),
 OP 8 (.allocL 3 [.int .i64 0, .nils, .nils]),
 OX (.store 3 (.t 8) (.t 29))])
((.seq (.reg [9] [OP 31 (.loadN 3 (.t 8)),
 MV 32 1,
 OP 33 (.call 67 [.t 31, .t 32]),
 MV 30 33,
 OP 34 (.extract (.t 30) 0),
 OP 35 (.extract (.t 30) 1),
 OP 9 (.allocL 3 [.int .i64 0, .nils, .nils]),
 OX (.store 3 (.t 9) (.t 34)),
 MV 10 35])
((.seq ((.seq (.reg [] [OP 36 (.loadN 3 (.t 9)),
 OP 37 (.loadN 3 (.t 6)),
 OP 38 (.call 52 [.t 36, .t 37]),
 OP 39 (.un .not (.t 38)),
 MV 40 39,
 OF 41 40 (.mov (.t 10)),
 OF 42 40 (.mov (.t 7)),
 OF 43 40 (.bin .neq (.t 41) (.t 42)),
 OP 44 (.pick (.t 40) KT (.t 43))])
(.cond (.t 44) ((.seq (.reg [] [MF 4])
(.ret))) (.skip))))
((.seq ((.seq (.regD [] [OP 45 (.loadN 3 (.t 8)),
 OP 46 (.loadN 3 (.t 2)),
 OP 47 (.call 50 [.t 46]),
 OP 48 (.call 52 [.t 45, .t 47]),
 OP 49 (.un .not (.t 48))] [(2, 0)])
(.cond (.t 49) ((.seq (.reg [] [MF 4])
(.ret))) (.skip))))
((.seq (.reg [] [OP 11 (.mov (KI 1))])
((.seq (.reg [] [OP 50 (.loadN 3 (.t 8)),
 MV 51 11,
 OP 52 (.call 60 [.t 50, .t 51]),
 MV 11 52])
((.seq ((.seq (.reg [] [MV 53 11,
 OP 54 (.bin .lss (.t 53) (KI 0)),
 MV 55 54,
 OF 56 55 (.loadN 3 (.t 9)),
 OF 57 55 (.loadN 3 (.t 6)),
 OF 58 55 (.call 52 [.t 56, .t 57]),
 OF 59 55 (.un .not (.t 58)),
 OP 60 (.pick (.t 55) KT (.t 59)),
 MV 61 60,
 OF 62 61 (.mov (.t 10)),
 OF 63 61 (.mov (.t 7)),
 OF 64 61 (.bin .neq (.t 62) (.t 63)),
 OP 65 (.pick (.t 61) KT (.t 64))])
(.cond (.t 65) ((.seq (.reg [] [MF 4])
(.ret))) (.skip))))
((.seq (.reg [] [OP 12 (.mov (KI 1))])
((.seq (.reg [] [OP 66 (.loadN 3 (.t 9)),
 MV 67 12,
 OP 68 (.call 60 [.t 66, .t 67]),
 MV 12 68])
((.seq (.reg [] [OP 13 (.mov (KI 1))])
((.seq (.reg [] [OP 69 (.loadN 3 (.t 9)),
 MV 70 13,
 OP 71 (.call 65 [.t 69, .t 70]),
 MV 13 71])
((.seq ((.seq (.reg [] [MV 72 13,
 OP 73 (.bin .lss (.t 72) (KI 0))])
(.cond (.t 73) ((.seq (.reg [] [MF 4])
(.ret))) (.skip))))
((.seq ((.seq (.reg [] [MV 74 13,
 MV 75 12,
 OP 76 (.bin .neq (.t 74) (.t 75))])
(.cond (.t 76) ((.seq (.reg [] [MF 4])
(.ret))) (.skip))))
((.seq (.reg [14] [OP 78 (.loadN 3 (.t 2)),
 OP 79 (.call 50 [.t 78]),
 MV 80 1,
 OP 81 (.call 67 [.t 79, .t 80]),
 MV 77 81,
 OP 82 (.extract (.t 77) 0),
 OP 83 (.extract (.t 77) 1),
 OP 14 (.allocL 3 [.int .i64 0, .nils, .nils]),
 OX (.store 3 (.t 14) (.t 82)),
 MV 15 83])
((.seq ((.seq (.reg [] [OP 84 (.loadN 3 (.t 14)),
 OP 85 (.loadN 3 (.t 6)),
 OP 86 (.call 52 [.t 84, .t 85]),
 OP 87 (.un .not (.t 86)),
 MV 88 87,
 OF 89 88 (.mov (.t 15)),
 OF 90 88 (.mov (.t 7)),
 OF 91 88 (.bin .neq (.t 89) (.t 90)),
 OP 92 (.pick (.t 88) KT (.t 91))])
(.cond (.t 92) ((.seq (.reg [] [MF 4])
(.ret))) (.skip))))
((.seq (.reg [] [OP 13 (.mov (KI 1))])
((.seq (.reg [] [OP 93 (.loadN 3 (.t 9)),
 MV 94 13,
 OP 95 (.call 65 [.t 93, .t 94]),
 MV 13 95])
((.seq ((.seq (.reg [] [MV 96 13,
 OP 97 (.bin .lss (.t 96) (KI 0))])
(.cond (.t 97) ((.seq (.reg [] [MF 4])
(.ret))) (.skip))))
((.seq ((.seq (.reg [] [MV 98 13,
 MV 99 12,
 OP 100 (.bin .neq (.t 98) (.t 99))])
(.cond (.t 100) ((.seq (.reg [] [MF 4])
(.ret))) (.skip))))
((.seq (.reg [] [OP 4 (.mov KT)])
(.ret))))))))))))))))))))))))))))))))))))))))))))))))))
noncomputable def elaws_FnExactGiveTick : Env := envL [(48, Flaws_szGiveBook), (50, Flaws_toGiveBook), (52, Flaws_eqGiveBook), (60, Flaws_markGiveBook), (65, Flaws_heldGiveBook), (66, Fspec_GiveTick), (67, Fimpl_GiveTick)]
noncomputable def Flaws_FnExactGiveTick : Fun := runF elaws_FnExactGiveTick claws_FnExactGiveTick [.t 4]
theorem elaws_FnExactGiveTick_laws_szGiveBook : elaws_FnExactGiveTick 48 = some Flaws_szGiveBook := by simp [elaws_FnExactGiveTick, envL_cons]
theorem elaws_FnExactGiveTick_laws_toGiveBook : elaws_FnExactGiveTick 50 = some Flaws_toGiveBook := by simp [elaws_FnExactGiveTick, envL_cons]
theorem elaws_FnExactGiveTick_laws_eqGiveBook : elaws_FnExactGiveTick 52 = some Flaws_eqGiveBook := by simp [elaws_FnExactGiveTick, envL_cons]
theorem elaws_FnExactGiveTick_laws_markGiveBook : elaws_FnExactGiveTick 60 = some Flaws_markGiveBook := by simp [elaws_FnExactGiveTick, envL_cons]
theorem elaws_FnExactGiveTick_laws_heldGiveBook : elaws_FnExactGiveTick 65 = some Flaws_heldGiveBook := by simp [elaws_FnExactGiveTick, envL_cons]
theorem elaws_FnExactGiveTick_spec_GiveTick : elaws_FnExactGiveTick 66 = some Fspec_GiveTick := by simp [elaws_FnExactGiveTick, envL_cons]
theorem elaws_FnExactGiveTick_impl_GiveTick : elaws_FnExactGiveTick 67 = some Fimpl_GiveTick := by simp [elaws_FnExactGiveTick, envL_cons]

/-! ### spec_GiveAmend: function 68 -/
def cspec_GiveAmend : ACode := (.seq (.reg [3, 6] [OP 3 (.boxL 3 (.t 0)),
 OP 6 (.allocL 3 [.int .i64 0, .nils, .nils]),
 OP 7 (.mov (KI 0))])
((.seq ((.seq (.reg [] [OP 10 (.loadN 3 (.t 3)),
 OP 11 (.call 49 [.t 10]),
 OP 12 (.un .not (.t 11))])
(.cond (.t 12) ((.seq (.reg [] [OP 13 (.build [.int .i64 0, .nils, .nils] []),
 OX (.store 3 (.t 6) (.t 13)),
 OP 7 (.mov (KI 1))])
(.ret))) (.skip))))
((.seq (.reg [8] [OP 14 (.loadN 3 (.t 3)),
 OP 15 (.call 139 [.t 14]),
 OP 8 (.allocL 3 [.int .i64 0, .nils, .nils]),
 OX (.store 3 (.t 8) (.t 15))])
((.seq (.reg [] [OP 16 (.loadN 3 (.t 3)),
 MV 17 1,
 OP 18 (.call 140 [.t 16, .t 17]),
 MV 9 18])
((.seq ((.seq (.reg [] [FA 19 1 3,
 LD 20 19,
 MV 21 2,
 OP 22 (.call 33 [.t 20, .t 21]),
 OP 23 (.un .not (.t 22)),
 MV 24 23,
 OF 25 24 (.mov (.t 2)),
 OF 26 24 (.faddr 0 (.t 3)),
 OF 27 24 (.load1 (.t 26)),
 OF 28 24 (.call 145 [.t 25, .t 27]),
 OF 29 24 (.un .not (.t 28)),
 OP 30 (.pick (.t 24) KT (.t 29))])
(.cond (.t 30) ((.seq (.reg [] [OP 31 (.loadN 3 (.t 8)),
 OX (.store 3 (.t 6) (.t 31)),
 OP 7 (.mov (KI 2))])
(.ret))) (.skip))))
((.seq ((.seq (.reg [] [MV 32 9,
 OP 33 (.bin .lss (.t 32) (KI 0))])
(.cond (.t 33) ((.seq (.reg [] [OP 34 (.loadN 3 (.t 8)),
 OX (.store 3 (.t 6) (.t 34)),
 OP 7 (.mov (KI 6))])
(.ret))) (.skip))))
((.seq ((.seq (.reg [] [FA 35 2 3,
 LD 36 35,
 MV 37 9,
 IA 38 3 36 37,
 FA 39 2 38,
 LD 40 39,
 LE 41 40,
 OP 42 (.bin .gtr (.t 41) (KI 0))])
(.cond (.t 42) ((.seq (.reg [] [OP 43 (.loadN 3 (.t 8)),
 OX (.store 3 (.t 6) (.t 43)),
 OP 7 (.mov (KI 7))])
(.ret))) (.skip))))
((.seq ((.seq (.reg [] [OP 44 (.loadN 3 (.t 3)),
 MV 45 1,
 MV 46 2,
 OP 47 (.call 131 [.t 44, .t 45, .t 46]),
 OP 48 (.un .not (.t 47))])
(.cond (.t 48) ((.seq (.reg [] [OP 49 (.loadN 3 (.t 8)),
 OX (.store 3 (.t 6) (.t 49)),
 OP 7 (.mov (KI 5))])
(.ret))) (.skip))))
((.seq (.regD [] [FA 50 2 8,
 LD 51 50,
 MV 52 9,
 MV 53 2,
 OP 54 (.call 146 [.t 53]),
 IA 55 3 51 52,
 FA 56 2 55,
 OX (.store 1 (.t 56) (.t 54))] [(4, 1)])
((.seq (.reg [] [OP 57 (.loadN 3 (.t 8)),
 OX (.store 3 (.t 6) (.t 57)),
 OP 7 (.mov (KI 0))])
(.ret))))))))))))))))))))
noncomputable def espec_GiveAmend : Env := envL [(33, Fspec_GiveTubeOk), (49, Fspec_GiveBookOk), (131, Fspec_l3Free), (139, Fspec_l2Copy), (140, Fspec_l2At), (145, Fspec_l2From), (146, Fspec_l2Tube)]
noncomputable def Fspec_GiveAmend : Fun := runF espec_GiveAmend cspec_GiveAmend [.cellN 6 3, .t 7]
theorem espec_GiveAmend_spec_GiveTubeOk : espec_GiveAmend 33 = some Fspec_GiveTubeOk := by simp [espec_GiveAmend, envL_cons]
theorem espec_GiveAmend_spec_GiveBookOk : espec_GiveAmend 49 = some Fspec_GiveBookOk := by simp [espec_GiveAmend, envL_cons]
theorem espec_GiveAmend_spec_l3Free : espec_GiveAmend 131 = some Fspec_l3Free := by simp [espec_GiveAmend, envL_cons]
theorem espec_GiveAmend_spec_l2Copy : espec_GiveAmend 139 = some Fspec_l2Copy := by simp [espec_GiveAmend, envL_cons]
theorem espec_GiveAmend_spec_l2At : espec_GiveAmend 140 = some Fspec_l2At := by simp [espec_GiveAmend, envL_cons]
theorem espec_GiveAmend_spec_l2From : espec_GiveAmend 145 = some Fspec_l2From := by simp [espec_GiveAmend, envL_cons]
theorem espec_GiveAmend_spec_l2Tube : espec_GiveAmend 146 = some Fspec_l2Tube := by simp [espec_GiveAmend, envL_cons]

/-! ### impl_GiveAmend: function 69 -/
def cimpl_GiveAmend : ACode := (.seq (.reg [3, 6] [OP 3 (.boxL 3 (.t 0)),
 OP 6 (.allocL 3 [.int .i64 0, .nils, .nils]),
 OP 7 (.mov (KI 0))])
((.seq ((.seq (.reg [] [OP 10 (.loadN 3 (.t 3)),
 OP 11 (.call 51 [.t 10]),
 OP 12 (.un .not (.t 11))])
(.cond (.t 12) ((.seq (.reg [] [OP 13 (.build [.int .i64 0, .nils, .nils] []),
 OX (.store 3 (.t 6) (.t 13)),
 OP 7 (.mov (KI 1))])
(.ret))) (.skip))))
((.seq (.reg [8] [OP 14 (.loadN 3 (.t 3)),
 OP 15 (.call 141 [.t 14]),
 OP 8 (.allocL 3 [.int .i64 0, .nils, .nils]),
 OX (.store 3 (.t 8) (.t 15))])
((.seq (.reg [] [OP 16 (.loadN 3 (.t 3)),
 MV 17 1,
 OP 18 (.call 142 [.t 16, .t 17]),
 MV 9 18])
((.seq (.block 0 ((.seq (.reg [] [FA 20 1 3,
 LD 21 20,
 MV 22 2,
 OP 23 (.call 35 [.t 21, .t 22]),
 OP 24 (.un .not (.t 23)),
 MV 25 24,
 OF 26 25 (.mov (.t 2)),
 OF 27 25 (.faddr 0 (.t 3)),
 OF 28 25 (.load1 (.t 27)),
 OF 29 25 (.call 128 [.t 26, .t 28]),
 OF 30 25 (.un .not (.t 29)),
 OP 31 (.pick (.t 25) KT (.t 30)),
 MV 19 31])
(.cond (.t 19) ((.seq (.reg [] [OP 32 (.loadN 3 (.t 8)),
 OX (.store 3 (.t 6) (.t 32)),
 OP 7 (.mov (KI 2))])
(.ret))) ((.seq (.reg [] [MV 34 9,
 OP 35 (.bin .lss (.t 34) (KI 0)),
 MV 33 35])
(.cond (.t 33) ((.seq (.reg [] [OP 36 (.loadN 3 (.t 8)),
 OX (.store 3 (.t 6) (.t 36)),
 OP 7 (.mov (KI 6))])
(.ret))) ((.seq (.reg [] [FA 38 2 3,
 LD 39 38,
 MV 40 9,
 IA 41 3 39 40,
 FA 42 2 41,
 LD 43 42,
 LE 44 43,
 OP 45 (.bin .gtr (.t 44) (KI 0)),
 MV 37 45])
(.cond (.t 37) ((.seq (.reg [] [OP 46 (.loadN 3 (.t 8)),
 OX (.store 3 (.t 6) (.t 46)),
 OP 7 (.mov (KI 7))])
(.ret))) ((.seq (.reg [] [OP 48 (.loadN 3 (.t 3)),
 MV 49 1,
 MV 50 2,
 OP 51 (.call 132 [.t 48, .t 49, .t 50]),
 OP 52 (.un .not (.t 51)),
 MV 47 52])
(.cond (.t 47) ((.seq (.reg [] [OP 53 (.loadN 3 (.t 8)),
 OX (.store 3 (.t 6) (.t 53)),
 OP 7 (.mov (KI 5))])
(.ret))) (.skip))))))))))))))
((.seq (.regD [] [FA 54 2 8,
 LD 55 54,
 MV 56 9,
 MV 57 2,
 OP 58 (.call 147 [.t 57]),
 IA 59 3 55 56,
 FA 60 2 59,
 OX (.store 1 (.t 60) (.t 58))] [(4, 1)])
((.seq (.reg [] [OP 61 (.loadN 3 (.t 8)),
 OX (.store 3 (.t 6) (.t 61)),
 OP 7 (.mov (KI 0))])
(.ret))))))))))))))
noncomputable def eimpl_GiveAmend : Env := envL [(35, Fimpl_GiveTubeOk), (51, Fimpl_GiveBookOk), (128, Fimpl_from), (132, Fimpl_GiveBook_free), (141, Fimpl_copyBook), (142, Fimpl_GiveBook_at), (147, Fimpl_copyTube)]
noncomputable def Fimpl_GiveAmend : Fun := runF eimpl_GiveAmend cimpl_GiveAmend [.cellN 6 3, .t 7]
theorem eimpl_GiveAmend_impl_GiveTubeOk : eimpl_GiveAmend 35 = some Fimpl_GiveTubeOk := by simp [eimpl_GiveAmend, envL_cons]
theorem eimpl_GiveAmend_impl_GiveBookOk : eimpl_GiveAmend 51 = some Fimpl_GiveBookOk := by simp [eimpl_GiveAmend, envL_cons]
theorem eimpl_GiveAmend_impl_from : eimpl_GiveAmend 128 = some Fimpl_from := by simp [eimpl_GiveAmend, envL_cons]
theorem eimpl_GiveAmend_impl_GiveBook_free : eimpl_GiveAmend 132 = some Fimpl_GiveBook_free := by simp [eimpl_GiveAmend, envL_cons]
theorem eimpl_GiveAmend_impl_copyBook : eimpl_GiveAmend 141 = some Fimpl_copyBook := by simp [eimpl_GiveAmend, envL_cons]
theorem eimpl_GiveAmend_impl_GiveBook_at : eimpl_GiveAmend 142 = some Fimpl_GiveBook_at := by simp [eimpl_GiveAmend, envL_cons]
theorem eimpl_GiveAmend_impl_copyTube : eimpl_GiveAmend 147 = some Fimpl_copyTube := by simp [eimpl_GiveAmend, envL_cons]

/-! ### laws_FnExactGiveAmend: function 16 -/
def claws_FnExactGiveAmend : ACode := (.seq (.reg [3] [OP 3 (.boxL 3 (.t 0)),
 MF 6])
((.seq ((.seq (.reg [] [MV 19 1,
 OP 20 (.lenS (.t 19)),
 OP 21 (.bin .gtr (.t 20) (KI 1048576))])
(.cond (.t 21) ((.seq (.reg [] [OP 6 (.mov KT)])
(.ret))) (.skip))))
((.seq (.reg [] [OP 7 (.mov (KI 1048576))])
((.seq (.reg [] [OP 22 (.loadN 3 (.t 3)),
 MV 23 7,
 OP 24 (.call 48 [.t 22, .t 23]),
 MV 7 24])
((.seq ((.seq (.reg [] [MV 25 7,
 OP 26 (.bin .lss (.t 25) (KI 0))])
(.cond (.t 26) ((.seq (.reg [] [OP 6 (.mov KT)])
(.ret))) (.skip))))
((.seq (.reg [] [MV 27 2,
 MV 28 7,
 OP 29 (.call 23 [.t 27, .t 28]),
 MV 7 29])
((.seq ((.seq (.reg [] [MV 30 7,
 OP 31 (.bin .lss (.t 30) (KI 0))])
(.cond (.t 31) ((.seq (.reg [] [OP 6 (.mov KT)])
(.ret))) (.skip))))
((.seq (.reg [8] [OP 33 (.loadN 3 (.t 3)),
 OP 34 (.call 50 [.t 33]),
 MV 35 1,
 MV 36 2,
 OP 37 (.call 25 [.t 36]),
 OP 38 (.call 68 [.t 34, .t 35, .t 37]),
 MV 32 38,
 OP 39 (.extract (.t 32) 0),
 OP 40 (.extract (.t 32) 1),
 OP 8 (.allocL 3 [.int .i64 0, .nils, .nils]),
 OX (.store 3 (.t 8) (.t 39)),
 MV 9 40])
((.seq (.reg [10] [OP 41 (.loadN 3 (.t 3)),
 OP 42 (.call 50 [.t 41]),
 OP 10 (.allocL 3 [.int .i64 0, .nils, .nils]),
 OX (.store 3 (.t 10) (.t 42))])
((.seq (.reg [] [MV 43 2,
 OP 44 (.call 25 [.t 43]),
 MV 11 44])
((.seq (.reg [12] [OP 46 (.loadN 3 (.t 10)),
 MV 47 1,
 MV 48 11,
 OP 49 (.call 69 [.t 46, .t 47, .t 48]),
 MV 45 49,
 OP 50 (.extract (.t 45) 0),
 OP 51 (.extract (.t 45) 1),
 OP 12 (.allocL 3 [.int .i64 0, .nils, .nils]),
 OX (.store 3 (.t 12) (.t 50)),
 MV 13 51])
((.seq ((.seq (.reg [] [OP 52 (.loadN 3 (.t 12)),
 OP 53 (.loadN 3 (.t 8)),
 OP 54 (.call 52 [.t 52, .t 53]),
 OP 55 (.un .not (.t 54)),
 MV 56 55,
 OF 57 56 (.mov (.t 13)),
 OF 58 56 (.mov (.t 9)),
 OF 59 56 (.bin .neq (.t 57) (.t 58)),
 OP 60 (.pick (.t 56) KT (.t 59))])
(.cond (.t 60) ((.seq (.reg [] [MF 6])
(.ret))) (.skip))))
((.seq ((.seq (.regD [] [OP 61 (.loadN 3 (.t 10)),
 OP 62 (.loadN 3 (.t 3)),
 OP 63 (.call 50 [.t 62]),
 OP 64 (.call 52 [.t 61, .t 63]),
 OP 65 (.un .not (.t 64))] [(2, 0)])
(.cond (.t 65) ((.seq (.reg [] [MF 6])
(.ret))) (.skip))))
((.seq ((.seq (.reg [] [MV 66 11,
 MV 67 2,
 OP 68 (.call 25 [.t 67]),
 OP 69 (.call 27 [.t 66, .t 68]),
 OP 70 (.un .not (.t 69))])
(.cond (.t 70) ((.seq (.reg [] [MF 6])
(.ret))) (.skip))))
((.seq (.reg [] [OP 14 (.mov (KI 1))])
((.seq (.reg [] [OP 71 (.loadN 3 (.t 10)),
 MV 72 14,
 OP 73 (.call 60 [.t 71, .t 72]),
 MV 14 73])
((.seq (.reg [] [MV 74 11,
 MV 75 14,
 OP 76 (.call 30 [.t 74, .t 75]),
 MV 14 76])
((.seq ((.seq (.reg [] [MV 77 14,
 OP 78 (.bin .lss (.t 77) (KI 0)),
 MV 79 78,
 OF 80 79 (.loadN 3 (.t 12)),
 OF 81 79 (.loadN 3 (.t 8)),
 OF 82 79 (.call 52 [.t 80, .t 81]),
 OF 83 79 (.un .not (.t 82)),
 OP 84 (.pick (.t 79) KT (.t 83)),
 MV 85 84,
 OF 86 85 (.mov (.t 13)),
 OF 87 85 (.mov (.t 9)),
 OF 88 85 (.bin .neq (.t 86) (.t 87)),
 OP 89 (.pick (.t 85) KT (.t 88))])
(.cond (.t 89) ((.seq (.reg [] [MF 6])
(.ret))) (.skip))))
((.seq (.reg [] [OP 15 (.mov (KI 1))])
((.seq (.reg [] [OP 90 (.loadN 3 (.t 12)),
 MV 91 15,
 OP 92 (.call 60 [.t 90, .t 91]),
 MV 15 92])
((.seq (.reg [] [OP 16 (.mov (KI 1))])
((.seq (.reg [] [OP 93 (.loadN 3 (.t 12)),
 MV 94 16,
 OP 95 (.call 65 [.t 93, .t 94]),
 MV 16 95])
((.seq ((.seq (.reg [] [MV 96 16,
 OP 97 (.bin .lss (.t 96) (KI 0))])
(.cond (.t 97) ((.seq (.reg [] [MF 6])
(.ret))) (.skip))))
((.seq ((.seq (.reg [] [MV 98 16,
 MV 99 15,
 OP 100 (.bin .neq (.t 98) (.t 99))])
(.cond (.t 100) ((.seq (.reg [] [MF 6])
(.ret))) (.skip))))
((.seq (.reg [17] [OP 102 (.loadN 3 (.t 3)),
 OP 103 (.call 50 [.t 102]),
 MV 104 1,
 MV 105 2,
 OP 106 (.call 25 [.t 105]),
 OP 107 (.call 69 [.t 103, .t 104, .t 106]),
 MV 101 107,
 OP 108 (.extract (.t 101) 0),
 OP 109 (.extract (.t 101) 1),
 OP 17 (.allocL 3 [.int .i64 0, .nils, .nils]),
 OX (.store 3 (.t 17) (.t 108)),
 MV 18 109])
((.seq ((.seq (.reg [] [OP 110 (.loadN 3 (.t 17)),
 OP 111 (.loadN 3 (.t 8)),
 OP 112 (.call 52 [.t 110, .t 111]),
 OP 113 (.un .not (.t 112)),
 MV 114 113,
 OF 115 114 (.mov (.t 18)),
 OF 116 114 (.mov (.t 9)),
 OF 117 114 (.bin .neq (.t 115) (.t 116)),
 OP 118 (.pick (.t 114) KT (.t 117))])
(.cond (.t 118) ((.seq (.reg [] [MF 6])
(.ret))) (.skip))))
((.seq (.reg [] [OP 16 (.mov (KI 1))])
((.seq (.reg [] [OP 119 (.loadN 3 (.t 12)),
 MV 120 16,
 OP 121 (.call 65 [.t 119, .t 120]),
 MV 16 121])
((.seq ((.seq (.reg [] [MV 122 16,
 OP 123 (.bin .lss (.t 122) (KI 0))])
(.cond (.t 123) ((.seq (.reg [] [MF 6])
(.ret))) (.skip))))
((.seq ((.seq (.reg [] [MV 124 16,
 MV 125 15,
 OP 126 (.bin .neq (.t 124) (.t 125))])
(.cond (.t 126) ((.seq (.reg [] [MF 6])
(.ret))) (.skip))))
((.seq (.reg [] [OP 6 (.mov KT)])
(.ret))))))))))))))))))))))))))))))))))))))))))))))))))))))))))))))
noncomputable def elaws_FnExactGiveAmend : Env := envL [(23, Flaws_szGiveBoxS), (25, Flaws_toGiveBoxS), (27, Flaws_eqGiveBoxS), (30, Flaws_markGiveBoxS), (48, Flaws_szGiveBook), (50, Flaws_toGiveBook), (52, Flaws_eqGiveBook), (60, Flaws_markGiveBook), (65, Flaws_heldGiveBook), (68, Fspec_GiveAmend), (69, Fimpl_GiveAmend)]
noncomputable def Flaws_FnExactGiveAmend : Fun := runF elaws_FnExactGiveAmend claws_FnExactGiveAmend [.t 6]
theorem elaws_FnExactGiveAmend_laws_szGiveBoxS : elaws_FnExactGiveAmend 23 = some Flaws_szGiveBoxS := by simp [elaws_FnExactGiveAmend, envL_cons]
theorem elaws_FnExactGiveAmend_laws_toGiveBoxS : elaws_FnExactGiveAmend 25 = some Flaws_toGiveBoxS := by simp [elaws_FnExactGiveAmend, envL_cons]
theorem elaws_FnExactGiveAmend_laws_eqGiveBoxS : elaws_FnExactGiveAmend 27 = some Flaws_eqGiveBoxS := by simp [elaws_FnExactGiveAmend, envL_cons]
theorem elaws_FnExactGiveAmend_laws_markGiveBoxS : elaws_FnExactGiveAmend 30 = some Flaws_markGiveBoxS := by simp [elaws_FnExactGiveAmend, envL_cons]
theorem elaws_FnExactGiveAmend_laws_szGiveBook : elaws_FnExactGiveAmend 48 = some Flaws_szGiveBook := by simp [elaws_FnExactGiveAmend, envL_cons]
theorem elaws_FnExactGiveAmend_laws_toGiveBook : elaws_FnExactGiveAmend 50 = some Flaws_toGiveBook := by simp [elaws_FnExactGiveAmend, envL_cons]
theorem elaws_FnExactGiveAmend_laws_eqGiveBook : elaws_FnExactGiveAmend 52 = some Flaws_eqGiveBook := by simp [elaws_FnExactGiveAmend, envL_cons]
theorem elaws_FnExactGiveAmend_laws_markGiveBook : elaws_FnExactGiveAmend 60 = some Flaws_markGiveBook := by simp [elaws_FnExactGiveAmend, envL_cons]
theorem elaws_FnExactGiveAmend_laws_heldGiveBook : elaws_FnExactGiveAmend 65 = some Flaws_heldGiveBook := by simp [elaws_FnExactGiveAmend, envL_cons]
theorem elaws_FnExactGiveAmend_spec_GiveAmend : elaws_FnExactGiveAmend 68 = some Fspec_GiveAmend := by simp [elaws_FnExactGiveAmend, envL_cons]
theorem elaws_FnExactGiveAmend_impl_GiveAmend : elaws_FnExactGiveAmend 69 = some Fimpl_GiveAmend := by simp [elaws_FnExactGiveAmend, envL_cons]

end Go.Abs

/-
  What the codes tell is what the program's functions do (printed by wip/tools/gen3.py).
-/

namespace Go.Abs
open Go.Proofs
set_option maxRecDepth 100000

theorem sspec_l2Copy : Sound Try.prog 139 Fspec_l2Copy := sound_of (envL_ok (by simp only [List.forall_mem_cons, List.not_mem_nil, false_implies, implies_true, and_true]; exact sspec_l2Tube)) mixed [1, 2, 3, 42] Try.func139 (by kernel_rfl) (by kernel_rfl) (by kernel_rfl)
theorem sspec_l2At : Sound Try.prog 140 Fspec_l2At := sound_of (envL_ok (fun p hp => by simp at hp)) mixed [2] Try.func140 (by kernel_rfl) (by kernel_rfl) (by kernel_rfl)
theorem sspec_GiveHear : Sound Try.prog 63 Fspec_GiveHear := sound_of (envL_ok (by simp only [List.forall_mem_cons, List.not_mem_nil, false_implies, implies_true, and_true]; exact ⟨sspec_GiveBookOk, sspec_l2Copy, sspec_l2At⟩)) mixed [3, 6, 8] Try.func63 (by kernel_rfl) (by kernel_rfl) (by kernel_rfl)
theorem simpl_copyTube : Sound Try.prog 147 Fimpl_copyTube := sound_of (envL_ok (fun p hp => by simp at hp)) mixed [] Try.func147 (by kernel_rfl) (by kernel_rfl) (by kernel_rfl)
theorem simpl_copyBook : Sound Try.prog 141 Fimpl_copyBook := sound_of (envL_ok (by simp only [List.forall_mem_cons, List.not_mem_nil, false_implies, implies_true, and_true]; exact simpl_copyTube)) mixed [1, 2, 3, 5, 31] Try.func141 (by kernel_rfl) (by kernel_rfl) (by kernel_rfl)
theorem simpl_GiveBook_at : Sound Try.prog 142 Fimpl_GiveBook_at := sound_of (envL_ok (fun p hp => by simp at hp)) mixed [2, 6] Try.func142 (by kernel_rfl) (by kernel_rfl) (by kernel_rfl)
theorem simpl_GiveHear : Sound Try.prog 64 Fimpl_GiveHear := sound_of (envL_ok (by simp only [List.forall_mem_cons, List.not_mem_nil, false_implies, implies_true, and_true]; exact ⟨simpl_GiveBookOk, simpl_copyBook, simpl_GiveBook_at⟩)) mixed [3, 6, 8] Try.func64 (by kernel_rfl) (by kernel_rfl) (by kernel_rfl)
theorem slaws_heldGiveFieldS : Sound Try.prog 143 Flaws_heldGiveFieldS := sound_of (envL_ok (by simp only [List.forall_mem_cons, List.not_mem_nil, false_implies, implies_true, and_true]; exact slaws_markText)) mixed [] Try.func143 (by kernel_rfl) (by kernel_rfl) (by kernel_rfl)
theorem slaws_heldGiveHeldS : Sound Try.prog 144 Flaws_heldGiveHeldS := sound_of (envL_ok (by simp only [List.forall_mem_cons, List.not_mem_nil, false_implies, implies_true, and_true]; exact ⟨slaws_heldGiveBoxS, slaws_markText⟩)) mixed [] Try.func144 (by kernel_rfl) (by kernel_rfl) (by kernel_rfl)
theorem slaws_heldGiveBook : Sound Try.prog 65 Flaws_heldGiveBook := sound_of (envL_ok (by simp only [List.forall_mem_cons, List.not_mem_nil, false_implies, implies_true, and_true]; exact ⟨slaws_heldGiveFieldS, slaws_heldGiveHeldS⟩)) mixed [2] Try.func65 (by kernel_rfl) (by kernel_rfl) (by kernel_rfl)
theorem slaws_FnExactGiveHear : Sound Try.prog 14 Flaws_FnExactGiveHear := sound_of (envL_ok (by simp only [List.forall_mem_cons, List.not_mem_nil, false_implies, implies_true, and_true]; exact ⟨slaws_szGiveBook, slaws_toGiveBook, slaws_eqGiveBook, slaws_markGiveBook, sspec_GiveHear, simpl_GiveHear, slaws_heldGiveBook⟩)) mixed [3, 8, 10, 11, 16] Try.func14 (by kernel_rfl) (by kernel_rfl) (by kernel_rfl)
theorem sspec_GiveTick : Sound Try.prog 66 Fspec_GiveTick := sound_of (envL_ok (by simp only [List.forall_mem_cons, List.not_mem_nil, false_implies, implies_true, and_true]; exact ⟨sspec_GiveCut, sspec_GiveBookOk, sspec_l2Copy⟩)) mixed [2, 4, 6, 9, 75] Try.func66 (by kernel_rfl) (by kernel_rfl) (by kernel_rfl)
theorem simpl_GiveTick : Sound Try.prog 67 Fimpl_GiveTick := sound_of (envL_ok (by simp only [List.forall_mem_cons, List.not_mem_nil, false_implies, implies_true, and_true]; exact ⟨simpl_GiveCut, simpl_GiveBookOk, simpl_copyBook⟩)) mixed [2, 4, 6, 9, 65] Try.func67 (by kernel_rfl) (by kernel_rfl) (by kernel_rfl)
theorem slaws_FnExactGiveTick : Sound Try.prog 15 Flaws_FnExactGiveTick := sound_of (envL_ok (by simp only [List.forall_mem_cons, List.not_mem_nil, false_implies, implies_true, and_true]; exact ⟨slaws_szGiveBook, slaws_toGiveBook, slaws_eqGiveBook, slaws_markGiveBook, slaws_heldGiveBook, sspec_GiveTick, simpl_GiveTick⟩)) mixed [2, 6, 8, 9, 14] Try.func15 (by kernel_rfl) (by kernel_rfl) (by kernel_rfl)
theorem sspec_GiveAmend : Sound Try.prog 68 Fspec_GiveAmend := sound_of (envL_ok (by simp only [List.forall_mem_cons, List.not_mem_nil, false_implies, implies_true, and_true]; exact ⟨sspec_GiveTubeOk, sspec_GiveBookOk, sspec_l3Free, sspec_l2Copy, sspec_l2At, sspec_l2From, sspec_l2Tube⟩)) mixed [3, 6, 8] Try.func68 (by kernel_rfl) (by kernel_rfl) (by kernel_rfl)
theorem simpl_GiveAmend : Sound Try.prog 69 Fimpl_GiveAmend := sound_of (envL_ok (by simp only [List.forall_mem_cons, List.not_mem_nil, false_implies, implies_true, and_true]; exact ⟨simpl_GiveTubeOk, simpl_GiveBookOk, simpl_from, simpl_GiveBook_free, simpl_copyBook, simpl_GiveBook_at, simpl_copyTube⟩)) mixed [3, 6, 8] Try.func69 (by kernel_rfl) (by kernel_rfl) (by kernel_rfl)
theorem slaws_FnExactGiveAmend : Sound Try.prog 16 Flaws_FnExactGiveAmend := sound_of (envL_ok (by simp only [List.forall_mem_cons, List.not_mem_nil, false_implies, implies_true, and_true]; exact ⟨slaws_szGiveBoxS, slaws_toGiveBoxS, slaws_eqGiveBoxS, slaws_markGiveBoxS, slaws_szGiveBook, slaws_toGiveBook, slaws_eqGiveBook, slaws_markGiveBook, slaws_heldGiveBook, sspec_GiveAmend, simpl_GiveAmend⟩)) mixed [3, 8, 10, 12, 17] Try.func16 (by kernel_rfl) (by kernel_rfl) (by kernel_rfl)

end Go.Abs

/-
  The codes of the functions, for the abstract machine (printed by wip/tools/gen3.py; not typed by hand).
-/

namespace Go.Abs

/-! ### spec_l5Can: function 157 -/
def cspec_l5Can : ACode := (.seq (.reg [3, 4, 5] [OP 3 (.boxL 3 (.t 0)),
 OP 4 (.boxL 8 (.t 1)),
 OP 5 (.boxL 3 (.t 2)),
 MF 6])
((.seq (.reg [] [OP 8 (.loadN 8 (.t 4)),
 FA 9 1 5,
 LD 10 9,
 FA 11 2 5,
 LD 12 11,
 FA 13 0 5,
 LD 14 13,
 OP 15 (.call 41 [.t 8, .t 10, .t 12, .t 14]),
 MV 7 15])
((.seq (.reg [] [FA 16 1 3,
 LD 17 16,
 MV 18 7,
 OP 19 (.call 33 [.t 17, .t 18]),
 MV 20 19,
 OT 21 20 (.mov (.t 7)),
 OT 22 20 (.faddr 0 (.t 3)),
 OT 23 20 (.load1 (.t 22)),
 OT 24 20 (.call 145 [.t 21, .t 23]),
 OP 25 (.pick (.t 20) (.t 24) KF),
 MV 26 25,
 OT 27 26 (.loadN 3 (.t 3)),
 OT 28 26 (.faddr 0 (.t 4)),
 OT 29 26 (.load1 (.t 28)),
 OT 30 26 (.mov (.t 7)),
 OT 31 26 (.call 131 [.t 27, .t 29, .t 30]),
 OP 32 (.pick (.t 26) (.t 31) KF),
 MV 6 32])
(.ret))))))
noncomputable def espec_l5Can : Env := envL [(33, Fspec_GiveTubeOk), (41, Fspec_GiveTubeOf), (131, Fspec_l3Free), (145, Fspec_l2From)]
noncomputable def Fspec_l5Can : Fun := runF espec_l5Can cspec_l5Can [.t 6]
theorem espec_l5Can_spec_GiveTubeOk : espec_l5Can 33 = some Fspec_GiveTubeOk := by simp [espec_l5Can, envL_cons]
theorem espec_l5Can_spec_GiveTubeOf : espec_l5Can 41 = some Fspec_GiveTubeOf := by simp [espec_l5Can, envL_cons]
theorem espec_l5Can_spec_l3Free : espec_l5Can 131 = some Fspec_l3Free := by simp [espec_l5Can, envL_cons]
theorem espec_l5Can_spec_l2From : espec_l5Can 145 = some Fspec_l2From := by simp [espec_l5Can, envL_cons]

/-! ### spec_GiveChoices: function 82 -/
def cspec_GiveChoices_L2 : ACode := (.seq ((.seq (.reg [] [MV 35 8,
 FA 36 7 3,
 LD 37 36,
 LE 38 37,
 OP 39 (.bin .lss (.t 35) (.t 38))])
(.cond (.t 39) (.skip) (.exit 4))))
((.seq (.block 5 ((.seq (.reg [9] [MV 42 6,
 MV 43 7,
 MV 44 8,
 OP 45 (.build [.int .i64 0, .int .i64 0, .int .i64 0] [(0, 1, .t 42), (1, 1, .t 43), (2, 1, .t 44)]),
 OP 9 (.allocL 3 [.int .i64 0, .int .i64 0, .int .i64 0]),
 OX (.store 3 (.t 9) (.t 45))])
((.seq (.reg [] [OP 46 (.loadN 3 (.t 2)),
 OP 47 (.loadN 8 (.t 3)),
 OP 48 (.loadN 3 (.t 9)),
 OP 49 (.call 157 [.t 46, .t 47, .t 48])])
(.cond (.t 49) (.reg [52] [MV 50 5,
 OP 51 (.loadN 3 (.t 9)),
 OP 52 (.mkSlL 3 1 [.int .i64 0, .int .i64 0, .int .i64 0] [(0, 3, .t 51)]),
 OP 53 (.append 3 (.t 50) (.t 52)),
 MV 5 53]) (.skip)))))))
(.reg [] [MV 40 8,
 OP 41 (.bin .add (.t 40) (KI 1)),
 MV 8 41]))))
def cspec_GiveChoices_L1 : ACode := (.seq ((.seq (.reg [] [MV 28 7,
 FA 29 6 3,
 LD 30 29,
 LE 31 30,
 OP 32 (.bin .lss (.t 28) (.t 31))])
(.cond (.t 32) (.skip) (.exit 2))))
((.seq (.block 3 ((.seq (.reg [] [OP 8 (.mov (KI 0))])
(.block 4 (.loop cspec_GiveChoices_L2)))))
(.reg [] [MV 33 7,
 OP 34 (.bin .add (.t 33) (KI 1)),
 MV 7 34]))))
def cspec_GiveChoices_L0 : ACode := (.seq ((.seq (.reg [] [MV 22 6,
 FA 23 5 3,
 LD 24 23,
 OP 25 (.bin .leq (.t 22) (.t 24))])
(.cond (.t 25) (.skip) (.exit 0))))
((.seq (.block 1 ((.seq (.reg [] [OP 7 (.mov (KI 0))])
(.block 2 (.loop cspec_GiveChoices_L1)))))
(.reg [] [MV 26 6,
 OP 27 (.bin .add (.t 26) (KI 1)),
 MV 6 27]))))
def cspec_GiveChoices : ACode := (.seq (.reg [2, 3] [OP 2 (.boxL 3 (.t 0)),
 OP 3 (.boxL 8 (.t 1)),
 OP 4 (.mov KN)])
((.seq (.reg [] [OP 10 (.mkSlH 3 0 [.int .i64 0, .int .i64 0, .int .i64 0] []),
 MV 5 10])
((.seq ((.seq (.reg [] [OP 11 (.loadN 3 (.t 2)),
 OP 12 (.call 49 [.t 11]),
 OP 13 (.un .not (.t 12)),
 MV 14 13,
 OF 15 14 (.faddr 1 (.t 2)),
 OF 16 14 (.load1 (.t 15)),
 OF 17 14 (.loadN 8 (.t 3)),
 OF 18 14 (.call 46 [.t 16, .t 17]),
 OF 19 14 (.un .not (.t 18)),
 OP 20 (.pick (.t 14) KT (.t 19))])
(.cond (.t 20) ((.seq (.reg [] [MV 21 5,
 MV 4 21])
(.ret))) (.skip))))
((.seq ((.seq (.reg [] [OP 6 (.mov (KI 0))])
(.block 0 (.loop cspec_GiveChoices_L0))))
((.seq (.reg [] [MV 54 5,
 MV 4 54])
(.ret))))))))))
noncomputable def espec_GiveChoices : Env := envL [(46, Fspec_GiveWishOk), (49, Fspec_GiveBookOk), (157, Fspec_l5Can)]
noncomputable def Fspec_GiveChoices : Fun := runF espec_GiveChoices cspec_GiveChoices [.t 4]
theorem espec_GiveChoices_spec_GiveWishOk : espec_GiveChoices 46 = some Fspec_GiveWishOk := by simp [espec_GiveChoices, envL_cons]
theorem espec_GiveChoices_spec_GiveBookOk : espec_GiveChoices 49 = some Fspec_GiveBookOk := by simp [espec_GiveChoices, envL_cons]
theorem espec_GiveChoices_spec_l5Can : espec_GiveChoices 157 = some Fspec_l5Can := by simp [espec_GiveChoices, envL_cons]

/-! ### spec_GiveBest: function 74 -/
def cspec_GiveBest : ACode := (.seq (.reg [2, 3, 4] [OP 2 (.boxL 3 (.t 0)),
 OP 3 (.boxL 8 (.t 1)),
 OP 4 (.allocL 3 [.int .i64 0, .int .i64 0, .int .i64 0]),
 MF 5])
((.seq (.reg [] [OP 7 (.loadN 3 (.t 2)),
 OP 8 (.loadN 8 (.t 3)),
 OP 9 (.call 82 [.t 7, .t 8]),
 MV 6 9])
((.seq ((.seq (.reg [] [MV 10 6,
 LE 11 10,
 OP 12 (.bin .eql (.t 11) (KI 0))])
(.cond (.t 12) ((.seq (.reg [] [OP 13 (.build [.int .i64 0, .int .i64 0, .int .i64 0] []),
 OX (.store 3 (.t 4) (.t 13)),
 MF 5])
(.ret))) (.skip))))
((.seq (.reg [] [MV 14 6,
 OP 15 (.iaddr 3 (.t 14) (KI 0)),
 OP 16 (.loadN 3 (.t 15)),
 OX (.store 3 (.t 4) (.t 16)),
 OP 5 (.mov KT)])
(.ret))))))))
noncomputable def espec_GiveBest : Env := envL [(82, Fspec_GiveChoices)]
noncomputable def Fspec_GiveBest : Fun := runF espec_GiveBest cspec_GiveBest [.cellN 4 3, .t 5]
theorem espec_GiveBest_spec_GiveChoices : espec_GiveBest 82 = some Fspec_GiveChoices := by simp [espec_GiveBest, envL_cons]

/-! ### impl_choices: function 153 -/
def cimpl_choices_L3 : ACode := (.seq (.reg [] [OP 78 (.bin .lss (.t 77) (.t 76))])
((.seq (.cond (.t 78) (.skip) (.exit 6))
((.seq (.block 7 ((.seq (.reg [15] [IA 79 4 75 77,
 OP 80 (.loadN 4 (.t 79)),
 OP 15 (.allocL 4 [.int .i64 0, .int .i64 0, .nils, .int .i64 0]),
 OX (.store 4 (.t 15) (.t 80))])
((.seq (.reg [] [FA 81 2 15,
 LD 82 81,
 MV 83 13,
 IA 84 1 82 83,
 LD 85 84,
 OP 86 (.un .not (.t 85)),
 MV 87 86,
 OT 88 87 (.faddr 3 (.t 15)),
 OT 89 87 (.load1 (.t 88)),
 OT 90 87 (.mov (.t 13)),
 OT 91 87 (.bin .add (.t 89) (.t 90)),
 OT 92 87 (.faddr 0 (.t 3)),
 OT 93 87 (.load1 (.t 92)),
 OT 94 87 (.bin .geq (.t 91) (.t 93)),
 OP 95 (.pick (.t 87) (.t 94) KF),
 MV 96 95,
 OT 97 96 (.mov (.t 12)),
 OT 98 96 (.len (.t 97)),
 OT 99 96 (.mov (.t 2)),
 OT 100 96 (.bin .lss (.t 98) (.t 99)),
 OP 101 (.pick (.t 96) (.t 100) KF)])
(.cond (.t 101) (.reg [109] [MV 102 12,
 MV 103 13,
 FA 104 0 15,
 LD 105 104,
 FA 106 1 15,
 LD 107 106,
 OP 108 (.build [.int .i64 0, .int .i64 0, .int .i64 0] [(0, 1, .t 103), (1, 1, .t 105), (2, 1, .t 107)]),
 OP 109 (.mkSlL 3 1 [.int .i64 0, .int .i64 0, .int .i64 0] [(0, 3, .t 108)]),
 OP 110 (.append 3 (.t 102) (.t 109)),
 MV 12 110]) (.skip)))))))
(.reg [] [OP 111 (.bin .add (.t 77) (KI 1)),
 MV 77 111]))))))
def cimpl_choices_L2 : ACode := (.seq ((.seq (.reg [] [MV 69 13,
 FA 70 5 4,
 LD 71 70,
 OP 72 (.bin .leq (.t 69) (.t 71))])
(.cond (.t 72) (.skip) (.exit 4))))
((.seq (.block 5 ((.seq (.reg [] [MV 75 7,
 LE 76 75,
 OP 77 (.mov (KI 0))])
(.block 6 (.loop cimpl_choices_L3)))))
(.reg [] [MV 73 13,
 OP 74 (.bin .add (.t 73) (KI 1)),
 MV 13 74]))))
def cimpl_choices_L1 : ACode := (.seq (.reg [] [OP 37 (.bin .lss (.t 36) (.t 35))])
((.seq (.cond (.t 37) (.skip) (.exit 2))
((.seq (.block 3 ((.seq (.reg [] [MV 38 36,
 MV 9 38])
((.seq (.reg [] [OP 39 (.loadN 8 (.t 4)),
 MV 40 8,
 MV 41 9,
 OP 42 (.call 43 [.t 39, .t 40, .t 41, KI 0]),
 MV 10 42])
((.seq ((.seq (.reg [] [FA 43 1 3,
 LD 44 43,
 MV 45 10,
 OP 46 (.call 35 [.t 44, .t 45]),
 OP 47 (.un .not (.t 46))])
(.cond (.t 47) (.exit 3) (.skip))))
((.seq (.regD [11] [MV 48 8,
 MV 49 9,
 OP 50 (.loadN 3 (.t 3)),
 FA 51 0 4,
 LD 52 51,
 MV 53 10,
 FA 54 5 4,
 LD 55 54,
 OP 56 (.call 135 [.t 50, .t 52, .t 53, .t 55]),
 MV 57 10,
 OP 58 (.iaddr 6 (.t 57) (KI 0)),
 FA 59 4 58,
 LD 60 59,
 OP 61 (.build [.int .i64 0, .int .i64 0, .nils, .int .i64 0] [(0, 1, .t 48), (1, 1, .t 49), (2, 1, .t 56), (3, 1, .t 60)]),
 OP 11 (.allocL 4 [.int .i64 0, .int .i64 0, .nils, .int .i64 0]),
 OX (.store 4 (.t 11) (.t 61))] [(8, 12), (8, 14)])
(.reg [64] [MV 62 7,
 OP 63 (.loadN 4 (.t 11)),
 OP 64 (.mkSlL 4 1 [.int .i64 0, .int .i64 0, .nils, .int .i64 0] [(0, 4, .t 63)]),
 OP 65 (.append 4 (.t 62) (.t 64)),
 MV 7 65]))))))))))
(.reg [] [OP 66 (.bin .add (.t 36) (KI 1)),
 MV 36 66]))))))
def cimpl_choices_L0 : ACode := (.seq (.reg [] [OP 31 (.bin .lss (.t 30) (.t 29))])
((.seq (.cond (.t 31) (.skip) (.exit 0))
((.seq (.block 1 ((.seq (.reg [] [MV 32 30,
 MV 8 32])
((.seq (.reg [] [FA 33 7 4,
 LD 34 33,
 LE 35 34,
 OP 36 (.mov (KI 0))])
(.block 2 (.loop cimpl_choices_L1)))))))
(.reg [] [OP 67 (.bin .add (.t 30) (KI 1)),
 MV 30 67]))))))
def cimpl_choices : ACode := (.seq (.reg [3, 4] [OP 3 (.boxL 3 (.t 0)),
 OP 4 (.boxL 8 (.t 1)),
 OP 6 (.mov KN)])
((.seq ((.seq (.reg [] [OP 16 (.loadN 3 (.t 3)),
 OP 17 (.call 51 [.t 16]),
 OP 18 (.un .not (.t 17)),
 MV 19 18,
 OF 20 19 (.faddr 1 (.t 3)),
 OF 21 19 (.load1 (.t 20)),
 OF 22 19 (.loadN 8 (.t 4)),
 OF 23 19 (.call 47 [.t 21, .t 22]),
 OF 24 19 (.un .not (.t 23)),
 OP 25 (.pick (.t 19) KT (.t 24))])
(.cond (.t 25) ((.seq (.reg [] [OP 6 (.mov KN)])
(.ret))) (.skip))))
((.seq (.reg [] [OP 26 (.mkSlH 4 0 [.int .i64 0, .int .i64 0, .nils, .int .i64 0] []),
 MV 7 26])
((.seq ((.seq (.reg [] [FA 27 6 4,
 LD 28 27,
 LE 29 28,
 OP 30 (.mov (KI 0))])
(.block 0 (.loop cimpl_choices_L0))))
((.seq (.reg [] [OP 68 (.mkSlH 3 0 [.int .i64 0, .int .i64 0, .int .i64 0] []),
 MV 12 68])
((.seq ((.seq (.reg [] [OP 13 (.mov (KI 0))])
(.block 4 (.loop cimpl_choices_L2))))
((.seq (.reg [] [MV 112 12,
 MV 6 112])
(.ret))))))))))))))
noncomputable def eimpl_choices : Env := envL [(35, Fimpl_GiveTubeOk), (43, Fimpl_GiveTubeOf), (47, Fimpl_GiveWishOk), (51, Fimpl_GiveBookOk), (135, Fimpl_GiveBook_barred)]
noncomputable def Fimpl_choices : Fun := runF eimpl_choices cimpl_choices [.t 6]
theorem eimpl_choices_impl_GiveTubeOk : eimpl_choices 35 = some Fimpl_GiveTubeOk := by simp [eimpl_choices, envL_cons]
theorem eimpl_choices_impl_GiveTubeOf : eimpl_choices 43 = some Fimpl_GiveTubeOf := by simp [eimpl_choices, envL_cons]
theorem eimpl_choices_impl_GiveWishOk : eimpl_choices 47 = some Fimpl_GiveWishOk := by simp [eimpl_choices, envL_cons]
theorem eimpl_choices_impl_GiveBookOk : eimpl_choices 51 = some Fimpl_GiveBookOk := by simp [eimpl_choices, envL_cons]
theorem eimpl_choices_impl_GiveBook_barred : eimpl_choices 135 = some Fimpl_GiveBook_barred := by simp [eimpl_choices, envL_cons]

/-! ### impl_GiveBest: function 75 -/
def cimpl_GiveBest : ACode := (.seq (.reg [2, 3, 4] [OP 2 (.boxL 3 (.t 0)),
 OP 3 (.boxL 8 (.t 1)),
 OP 4 (.allocL 3 [.int .i64 0, .int .i64 0, .int .i64 0]),
 MF 5])
((.seq (.reg [] [OP 7 (.loadN 3 (.t 2)),
 OP 8 (.loadN 8 (.t 3)),
 OP 9 (.call 153 [.t 7, .t 8, KI 1]),
 MV 6 9])
((.seq ((.seq (.reg [] [MV 10 6,
 LE 11 10,
 OP 12 (.bin .eql (.t 11) (KI 0))])
(.cond (.t 12) ((.seq (.reg [] [OP 13 (.build [.int .i64 0, .int .i64 0, .int .i64 0] []),
 OX (.store 3 (.t 4) (.t 13)),
 MF 5])
(.ret))) (.skip))))
((.seq (.reg [] [MV 14 6,
 OP 15 (.iaddr 3 (.t 14) (KI 0)),
 OP 16 (.loadN 3 (.t 15)),
 OX (.store 3 (.t 4) (.t 16)),
 OP 5 (.mov KT)])
(.ret))))))))
noncomputable def eimpl_GiveBest : Env := envL [(153, Fimpl_choices)]
noncomputable def Fimpl_GiveBest : Fun := runF eimpl_GiveBest cimpl_GiveBest [.cellN 4 3, .t 5]
theorem eimpl_GiveBest_impl_choices : eimpl_GiveBest 153 = some Fimpl_choices := by simp [eimpl_GiveBest, envL_cons]

/-! ### laws_eqGiveChoice: function 76 -/
def claws_eqGiveChoice : ACode := (.seq (.reg [2, 3] [OP 2 (.boxL 3 (.t 0)),
 OP 3 (.boxL 3 (.t 1)),
 MF 4])
((.seq ((.seq (.reg [] [FA 5 0 2,
 LD 6 5,
 FA 7 0 3,
 LD 8 7,
 OP 9 (.bin .neq (.t 6) (.t 8))])
(.cond (.t 9) ((.seq (.reg [] [MF 4])
(.ret))) (.skip))))
((.seq ((.seq (.reg [] [FA 10 1 2,
 LD 11 10,
 FA 12 1 3,
 LD 13 12,
 OP 14 (.bin .neq (.t 11) (.t 13))])
(.cond (.t 14) ((.seq (.reg [] [MF 4])
(.ret))) (.skip))))
((.seq ((.seq (.reg [] [FA 15 2 2,
 LD 16 15,
 FA 17 2 3,
 LD 18 17,
 OP 19 (.bin .neq (.t 16) (.t 18))])
(.cond (.t 19) ((.seq (.reg [] [MF 4])
(.ret))) (.skip))))
((.seq (.reg [] [OP 4 (.mov KT)])
(.ret))))))))))
noncomputable def elaws_eqGiveChoice : Env := envL []
noncomputable def Flaws_eqGiveChoice : Fun := runF elaws_eqGiveChoice claws_eqGiveChoice [.t 4]

/-! ### laws_FnExactGiveBest: function 19 -/
def claws_FnExactGiveBest : ACode := (.seq (.reg [2, 3] [OP 2 (.boxL 3 (.t 0)),
 OP 3 (.boxL 8 (.t 1)),
 MF 4])
((.seq (.reg [] [OP 5 (.mov (KI 1048576))])
((.seq (.reg [] [OP 12 (.loadN 3 (.t 2)),
 MV 13 5,
 OP 14 (.call 48 [.t 12, .t 13]),
 MV 5 14])
((.seq ((.seq (.reg [] [MV 15 5,
 OP 16 (.bin .lss (.t 15) (KI 0))])
(.cond (.t 16) ((.seq (.reg [] [OP 4 (.mov KT)])
(.ret))) (.skip))))
((.seq (.reg [] [OP 17 (.loadN 8 (.t 3)),
 MV 18 5,
 OP 19 (.call 40 [.t 17, .t 18]),
 MV 5 19])
((.seq ((.seq (.reg [] [MV 20 5,
 OP 21 (.bin .lss (.t 20) (KI 0))])
(.cond (.t 21) ((.seq (.reg [] [OP 4 (.mov KT)])
(.ret))) (.skip))))
((.seq (.regD [6] [OP 23 (.loadN 3 (.t 2)),
 OP 24 (.call 50 [.t 23]),
 OP 25 (.loadN 8 (.t 3)),
 OP 26 (.call 42 [.t 25]),
 OP 27 (.call 74 [.t 24, .t 26]),
 MV 22 27,
 OP 28 (.extract (.t 22) 0),
 OP 29 (.extract (.t 22) 1),
 OP 6 (.allocL 3 [.int .i64 0, .int .i64 0, .int .i64 0]),
 OX (.store 3 (.t 6) (.t 28)),
 MV 7 29] [(1, 2), (1, 8), (3, 8), (4, 8)])
((.seq (.reg [8] [OP 30 (.loadN 3 (.t 2)),
 OP 31 (.call 50 [.t 30]),
 OP 8 (.allocL 3 [.int .i64 0, .nils, .nils]),
 OX (.store 3 (.t 8) (.t 31))])
((.seq (.reg [9] [OP 32 (.loadN 8 (.t 3)),
 OP 33 (.call 42 [.t 32]),
 ⟨some 9, .allocL 8 [.str ⟨#[]⟩, .int .i64 0, .int .i64 0, .int .i64 0, .int .i64 0, .int .i64 0, .nils, .nils], none⟩,
 OX (.store 8 (.t 9) (.t 33))])
((.seq (.reg [10] [OP 35 (.loadN 3 (.t 8)),
 OP 36 (.loadN 8 (.t 9)),
 OP 37 (.call 75 [.t 35, .t 36]),
 MV 34 37,
 OP 38 (.extract (.t 34) 0),
 OP 39 (.extract (.t 34) 1),
 OP 10 (.allocL 3 [.int .i64 0, .int .i64 0, .int .i64 0]),
 OX (.store 3 (.t 10) (.t 38)),
 MV 11 39])
((.seq ((.seq (.reg [] [OP 40 (.loadN 3 (.t 10)),
 OP 41 (.loadN 3 (.t 6)),
 OP 42 (.call 76 [.t 40, .t 41]),
 OP 43 (.un .not (.t 42)),
 MV 44 43,
 OF 45 44 (.mov (.t 11)),
 OF 46 44 (.mov (.t 7)),
 OF 47 44 (.binB true (.t 45) (.t 46)),
 OP 48 (.pick (.t 44) KT (.t 47))])
(.cond (.t 48) ((.seq (.reg [] [MF 4])
(.ret))) (.skip))))
((.seq ((.seq (.regD [] [OP 49 (.loadN 3 (.t 8)),
 OP 50 (.loadN 3 (.t 2)),
 OP 51 (.call 50 [.t 50]),
 OP 52 (.call 52 [.t 49, .t 51]),
 OP 53 (.un .not (.t 52))] [(2, 0)])
(.cond (.t 53) ((.seq (.reg [] [MF 4])
(.ret))) (.skip))))
((.seq ((.seq (.regD [] [OP 54 (.loadN 8 (.t 9)),
 OP 55 (.loadN 8 (.t 3)),
 OP 56 (.call 42 [.t 55]),
 OP 57 (.call 44 [.t 54, .t 56]),
 OP 58 (.un .not (.t 57))] [(2, 0)])
(.cond (.t 58) ((.seq (.reg [] [MF 4])
(.ret))) (.skip))))
((.seq (.reg [] [OP 4 (.mov KT)])
(.ret))))))))))))))))))))))))))))
noncomputable def elaws_FnExactGiveBest : Env := envL [(40, Flaws_szGiveWish), (42, Flaws_toGiveWish), (44, Flaws_eqGiveWish), (48, Flaws_szGiveBook), (50, Flaws_toGiveBook), (52, Flaws_eqGiveBook), (74, Fspec_GiveBest), (75, Fimpl_GiveBest), (76, Flaws_eqGiveChoice)]
noncomputable def Flaws_FnExactGiveBest : Fun := runF elaws_FnExactGiveBest claws_FnExactGiveBest [.t 4]
theorem elaws_FnExactGiveBest_laws_szGiveWish : elaws_FnExactGiveBest 40 = some Flaws_szGiveWish := by simp [elaws_FnExactGiveBest, envL_cons]
theorem elaws_FnExactGiveBest_laws_toGiveWish : elaws_FnExactGiveBest 42 = some Flaws_toGiveWish := by simp [elaws_FnExactGiveBest, envL_cons]
theorem elaws_FnExactGiveBest_laws_eqGiveWish : elaws_FnExactGiveBest 44 = some Flaws_eqGiveWish := by simp [elaws_FnExactGiveBest, envL_cons]
theorem elaws_FnExactGiveBest_laws_szGiveBook : elaws_FnExactGiveBest 48 = some Flaws_szGiveBook := by simp [elaws_FnExactGiveBest, envL_cons]
theorem elaws_FnExactGiveBest_laws_toGiveBook : elaws_FnExactGiveBest 50 = some Flaws_toGiveBook := by simp [elaws_FnExactGiveBest, envL_cons]
theorem elaws_FnExactGiveBest_laws_eqGiveBook : elaws_FnExactGiveBest 52 = some Flaws_eqGiveBook := by simp [elaws_FnExactGiveBest, envL_cons]
theorem elaws_FnExactGiveBest_spec_GiveBest : elaws_FnExactGiveBest 74 = some Fspec_GiveBest := by simp [elaws_FnExactGiveBest, envL_cons]
theorem elaws_FnExactGiveBest_impl_GiveBest : elaws_FnExactGiveBest 75 = some Fimpl_GiveBest := by simp [elaws_FnExactGiveBest, envL_cons]
theorem elaws_FnExactGiveBest_laws_eqGiveChoice : elaws_FnExactGiveBest 76 = some Flaws_eqGiveChoice := by simp [elaws_FnExactGiveBest, envL_cons]

/-! ### impl_GiveChoices: function 80 -/
def cimpl_GiveChoices : ACode := (.seq (.reg [2, 3] [OP 2 (.boxL 3 (.t 0)),
 OP 3 (.boxL 8 (.t 1)),
 OP 4 (.mov KN)])
((.seq (.reg [] [OP 5 (.loadN 3 (.t 2)),
 OP 6 (.loadN 8 (.t 3)),
 OP 7 (.call 153 [.t 5, .t 6, KI 5418]),
 MV 4 7])
(.ret))))
noncomputable def eimpl_GiveChoices : Env := envL [(153, Fimpl_choices)]
noncomputable def Fimpl_GiveChoices : Fun := runF eimpl_GiveChoices cimpl_GiveChoices [.t 4]
theorem eimpl_GiveChoices_impl_choices : eimpl_GiveChoices 153 = some Fimpl_choices := by simp [eimpl_GiveChoices, envL_cons]

/-! ### laws_eqGiveChoiceS: function 83 -/
def claws_eqGiveChoiceS_L0 : ACode := (.seq ((.seq (.reg [] [MV 11 5,
 MV 12 0,
 LE 13 12,
 OP 14 (.bin .lss (.t 11) (.t 13))])
(.cond (.t 14) (.skip) (.exit 0))))
((.seq (.block 1 ((.seq (.regD [] [MV 17 0,
 MV 18 5,
 IA 19 3 17 18,
 OP 20 (.loadN 3 (.t 19)),
 MV 21 1,
 MV 22 5,
 IA 23 3 21 22,
 OP 24 (.loadN 3 (.t 23)),
 OP 25 (.call 76 [.t 20, .t 24]),
 OP 26 (.un .not (.t 25))] [])
(.cond (.t 26) ((.seq (.reg [] [MF 4])
(.ret))) (.skip)))))
(.reg [] [MV 15 5,
 OP 16 (.bin .add (.t 15) (KI 1)),
 MV 5 16]))))
def claws_eqGiveChoiceS : ACode := (.seq (.reg [] [MF 4])
((.seq ((.seq (.reg [] [MV 6 0,
 LE 7 6,
 MV 8 1,
 LE 9 8,
 OP 10 (.bin .neq (.t 7) (.t 9))])
(.cond (.t 10) ((.seq (.reg [] [MF 4])
(.ret))) (.skip))))
((.seq ((.seq (.reg [] [OP 5 (.mov (KI 0))])
(.block 0 (.loop claws_eqGiveChoiceS_L0))))
((.seq (.reg [] [OP 4 (.mov KT)])
(.ret))))))))
noncomputable def elaws_eqGiveChoiceS : Env := envL [(76, Flaws_eqGiveChoice)]
noncomputable def Flaws_eqGiveChoiceS : Fun := runF elaws_eqGiveChoiceS claws_eqGiveChoiceS [.t 4]
theorem elaws_eqGiveChoiceS_laws_eqGiveChoice : elaws_eqGiveChoiceS 76 = some Flaws_eqGiveChoice := by simp [elaws_eqGiveChoiceS, envL_cons]

/-! ### laws_markGiveChoiceS: function 84 -/
def claws_markGiveChoiceS_L0 : ACode := (.seq ((.seq (.reg [] [MV 6 5,
 MV 7 0,
 LE 8 7,
 OP 9 (.bin .lss (.t 6) (.t 8))])
(.cond (.t 9) (.skip) (.exit 0))))
((.seq (.block 1 ((.seq (.reg [] [MV 12 0,
 MV 13 5,
 MV 14 1,
 IA 15 3 12 13,
 FA 16 0 15,
 OX (.store 1 (.t 16) (.t 14))])
((.seq (.reg [] [MV 17 1,
 OP 18 (.bin .add (.t 17) (KI 1)),
 MV 1 18])
((.seq (.reg [] [MV 19 0,
 MV 20 5,
 MV 21 1,
 IA 22 3 19 20,
 FA 23 1 22,
 OX (.store 1 (.t 23) (.t 21))])
((.seq (.reg [] [MV 24 1,
 OP 25 (.bin .add (.t 24) (KI 1)),
 MV 1 25])
((.seq (.reg [] [MV 26 0,
 MV 27 5,
 MV 28 1,
 IA 29 3 26 27,
 FA 30 2 29,
 OX (.store 1 (.t 30) (.t 28))])
(.reg [] [MV 31 1,
 OP 32 (.bin .add (.t 31) (KI 1)),
 MV 1 32]))))))))))))
(.reg [] [MV 10 5,
 OP 11 (.bin .add (.t 10) (KI 1)),
 MV 5 11]))))
def claws_markGiveChoiceS : ACode := (.seq (.reg [] [OP 4 (.mov (KI 0))])
((.seq ((.seq (.reg [] [OP 5 (.mov (KI 0))])
(.block 0 (.loop claws_markGiveChoiceS_L0))))
((.seq (.reg [] [MV 33 1,
 MV 4 33])
(.ret))))))
noncomputable def elaws_markGiveChoiceS : Env := envL []
noncomputable def Flaws_markGiveChoiceS : Fun := runF elaws_markGiveChoiceS claws_markGiveChoiceS [.t 4]

/-! ### laws_heldGiveChoiceS: function 85 -/
def claws_heldGiveChoiceS_L0 : ACode := (.seq ((.seq (.reg [] [MV 6 5,
 MV 7 0,
 LE 8 7,
 OP 9 (.bin .lss (.t 6) (.t 8))])
(.cond (.t 9) (.skip) (.exit 0))))
((.seq (.block 1 ((.seq ((.seq (.reg [] [MV 12 0,
 MV 13 5,
 IA 14 3 12 13,
 FA 15 0 14,
 LD 16 15,
 MV 17 1,
 OP 18 (.bin .neq (.t 16) (.t 17))])
(.cond (.t 18) ((.seq (.reg [] [OP 4 (.mov (KI (-1)))])
(.ret))) (.skip))))
((.seq (.reg [] [MV 19 1,
 OP 20 (.bin .add (.t 19) (KI 1)),
 MV 1 20])
((.seq ((.seq (.reg [] [MV 21 0,
 MV 22 5,
 IA 23 3 21 22,
 FA 24 1 23,
 LD 25 24,
 MV 26 1,
 OP 27 (.bin .neq (.t 25) (.t 26))])
(.cond (.t 27) ((.seq (.reg [] [OP 4 (.mov (KI (-1)))])
(.ret))) (.skip))))
((.seq (.reg [] [MV 28 1,
 OP 29 (.bin .add (.t 28) (KI 1)),
 MV 1 29])
((.seq ((.seq (.reg [] [MV 30 0,
 MV 31 5,
 IA 32 3 30 31,
 FA 33 2 32,
 LD 34 33,
 MV 35 1,
 OP 36 (.bin .neq (.t 34) (.t 35))])
(.cond (.t 36) ((.seq (.reg [] [OP 4 (.mov (KI (-1)))])
(.ret))) (.skip))))
(.reg [] [MV 37 1,
 OP 38 (.bin .add (.t 37) (KI 1)),
 MV 1 38]))))))))))))
(.reg [] [MV 10 5,
 OP 11 (.bin .add (.t 10) (KI 1)),
 MV 5 11]))))
def claws_heldGiveChoiceS : ACode := (.seq (.reg [] [OP 4 (.mov (KI 0))])
((.seq ((.seq (.reg [] [OP 5 (.mov (KI 0))])
(.block 0 (.loop claws_heldGiveChoiceS_L0))))
((.seq (.reg [] [MV 39 1,
 MV 4 39])
(.ret))))))
noncomputable def elaws_heldGiveChoiceS : Env := envL []
noncomputable def Flaws_heldGiveChoiceS : Fun := runF elaws_heldGiveChoiceS claws_heldGiveChoiceS [.t 4]

/-! ### laws_FnExactGiveChoices: function 22 -/
def claws_FnExactGiveChoices : ACode := (.seq (.reg [2, 3] [OP 2 (.boxL 3 (.t 0)),
 OP 3 (.boxL 8 (.t 1)),
 MF 4])
((.seq (.reg [] [OP 5 (.mov (KI 1048576))])
((.seq (.reg [] [OP 14 (.loadN 3 (.t 2)),
 MV 15 5,
 OP 16 (.call 48 [.t 14, .t 15]),
 MV 5 16])
((.seq ((.seq (.reg [] [MV 17 5,
 OP 18 (.bin .lss (.t 17) (KI 0))])
(.cond (.t 18) ((.seq (.reg [] [OP 4 (.mov KT)])
(.ret))) (.skip))))
((.seq (.reg [] [OP 19 (.loadN 8 (.t 3)),
 MV 20 5,
 OP 21 (.call 40 [.t 19, .t 20]),
 MV 5 21])
((.seq ((.seq (.reg [] [MV 22 5,
 OP 23 (.bin .lss (.t 22) (KI 0))])
(.cond (.t 23) ((.seq (.reg [] [OP 4 (.mov KT)])
(.ret))) (.skip))))
((.seq (.regD [] [OP 24 (.loadN 3 (.t 2)),
 OP 25 (.call 50 [.t 24]),
 OP 26 (.loadN 8 (.t 3)),
 OP 27 (.call 42 [.t 26]),
 OP 28 (.call 82 [.t 25, .t 27]),
 MV 6 28] [(1, 2)])
((.seq (.reg [7] [OP 29 (.loadN 3 (.t 2)),
 OP 30 (.call 50 [.t 29]),
 OP 7 (.allocL 3 [.int .i64 0, .nils, .nils]),
 OX (.store 3 (.t 7) (.t 30))])
((.seq (.reg [8] [OP 31 (.loadN 8 (.t 3)),
 OP 32 (.call 42 [.t 31]),
 ⟨some 8, .allocL 8 [.str ⟨#[]⟩, .int .i64 0, .int .i64 0, .int .i64 0, .int .i64 0, .int .i64 0, .nils, .nils], none⟩,
 OX (.store 8 (.t 8) (.t 32))])
((.seq (.reg [] [OP 33 (.loadN 3 (.t 7)),
 OP 34 (.loadN 8 (.t 8)),
 OP 35 (.call 80 [.t 33, .t 34]),
 MV 9 35])
((.seq ((.seq (.reg [] [MV 36 9,
 MV 37 6,
 OP 38 (.call 83 [.t 36, .t 37]),
 OP 39 (.un .not (.t 38))])
(.cond (.t 39) ((.seq (.reg [] [MF 4])
(.ret))) (.skip))))
((.seq ((.seq (.regD [] [OP 40 (.loadN 3 (.t 7)),
 OP 41 (.loadN 3 (.t 2)),
 OP 42 (.call 50 [.t 41]),
 OP 43 (.call 52 [.t 40, .t 42]),
 OP 44 (.un .not (.t 43))] [(2, 0)])
(.cond (.t 44) ((.seq (.reg [] [MF 4])
(.ret))) (.skip))))
((.seq ((.seq (.regD [] [OP 45 (.loadN 8 (.t 8)),
 OP 46 (.loadN 8 (.t 3)),
 OP 47 (.call 42 [.t 46]),
 OP 48 (.call 44 [.t 45, .t 47]),
 OP 49 (.un .not (.t 48))] [(2, 0)])
(.cond (.t 49) ((.seq (.reg [] [MF 4])
(.ret))) (.skip))))
((.seq (.reg [] [OP 10 (.mov (KI 1))])
((.seq (.reg [] [OP 50 (.loadN 3 (.t 7)),
 MV 51 10,
 OP 52 (.call 60 [.t 50, .t 51]),
 MV 10 52])
((.seq (.reg [] [OP 53 (.loadN 8 (.t 8)),
 MV 54 10,
 OP 55 (.call 45 [.t 53, .t 54]),
 MV 10 55])
((.seq ((.seq (.reg [] [MV 56 10,
 OP 57 (.bin .lss (.t 56) (KI 0)),
 MV 58 57,
 OF 59 58 (.mov (.t 9)),
 OF 60 58 (.mov (.t 6)),
 OF 61 58 (.call 83 [.t 59, .t 60]),
 OF 62 58 (.un .not (.t 61)),
 OP 63 (.pick (.t 58) KT (.t 62))])
(.cond (.t 63) ((.seq (.reg [] [MF 4])
(.ret))) (.skip))))
((.seq (.reg [] [OP 11 (.mov (KI 1))])
((.seq (.reg [] [MV 64 9,
 MV 65 11,
 OP 66 (.call 84 [.t 64, .t 65]),
 MV 11 66])
((.seq (.reg [] [OP 12 (.mov (KI 1))])
((.seq (.reg [] [MV 67 9,
 MV 68 12,
 OP 69 (.call 85 [.t 67, .t 68]),
 MV 12 69])
((.seq ((.seq (.reg [] [MV 70 12,
 OP 71 (.bin .lss (.t 70) (KI 0))])
(.cond (.t 71) ((.seq (.reg [] [MF 4])
(.ret))) (.skip))))
((.seq ((.seq (.reg [] [MV 72 12,
 MV 73 11,
 OP 74 (.bin .neq (.t 72) (.t 73))])
(.cond (.t 74) ((.seq (.reg [] [MF 4])
(.ret))) (.skip))))
((.seq (.regD [] [OP 75 (.loadN 3 (.t 2)),
 OP 76 (.call 50 [.t 75]),
 OP 77 (.loadN 8 (.t 3)),
 OP 78 (.call 42 [.t 77]),
 OP 79 (.call 80 [.t 76, .t 78]),
 MV 13 79] [(1, 2)])
((.seq ((.seq (.reg [] [MV 80 13,
 MV 81 6,
 OP 82 (.call 83 [.t 80, .t 81]),
 OP 83 (.un .not (.t 82))])
(.cond (.t 83) ((.seq (.reg [] [MF 4])
(.ret))) (.skip))))
((.seq (.reg [] [OP 12 (.mov (KI 1))])
((.seq (.reg [] [MV 84 9,
 MV 85 12,
 OP 86 (.call 85 [.t 84, .t 85]),
 MV 12 86])
((.seq ((.seq (.reg [] [MV 87 12,
 OP 88 (.bin .lss (.t 87) (KI 0))])
(.cond (.t 88) ((.seq (.reg [] [MF 4])
(.ret))) (.skip))))
((.seq ((.seq (.reg [] [MV 89 12,
 MV 90 11,
 OP 91 (.bin .neq (.t 89) (.t 90))])
(.cond (.t 91) ((.seq (.reg [] [MF 4])
(.ret))) (.skip))))
((.seq (.reg [] [OP 4 (.mov KT)])
(.ret))))))))))))))))))))))))))))))))))))))))))))))))))))))))))))
noncomputable def elaws_FnExactGiveChoices : Env := envL [(40, Flaws_szGiveWish), (42, Flaws_toGiveWish), (44, Flaws_eqGiveWish), (45, Flaws_markGiveWish), (48, Flaws_szGiveBook), (50, Flaws_toGiveBook), (52, Flaws_eqGiveBook), (60, Flaws_markGiveBook), (80, Fimpl_GiveChoices), (82, Fspec_GiveChoices), (83, Flaws_eqGiveChoiceS), (84, Flaws_markGiveChoiceS), (85, Flaws_heldGiveChoiceS)]
noncomputable def Flaws_FnExactGiveChoices : Fun := runF elaws_FnExactGiveChoices claws_FnExactGiveChoices [.t 4]
theorem elaws_FnExactGiveChoices_laws_szGiveWish : elaws_FnExactGiveChoices 40 = some Flaws_szGiveWish := by simp [elaws_FnExactGiveChoices, envL_cons]
theorem elaws_FnExactGiveChoices_laws_toGiveWish : elaws_FnExactGiveChoices 42 = some Flaws_toGiveWish := by simp [elaws_FnExactGiveChoices, envL_cons]
theorem elaws_FnExactGiveChoices_laws_eqGiveWish : elaws_FnExactGiveChoices 44 = some Flaws_eqGiveWish := by simp [elaws_FnExactGiveChoices, envL_cons]
theorem elaws_FnExactGiveChoices_laws_markGiveWish : elaws_FnExactGiveChoices 45 = some Flaws_markGiveWish := by simp [elaws_FnExactGiveChoices, envL_cons]
theorem elaws_FnExactGiveChoices_laws_szGiveBook : elaws_FnExactGiveChoices 48 = some Flaws_szGiveBook := by simp [elaws_FnExactGiveChoices, envL_cons]
theorem elaws_FnExactGiveChoices_laws_toGiveBook : elaws_FnExactGiveChoices 50 = some Flaws_toGiveBook := by simp [elaws_FnExactGiveChoices, envL_cons]
theorem elaws_FnExactGiveChoices_laws_eqGiveBook : elaws_FnExactGiveChoices 52 = some Flaws_eqGiveBook := by simp [elaws_FnExactGiveChoices, envL_cons]
theorem elaws_FnExactGiveChoices_laws_markGiveBook : elaws_FnExactGiveChoices 60 = some Flaws_markGiveBook := by simp [elaws_FnExactGiveChoices, envL_cons]
theorem elaws_FnExactGiveChoices_impl_GiveChoices : elaws_FnExactGiveChoices 80 = some Fimpl_GiveChoices := by simp [elaws_FnExactGiveChoices, envL_cons]
theorem elaws_FnExactGiveChoices_spec_GiveChoices : elaws_FnExactGiveChoices 82 = some Fspec_GiveChoices := by simp [elaws_FnExactGiveChoices, envL_cons]
theorem elaws_FnExactGiveChoices_laws_eqGiveChoiceS : elaws_FnExactGiveChoices 83 = some Flaws_eqGiveChoiceS := by simp [elaws_FnExactGiveChoices, envL_cons]
theorem elaws_FnExactGiveChoices_laws_markGiveChoiceS : elaws_FnExactGiveChoices 84 = some Flaws_markGiveChoiceS := by simp [elaws_FnExactGiveChoices, envL_cons]
theorem elaws_FnExactGiveChoices_laws_heldGiveChoiceS : elaws_FnExactGiveChoices 85 = some Flaws_heldGiveChoiceS := by simp [elaws_FnExactGiveChoices, envL_cons]

end Go.Abs

/-
  What the codes tell is what the program's functions do (printed by wip/tools/gen3.py).
-/

namespace Go.Abs
open Go.Proofs
set_option maxRecDepth 100000

theorem sspec_l5Can : Sound Try.prog 157 Fspec_l5Can := sound_of (envL_ok (by simp only [List.forall_mem_cons, List.not_mem_nil, false_implies, implies_true, and_true]; exact ⟨sspec_GiveTubeOk, sspec_GiveTubeOf, sspec_l3Free, sspec_l2From⟩)) mixed [3, 4, 5] Try.func157 (by kernel_rfl) (by kernel_rfl) (by kernel_rfl)
theorem sspec_GiveChoices : Sound Try.prog 82 Fspec_GiveChoices := sound_of (envL_ok (by simp only [List.forall_mem_cons, List.not_mem_nil, false_implies, implies_true, and_true]; exact ⟨sspec_GiveWishOk, sspec_GiveBookOk, sspec_l5Can⟩)) mixed [2, 3, 9, 52] Try.func82 (by kernel_rfl) (by kernel_rfl) (by kernel_rfl)
theorem sspec_GiveBest : Sound Try.prog 74 Fspec_GiveBest := sound_of (envL_ok (by simp only [List.forall_mem_cons, List.not_mem_nil, false_implies, implies_true, and_true]; exact sspec_GiveChoices)) mixed [2, 3, 4] Try.func74 (by kernel_rfl) (by kernel_rfl) (by kernel_rfl)
theorem simpl_choices : Sound Try.prog 153 Fimpl_choices := sound_of (envL_ok (by simp only [List.forall_mem_cons, List.not_mem_nil, false_implies, implies_true, and_true]; exact ⟨simpl_GiveTubeOk, simpl_GiveTubeOf, simpl_GiveWishOk, simpl_GiveBookOk, simpl_GiveBook_barred⟩)) mixed [3, 4, 11, 15, 64, 109] Try.func153 (by kernel_rfl) (by kernel_rfl) (by kernel_rfl)
theorem simpl_GiveBest : Sound Try.prog 75 Fimpl_GiveBest := sound_of (envL_ok (by simp only [List.forall_mem_cons, List.not_mem_nil, false_implies, implies_true, and_true]; exact simpl_choices)) mixed [2, 3, 4] Try.func75 (by kernel_rfl) (by kernel_rfl) (by kernel_rfl)
theorem slaws_eqGiveChoice : Sound Try.prog 76 Flaws_eqGiveChoice := sound_of (envL_ok (fun p hp => by simp at hp)) mixed [2, 3] Try.func76 (by kernel_rfl) (by kernel_rfl) (by kernel_rfl)
theorem slaws_FnExactGiveBest : Sound Try.prog 19 Flaws_FnExactGiveBest := sound_of (envL_ok (by simp only [List.forall_mem_cons, List.not_mem_nil, false_implies, implies_true, and_true]; exact ⟨slaws_szGiveWish, slaws_toGiveWish, slaws_eqGiveWish, slaws_szGiveBook, slaws_toGiveBook, slaws_eqGiveBook, sspec_GiveBest, simpl_GiveBest, slaws_eqGiveChoice⟩)) mixed [2, 3, 6, 8, 9, 10] Try.func19 (by kernel_rfl) (by kernel_rfl) (by kernel_rfl)
theorem simpl_GiveChoices : Sound Try.prog 80 Fimpl_GiveChoices := sound_of (envL_ok (by simp only [List.forall_mem_cons, List.not_mem_nil, false_implies, implies_true, and_true]; exact simpl_choices)) mixed [2, 3] Try.func80 (by kernel_rfl) (by kernel_rfl) (by kernel_rfl)
theorem slaws_eqGiveChoiceS : Sound Try.prog 83 Flaws_eqGiveChoiceS := sound_of (envL_ok (by simp only [List.forall_mem_cons, List.not_mem_nil, false_implies, implies_true, and_true]; exact slaws_eqGiveChoice)) mixed [] Try.func83 (by kernel_rfl) (by kernel_rfl) (by kernel_rfl)
theorem slaws_markGiveChoiceS : Sound Try.prog 84 Flaws_markGiveChoiceS := sound_of (envL_ok (fun p hp => by simp at hp)) mixed [] Try.func84 (by kernel_rfl) (by kernel_rfl) (by kernel_rfl)
theorem slaws_heldGiveChoiceS : Sound Try.prog 85 Flaws_heldGiveChoiceS := sound_of (envL_ok (fun p hp => by simp at hp)) mixed [] Try.func85 (by kernel_rfl) (by kernel_rfl) (by kernel_rfl)
theorem slaws_FnExactGiveChoices : Sound Try.prog 22 Flaws_FnExactGiveChoices := sound_of (envL_ok (by simp only [List.forall_mem_cons, List.not_mem_nil, false_implies, implies_true, and_true]; exact ⟨slaws_szGiveWish, slaws_toGiveWish, slaws_eqGiveWish, slaws_markGiveWish, slaws_szGiveBook, slaws_toGiveBook, slaws_eqGiveBook, slaws_markGiveBook, simpl_GiveChoices, sspec_GiveChoices, slaws_eqGiveChoiceS, slaws_markGiveChoiceS, slaws_heldGiveChoiceS⟩)) mixed [2, 3, 7, 8] Try.func22 (by kernel_rfl) (by kernel_rfl) (by kernel_rfl)

end Go.Abs

/-
  Boxes: what the functions over boxes and tubes compute.
-/

namespace Go.Abs
set_option linter.unusedSimpArgs false
set_option linter.unusedVariables false
attribute [local simp] AW_skip AW_exit AW_ret AW_seq AW_block AW_cond CW_ite AW_reg AW_regD RW_nil RW_cons RW_guard GW_t GW_f GW_gt GW_gf GW_tup GY_some GY_tt GY_ff gd_t gd_f pk_t pk_f pk_and pk_or pk_andc pk_orc pk_bool gd_gd SW_some ThenQ_normal ThenQ_exit ThenQ_ret BlockQ_normal BlockQ_exit BlockQ_ret kill_nil kill_cons killT_at killL_at upo_some upo_none ev_t ev_k FinQ_ret FinQ_normal upd_eq upd_ne argsT_zero argsT_succ aop.eq_1 aop_pick aop.eq_3 aop.eq_4 aop.eq_5 aop.eq_6 aop.eq_7 aop.eq_8 aop.eq_9 aop.eq_10 aop.eq_11 aop.eq_12 aop.eq_13 aop.eq_14 aop.eq_15 aop.eq_16 aop.eq_17 aop.eq_18 aop.eq_19 aop.eq_20 aop.eq_21 aop_slice_hi aop_slice_lo aop.eq_23 aop.eq_24 aop.eq_26 aop.eq_27 aop.eq_28 aop.eq_29 aop.eq_31 aop.eq_32 aop_maxs2 aop_mins2 aop_mins3 aop_len aop_iaddr Av.bool? Av.ptr? Av.int? Av.int64? Av.str? Av.agg? ressA resA resOf noLoc_int noLoc_bool noLoc_str noLoc_nils noLoc_nilp noLoc_ptrl noLoc_ptrr noLoc_sll noLoc_slr noLoc_fn noLoc_tc noLoc_tagg noLoc_av noLoc_atup ce_c tv_v cells_c cells_agg noLocs keyLoc evs callA St.set St.get unAv binCe killV_int killV_bool killV_str killV_nils killV_nilp killV_agg killV_no killV_tup killV_ptrl killV_ptrr killV_sll killV_slr killV_fn killV_noLoc fillA repl
attribute [local congr] GY_congr
theorem spec_l1In (h : Heap) (n lo hi : Int) : Fspec_l1In [.v (.c (.int .i64 n)), .v (.c (.int .i64 lo)), .v (.c (.int .i64 hi))] h = some (.v (.c (.bool (inB n lo hi))), h) := by
  unfold Fspec_l1In inB
  refine runF_eq ?_
  simp +contextual [cspec_l1In]
theorem impl_in (h : Heap) (n lo hi : Int) : Fimpl_in [.v (.c (.int .i64 n)), .v (.c (.int .i64 lo)), .v (.c (.int .i64 hi))] h = some (.v (.c (.bool (inB n lo hi))), h) := by
  unfold Fimpl_in inB
  refine runF_eq ?_
  simp +contextual [cimpl_in]
theorem spec_l1BoxOk (h : Heap) (b : Box) : Fspec_l1BoxOk [.v (.agg (fBox.ces b))] h = some (.v (.c (.bool (okB b))), h) := by
  unfold Fspec_l1BoxOk okB
  refine runF_eq ?_
  simp +contextual [cspec_l1BoxOk, fBox, espec_l1BoxOk_spec_l1In, spec_l1In]
theorem impl_boxOk (h : Heap) (b : Box) : Fimpl_boxOk [.v (.agg (fBox.ces b))] h = some (.v (.c (.bool (okB b))), h) := by
  unfold Fimpl_boxOk okB
  refine runF_eq ?_
  simp +contextual [cimpl_boxOk, fBox, eimpl_boxOk_impl_in, impl_in, inB, Bool.and_assoc]
theorem spec_l1Close (h : Heap) (a b : Box) : Fspec_l1Close [.v (.agg (fBox.ces a)), .v (.agg (fBox.ces b))] h = some (.v (.c (.bool (closeB a b))), h) := by
  unfold Fspec_l1Close closeB wrap64
  have A := spec_l1BoxOk
  simp only [fBox] at A
  refine runF_eq ?_
  simp +contextual [cspec_l1Close, fBox, espec_l1Close_spec_l1In, espec_l1Close_spec_l1BoxOk, spec_l1In, A, Bool.and_assoc]
def besideB (a b : Box) : Bool := okB a && okB b && inB (wrap64 (a.x - b.x)) (-1) 1 && inB (wrap64 (a.y - b.y)) (-1) 1 && decide (max2 a.low b.low ≤ min2 a.high b.high)
theorem impl_beside (h : Heap) (a b : Box) : Fimpl_beside [.v (.agg (fBox.ces a)), .v (.agg (fBox.ces b))] h = some (.v (.c (.bool (besideB a b))), h) := by
  unfold Fimpl_beside besideB wrap64
  have A := impl_boxOk
  simp only [fBox] at A
  refine runF_eq ?_
  simp +contextual [cimpl_beside, fBox, eimpl_beside_impl_in, eimpl_beside_impl_boxOk, impl_in, A, Bool.and_assoc]
theorem laws_toGiveBox (h : Heap) (b : Box) : Flaws_toGiveBox [.v (.agg (fBox.ces b))] h = some (.v (.agg (fBox.ces b)), h) := by
  unfold Flaws_toGiveBox
  refine runF_eq ?_
  simp [claws_toGiveBox, fBox]
def eqBox (a b : Box) : Bool := a.x == b.x && a.y == b.y && a.low == b.low && a.high == b.high && a.tin == b.tin && a.tout == b.tout
theorem eqBox_iff (a b : Box) : eqBox a b = true ↔ a = b := by
  cases a; cases b
  simp [eqBox, and_assoc]
theorem laws_eqGiveBox (h : Heap) (a b : Box) : Flaws_eqGiveBox [.v (.agg (fBox.ces a)), .v (.agg (fBox.ces b))] h = some (.v (.c (.bool (eqBox a b))), h) := by
  unfold Flaws_eqGiveBox eqBox
  refine runF_eq ?_
  simp +contextual [claws_eqGiveBox, fBox]
theorem laws_szGiveBoxS {S : Nat → Prop} (h : Heap) (c : Ce) (l : List Box) (k : Int) (hc : RdF fBox S h c l) (hk : 0 ≤ k ∧ k ≤ 1048576) :
    Flaws_szGiveBoxS [.v (.c c), .v (.c (.int .i64 k))] h = some (.v (.c (.int .i64 (if k < l.length then -1 else k - l.length))), h) := by
  unfold Flaws_szGiveBoxS
  have hl := hc.le
  have e : IntKind.i64.wrap (k - l.length) = k - l.length := wrap_i64 (by omega) (by omega)
  have e1 : k - (l.length : Int) < 0 ↔ k < l.length := by omega
  refine runF_eq ?_
  simp +contextual [claws_szGiveBoxS, hc.slen, e, e1]
  intros; omega

theorem spec_GiveNear {S S' : Nat → Prop} (h : Heap) (c c' : Ce) (l l' : List Box) (hc : RdF fBox S h c l) (hc' : RdF fBox S' h c' l') :
    Fspec_GiveNear [.v (.c c), .v (.c c')] h = some (.v (.c (.bool (nearL l l'))), h) := by
  unfold Fspec_GiveNear
  have hl := hc.le
  have hl' := hc'.le
  have A := spec_l1Close
  simp only [fBox] at A
  refine runF_eq ?_
  simp [cspec_GiveNear]
  refine AW_for1 l.length (fun i => l'.any (closeB (l.getD i default))) (fun i x => x.1 0 = .v (.c c) ∧ x.1 1 = .v (.c c') ∧ x.1 5 = .v (.c (.int .i64 i)) ∧ x.2 = ⟨h, nol⟩) (by simp) ?_ ?_
  · rintro i ⟨T, s⟩ hin _ ⟨h0, h1, h5, rfl⟩
    simp only at h0 h1 h5
    obtain ⟨b, p, r, e1, _, e2, e3, e4, _⟩ := hc.box hin
    have hw := wrap1 (i := i) (by omega)
    simp [cspec_GiveNear_L0, h0, h1, h5, hc.slen, hin]
    refine AW_for1 l'.length (fun k => closeB l[i] (l'.getD k default)) (fun k x => x.1 0 = .v (.c c) ∧ x.1 1 = .v (.c c') ∧ x.1 5 = .v (.c (.int .i64 i)) ∧ x.1 6 = .v (.c (.int .i64 k)) ∧ x.2 = ⟨h, nol⟩) (by simp [h0, h1, h5]) ?_ ?_
    · rintro k ⟨T, s⟩ hkn _ ⟨h0, h1, h5, h6, rfl⟩
      simp only at h0 h1 h5 h6
      obtain ⟨b', p', r', f1, _, f2, f3, f4, _⟩ := hc'.box hkn
      have hw' := wrap1 (i := k) (by omega)
      simp +contextual [cspec_GiveNear_L1, h0, h1, h5, h6, hc'.slen, hkn, hin, e1, e2, e3, e4, f1, f2, f3, f4, espec_GiveNear_spec_l1Close, A, hw']
      intro hcl
      exact ⟨⟨_, List.getElem_mem hkn, hcl⟩, any_of hin (any_of hkn hcl)⟩
    · rintro ⟨T, s⟩ hno ⟨h0, h1, h5, h6, rfl⟩
      simp only at h0 h1 h5 h6
      have := any_no (l := l') (p := closeB l[i]) (fun j hj => by simpa [hj] using hno j hj)
      simp [cspec_GiveNear_L1, h0, h1, h5, h6, hc'.slen, hin, hw]
      simpa using this
  · rintro ⟨T, s⟩ hno ⟨h0, h1, h5, rfl⟩
    simp only at h0 h1 h5
    have : nearL l l' = false := any_no (fun j hj => by simpa [hj] using hno j hj)
    simp [cspec_GiveNear_L0, h0, h1, h5, hc.slen, this]
theorem near_close (a b : Box) : (besideB a b && decide (max2 a.tin b.tin ≤ min2 a.tout b.tout)) = closeB a b := by
  unfold besideB closeB
  cases h1 : okB a
  · simp
  cases h2 : okB b
  · simp
  simp only [okB, inB, Bool.and_eq_true, decide_eq_true_eq] at h1 h2
  simp only [max2_eq, min2_eq]
  rw [Bool.eq_iff_iff]
  simp only [Bool.and_eq_true, decide_eq_true_eq]
  constructor
  · rintro ⟨⟨⟨⟨_, h3⟩, h4⟩, h5⟩, h6⟩
    refine ⟨⟨⟨⟨⟨⟨⟨trivial, trivial⟩, h3⟩, h4⟩, ?_⟩, ?_⟩, ?_⟩, ?_⟩ <;> omega
  · rintro ⟨⟨⟨⟨⟨⟨_, h3⟩, h4⟩, h5⟩, h6⟩, h7⟩, h8⟩
    refine ⟨⟨⟨⟨⟨trivial, trivial⟩, h3⟩, h4⟩, ?_⟩, ?_⟩ <;> omega

theorem impl_GiveNear {S S' : Nat → Prop} (h : Heap) (c c' : Ce) (l l' : List Box) (hc : RdF fBox S h c l) (hc' : RdF fBox S' h c' l') :
    Fimpl_GiveNear [.v (.c c), .v (.c c')] h = some (.v (.c (.bool (nearL l l'))), h) := by
  unfold Fimpl_GiveNear
  have hl := hc.le
  have hl' := hc'.le
  have A := impl_beside
  simp only [fBox] at A
  refine runF_eq ?_
  simp [cimpl_GiveNear, hc.slen]
  refine AW_for1 l.length (fun i => l'.any (closeB (l.getD i default))) (fun i x => x.1 1 = .v (.c c') ∧ x.1 9 = .v (.c c) ∧ x.1 10 = .v (.c (.int .i64 l.length)) ∧ x.1 11 = .v (.c (.int .i64 i)) ∧ x.2.h = h) (by simp) ?_ ?_
  · rintro i ⟨T, ⟨h', lc⟩⟩ hin _ ⟨h1, h9, h10, h11, hs⟩
    simp only at h1 h9 h10 h11 hs
    subst hs
    obtain ⟨b, p, r, e1, _, e2, e3, e4, _⟩ := hc.box hin
    have hw := wrap1 (i := i) (by omega)
    simp [cimpl_GiveNear_L0, h1, h9, h10, h11, hc.slen, hc'.slen, hc.noLoc, hc'.noLoc, hin, e1, e2, e3, e4]
    refine AW_for1 l'.length (fun k => closeB l[i] (l'.getD k default)) (fun k x => x.1 1 = .v (.c c') ∧ x.1 9 = .v (.c c) ∧ x.1 10 = .v (.c (.int .i64 l.length)) ∧ x.1 11 = .v (.c (.int .i64 i)) ∧ x.1 6 = .v (.c (.ptr (.inl 6) 0)) ∧ x.2.lc 6 = some ⟨fBox.ces l[i], 6, true⟩ ∧ x.1 15 = .v (.c c') ∧ x.1 16 = .v (.c (.int .i64 l'.length)) ∧ x.1 17 = .v (.c (.int .i64 k)) ∧ x.2.h = h') (by simp [h1, h9, h10, h11, hc.noLoc, hc'.noLoc, fBox]) ?_ ?_
    · rintro k ⟨T, ⟨h', lc⟩⟩ hkn _ ⟨h1, h9, h10, h11, h6, hl6, h15, h16, h17, hs⟩
      simp only at h1 h9 h10 h11 h6 hl6 h15 h16 h17 hs
      subst hs
      obtain ⟨b', p', r', f1, _, f2, f3, f4, _⟩ := hc'.box hkn
      have hw' := wrap1 (i := k) (by omega)
      have hq := near_close l[i] l'[k]
      simp only [fBox] at hl6
      simp +contextual [cimpl_GiveNear_L1, h1, h9, h10, h11, h6, hl6, h15, h16, h17, hc'.slen, hc.noLoc, hc'.noLoc, hkn, hin, f1, f2, f3, f4, eimpl_GiveNear_impl_beside, A, hw', fBox, ← hq]
      intro hcl1 hcl2
      have hcl : closeB l[i] l'[k] = true := by rw [← hq]; simp [hcl1, hcl2]
      exact ⟨⟨_, List.getElem_mem hkn, hcl⟩, any_of hin (any_of hkn hcl)⟩
    · rintro ⟨T, ⟨h', lc⟩⟩ hno ⟨h1, h9, h10, h11, h6, hl6, h15, h16, h17, hs⟩
      simp only at h1 h9 h10 h11 h6 hl6 h15 h16 h17 hs
      subst hs
      have := any_no (l := l') (p := closeB l[i]) (fun j hj => by simpa [hj] using hno j hj)
      simp [cimpl_GiveNear_L1, h1, h9, h10, h11, h16, h17, hin, hw]
      simpa using this
  · rintro ⟨T, ⟨h', lc⟩⟩ hno ⟨h1, h9, h10, h11, hs⟩
    simp only at h1 h9 h10 h11 hs
    subst hs
    have : nearL l l' = false := any_no (fun j hj => by simpa [hj] using hno j hj)
    simp [cimpl_GiveNear_L0, h1, h9, h10, h11, this]

def zBox : Box := ⟨0, 0, 0, 0, 0, 0⟩
theorem take_repl_put {α : Type} (l : List α) (z : α) {i : Nat} (hi : i < l.length) : (l.take i ++ List.replicate (l.length - i) z).set i l[i] = l.take (i + 1) ++ List.replicate (l.length - (i + 1)) z := by
  have e : l.length - i = (l.length - (i + 1)) + 1 := by omega
  have e2 : l.take (i + 1) = l.take i ++ [l[i]] := by rw [List.take_add_one, List.getElem?_eq_getElem hi]; rfl
  rw [List.set_append_right _ _ (by rw [List.length_take]; omega), e, List.replicate_succ, e2, List.append_assoc, List.length_take, Nat.min_eq_left (by omega), Nat.sub_self]
  rfl
theorem laws_toGiveBoxS {S : Nat → Prop} (h : Heap) (c : Ce) (l : List Box) (ho : HOk h) (hc : RdF fBox S h c l) (hl : l.length ≤ 1048576) :
    Flaws_toGiveBoxS [.v (.c c)] h = some (.v (.c (.sl (.inr h.nx) 0 l.length .own)), h.push ⟨fBox.all l, 6, true⟩) := by
  unfold Flaws_toGiveBoxS
  have A := laws_toGiveBox
  simp only [fBox] at A
  have hz : (List.replicate l.length Z6).flatten = fBox.all (List.replicate l.length zBox) := fBox.all_repl _ zBox
  simp only [Z6] at hz
  refine runF_eq ?_
  simp [claws_toGiveBoxS, hc.slen, hc.noLoc, lim, show (l.length : Int) ≤ 4294967296 by omega, hz]
  refine AW_each l.length (fun i x => x.1 0 = .v (.c c) ∧ x.1 3 = .v (.c (.sl (.inr h.nx) 0 l.length .own)) ∧ x.1 4 = .v (.c (.int .i64 i)) ∧ x.2 = ⟨h.push ⟨fBox.all (l.take i ++ List.replicate (l.length - i) zBox), 6, true⟩, nol⟩) (by simp [St.push]) ?_ ?_
  · rintro i ⟨T, s⟩ hin ⟨h0, h3, h4, rfl⟩
    simp only at h0 h3 h4
    obtain ⟨b, p, r, e1, _, e2, e3, e4, _⟩ := hc.box hin
    have hne : b ≠ h.nx := by have := ho.lt e2; omega
    have hlen : (fBox.all (l.take i ++ List.replicate (l.length - i) zBox)).length = l.length * 6 := by rw [fBox.all_length]; simp [fBox]; omega
    have hcut := fBox.all_put (l.take i ++ List.replicate (l.length - i) zBox) (i := i) (by simp; omega) l[i]
    rw [take_repl_put l zBox hin] at hcut
    simp only [fBox] at hcut hlen
    have hw := wrap1 (i := i) (by omega)
    have he2 : (Ce.sl (Sum.inr h.nx) 0 l.length .own).eltAt 6 i = some (.inr h.nx, i * 6) := by simp [Ce.eltAt, hin]
    have hfit : i * 6 + 6 ≤ l.length * 6 := by omega
    simp [claws_toGiveBoxS_L0, h0, h3, h4, hc.slen, hin, e1, e2, Heap.push, upd, hne, e3, e4, elaws_toGiveBoxS_laws_toGiveBox, A, he2, hlen, hfit, hw, fBox]
    rw [← hcut]
    exact upd_upd _ _ _ _
  · rintro ⟨T, s⟩ ⟨h0, h3, h4, rfl⟩
    simp only at h0 h3 h4
    simp [claws_toGiveBoxS_L0, h0, h3, h4, hc.slen]

theorem laws_eqGiveBoxS {S S' : Nat → Prop} (h : Heap) (c c' : Ce) (l l' : List Box) (hc : RdF fBox S h c l) (hc' : RdF fBox S' h c' l') :
    ∃ r, Flaws_eqGiveBoxS [.v (.c c), .v (.c c')] h = some (.v (.c (.bool r)), h) ∧ (r = true ↔ l = l') := by
  unfold Flaws_eqGiveBoxS
  have hl := hc.le
  have A := laws_eqGiveBox
  simp only [fBox] at A
  obtain ⟨v, h', h1, r, rfl, rfl, h2⟩ := runF_of (env := elaws_eqGiveBoxS) (code := claws_eqGiveBoxS) (rs := [.t 4]) (args := [.v (.c c), .v (.c c')]) (h := h) (K := fun v h' => ∃ r, v = .v (.c (.bool r)) ∧ h' = h ∧ (r = true ↔ l = l')) (by
    by_cases hlen : l.length = l'.length
    · simp [claws_eqGiveBoxS, hc.slen, hc'.slen, hc.noLoc, hlen]
      refine AW_for1 l.length (fun i => !eqBox (l.getD i default) (l'.getD i default)) (fun i x => x.1 0 = .v (.c c) ∧ x.1 1 = .v (.c c') ∧ x.1 5 = .v (.c (.int .i64 i)) ∧ x.2 = ⟨h, nol⟩) (by simp) ?_ ?_
      · rintro i ⟨T, s⟩ hin _ ⟨h0, h1, h5, rfl⟩
        simp only at h0 h1 h5
        have hin' : i < l'.length := by omega
        obtain ⟨b, p, r, e1, _, e2, e3, e4, _⟩ := hc.box hin
        obtain ⟨b', p', r', f1, _, f2, f3, f4, _⟩ := hc'.box hin'
        have hw := wrap1 (i := i) (by omega)
        simp +contextual [claws_eqGiveBoxS_L0, h0, h1, h5, hc.slen, hin, hin', e1, e2, e3, e4, f1, f2, f3, f4, elaws_eqGiveBoxS_laws_eqGiveBox, A, hw]
        rintro hb rfl
        rw [(eqBox_iff _ _).2 rfl] at hb
        cases hb
      · rintro ⟨T, s⟩ hno ⟨h0, h1, h5, rfl⟩
        simp only at h0 h1 h5
        have hll : l = l' := by
          apply List.ext_getElem hlen
          intro j hj hj'
          exact (eqBox_iff _ _).1 (by simpa [hj, hj'] using hno j hj)
        simp [claws_eqGiveBoxS_L0, h0, h1, h5, hc.slen, hll]
    · have hne : l ≠ l' := fun e => hlen (by rw [e])
      have : ¬ (l.length : Int) = l'.length := by omega
      simp [claws_eqGiveBoxS, hc.slen, hc'.slen, hlen, this, hne])
  exact ⟨r, h1, h2⟩
theorem spec_GiveCut {S : Nat → Prop} (h : Heap) (c : Ce) (l : List Box) (k : Int) (ho : HOk h) (hc : RdF fBox S h c l) (hl : l.length ≤ 1048576) :
    ∃ c' h' fp, Fspec_GiveCut [.v (.c c), .v (.c (.int .i64 k))] h = some (.v (.c c'), h') ∧ NewF fBox h h' c' (cutB k l) fp := by
  unfold Fspec_GiveCut
  obtain ⟨v, h', h1, c', fp, rfl, h2⟩ := runF_of (env := espec_GiveCut) (code := cspec_GiveCut) (rs := [.t 4]) (args := [.v (.c c), .v (.c (.int .i64 k))]) (h := h) (K := fun v h' => ∃ c' fp, v = .v (.c c') ∧ NewF fBox h h' c' (cutB k l) fp) (by
    simp [cspec_GiveCut]
    refine AW_each l.length (fun i x => x.1 0 = .v (.c c) ∧ x.1 1 = .v (.c (.int .i64 k)) ∧ x.1 6 = .v (.c (.int .i64 i)) ∧ ∃ c5 fp, x.1 5 = .v (.c c5) ∧ NewF fBox h x.2.h c5 (cutB k (l.take i)) fp) ?_ ?_ ?_
    · simp [St.push]
      exact ⟨_, NewF.push ho [] 0 rfl⟩
    · rintro i ⟨T, ⟨h', lc⟩⟩ hin ⟨h0, h1, h6, c5, fp, h5, nw⟩
      simp only at h0 h1 h5 h6 nw
      obtain ⟨b, p, r, e1, _, e2, e3, e4, _⟩ := (hc.keep ho nw.fr).box hin
      have hw := wrap1 (i := i) (by omega)
      have hlen : (cutB k (l.take i)).length + 1 ≤ lim := by
        have := cutB_le k (l.take i)
        rw [List.length_take] at this
        simp only [lim]
        omega
      have ht := cutB_take k l hin
      by_cases hb : l[i].tout < k
      · have hcut : cut1 k l[i] = none := by simp [cut1, hb]
        rw [hcut] at ht
        simp only [Option.toList, List.append_nil] at ht
        simp [cspec_GiveCut_L0, h0, h1, h5, h6, hc.slen, hc.noLoc, nw.own.noLoc, hin, e1, e2, e3, e4, hw, hb, ht]
        exact ⟨fp, nw⟩
      · have hcut : cut1 k l[i] = some { l[i] with tin := if l[i].tin < k then k else l[i].tin } := by simp [cut1, hb]
        rw [hcut] at ht
        simp only [Option.toList] at ht
        obtain ⟨c'', h'', fp'', nw', _, _, _, hap⟩ := nw.append1 { l[i] with tin := if l[i].tin < k then k else l[i].tin } hlen
        simp only [fBox] at hap
        rw [← ht] at nw'
        by_cases hm : l[i].tin < k
        · simp only [hm, if_true] at hap
          simp [cspec_GiveCut_L0, h0, h1, h5, h6, hc.slen, hc.noLoc, nw.own.noLoc, hin, e1, e2, e3, e4, hw, hb, hm, hap]
          exact ⟨fp'', nw'⟩
        · simp only [hm, if_false] at hap
          simp [cspec_GiveCut_L0, h0, h1, h5, h6, hc.slen, hc.noLoc, nw.own.noLoc, hin, e1, e2, e3, e4, hw, hb, hm, hap]
          exact ⟨fp'', nw'⟩
    · rintro ⟨T, ⟨h', lc⟩⟩ ⟨h0, h1, h6, c5, fp, h5, nw⟩
      simp only at h0 h1 h5 h6 nw
      rw [List.take_length] at nw
      simp [cspec_GiveCut_L0, h0, h1, h5, h6, hc.slen, nw.own.noLoc]
      exact ⟨fp, nw⟩)
  exact ⟨c', h', fp, h1, h2⟩
theorem impl_GiveCut {S : Nat → Prop} (h : Heap) (c : Ce) (l : List Box) (k : Int) (ho : HOk h) (hc : RdF fBox S h c l) (hl : l.length ≤ 1048576) :
    ∃ c' h' fp, Fimpl_GiveCut [.v (.c c), .v (.c (.int .i64 k))] h = some (.v (.c c'), h') ∧ NewF fBox h h' c' (cutB k l) fp := by
  unfold Fimpl_GiveCut
  obtain ⟨v, h', h1, c', fp, rfl, h2⟩ := runF_of (env := eimpl_GiveCut) (code := cimpl_GiveCut) (rs := [.t 4]) (args := [.v (.c c), .v (.c (.int .i64 k))]) (h := h) (K := fun v h' => ∃ c' fp, v = .v (.c c') ∧ NewF fBox h h' c' (cutB k l) fp) (by
    simp [cimpl_GiveCut, hc.slen]
    refine AW_each l.length (fun i x => x.1 1 = .v (.c (.int .i64 k)) ∧ x.1 9 = .v (.c c) ∧ x.1 10 = .v (.c (.int .i64 l.length)) ∧ x.1 11 = .v (.c (.int .i64 i)) ∧ ∃ c5 fp, x.1 5 = .v (.c c5) ∧ NewF fBox h x.2.h c5 (cutB k (l.take i)) fp) ?_ ?_ ?_
    · simp [St.push]
      exact ⟨_, NewF.push ho [] 0 rfl⟩
    · rintro i ⟨T, ⟨h', lc⟩⟩ hin ⟨h1, h9, h10, h11, c5, fp, h5, nw⟩
      simp only at h1 h9 h10 h11 h5 nw
      obtain ⟨b, p, r, e1, _, e2, e3, e4, _⟩ := (hc.keep ho nw.fr).box hin
      have hw := wrap1 (i := i) (by omega)
      have hlen : (cutB k (l.take i)).length + 1 ≤ lim := by
        have := cutB_le k (l.take i)
        rw [List.length_take] at this
        simp only [lim]
        omega
      have ht := cutB_take k l hin
      by_cases hb : l[i].tout < k
      · have hcut : cut1 k l[i] = none := by simp [cut1, hb]
        rw [hcut] at ht
        simp only [Option.toList, List.append_nil] at ht
        have hb' : ¬ k ≤ l[i].tout := by omega
        simp [cimpl_GiveCut_L0, h1, h9, h10, h11, h5, hc.noLoc, nw.own.noLoc, hin, e1, e2, e3, e4, hw, hb', ht]
        exact ⟨fp, nw⟩
      · have hcut : cut1 k l[i] = some { l[i] with tin := max2 l[i].tin k } := by simp [cut1, hb, max2]
        rw [hcut] at ht
        simp only [Option.toList] at ht
        obtain ⟨c'', h'', fp'', nw', _, _, _, hap⟩ := nw.append1 { l[i] with tin := max2 l[i].tin k } hlen
        simp only [fBox] at hap
        rw [← ht] at nw'
        have hb' : k ≤ l[i].tout := by omega
        simp [cimpl_GiveCut_L0, h1, h9, h10, h11, h5, hc.noLoc, nw.own.noLoc, hin, e1, e2, e3, e4, hw, hb', hap]
        exact ⟨fp'', nw'⟩
    · rintro ⟨T, ⟨h', lc⟩⟩ ⟨h1, h9, h10, h11, c5, fp, h5, nw⟩
      simp only at h1 h9 h10 h11 h5 nw
      rw [List.take_length] at nw
      simp [cimpl_GiveCut_L0, h1, h9, h10, h11, h5, nw.own.noLoc]
      exact ⟨fp, nw⟩)
  exact ⟨c', h', fp, h1, h2⟩
/-- What the marks write. -/
def mkBox (k : Int) (i : Nat) : Box := ⟨k + 6 * i, k + 6 * i + 1, k + 6 * i + 2, k + 6 * i + 3, k + 6 * i + 4, k + 6 * i + 5⟩
def marksBox (k : Int) (n : Nat) : List Box := (List.range n).map (mkBox k)
theorem marksBox_length (k : Int) (n : Nat) : (marksBox k n).length = n := by simp [marksBox]
theorem marksBox_at (k : Int) (n i : Nat) (h : i < (marksBox k n).length) : (marksBox k n)[i] = mkBox k i := by simp [marksBox]
theorem laws_markGiveBoxS (h : Heap) (c : Ce) (l : List Box) (fp : List Nat) (k : Int) (ho : HOk h) (hc : OwnF fBox h c l fp) (hl : l.length ≤ 1048576) (hk : 0 ≤ k ∧ k ≤ 1152921504606846976) :
    ∃ h', Flaws_markGiveBoxS [.v (.c c), .v (.c (.int .i64 k))] h = some (.v (.c (.int .i64 (k + 6 * l.length))), h') ∧ OwnF fBox h' c (marksBox k l.length) fp ∧ Chg fp h h' := by
  unfold Flaws_markGiveBoxS
  rcases hc with ⟨rfl, rfl, rfl⟩ | ⟨b, rfl, hb, rfl⟩
  · refine ⟨h, runF_eq ?_, .inl ⟨rfl, rfl, rfl⟩, Chg.refl ho⟩
    simp [claws_markGiveBoxS]
    refine AW_each 0 (fun i x => x.1 0 = .v (.c .nils) ∧ x.1 1 = .v (.c (.int .i64 k)) ∧ x.1 5 = .v (.c (.int .i64 0)) ∧ x.2 = ⟨h, nol⟩) (by simp) (by intros; omega) ?_
    rintro ⟨T, s⟩ ⟨h0, h1, h5, rfl⟩
    simp only at h0 h1 h5
    simp [claws_markGiveBoxS_L0, h0, h1, h5, Ce.slen]
  · refine ⟨⟨h.nx, upd h.hp b (some ⟨fBox.all (marksBox k l.length), 6, true⟩)⟩, runF_eq ?_, .inr ⟨b, by rw [marksBox_length], by simp [upd, fBox], rfl⟩, Chg.one ho (ho.lt hb) _⟩
    simp [claws_markGiveBoxS]
    refine AW_each l.length (fun i x => x.1 0 = .v (.c (.sl (.inr b) 0 l.length .own)) ∧ x.1 1 = .v (.c (.int .i64 (k + 6 * i))) ∧ x.1 5 = .v (.c (.int .i64 i)) ∧ x.2 = ⟨⟨h.nx, upd h.hp b (some ⟨fBox.all ((marksBox k l.length).take i ++ l.drop i), 6, true⟩)⟩, nol⟩) ?_ ?_ ?_
    · have := upd_same hb
      simp only [show fBox.sz = 6 from rfl] at this
      simp [this]
    · rintro i ⟨T, s⟩ hin ⟨h0, h1, h5, rfl⟩
      simp only at h0 h1 h5
      obtain ⟨K0, k0⟩ : ∃ K, K = k + 6 * (i : Int) := ⟨_, rfl⟩
      rw [← k0] at h1
      obtain ⟨K1, k1⟩ : ∃ K, K = K0 + 1 := ⟨_, rfl⟩
      have w0 : IntKind.i64.wrap (K0 + 1) = K1 := by rw [k1]; exact wrap_i64 (by omega) (by omega)
      obtain ⟨K2, k2⟩ : ∃ K, K = K1 + 1 := ⟨_, rfl⟩
      have w1 : IntKind.i64.wrap (K1 + 1) = K2 := by rw [k2]; exact wrap_i64 (by omega) (by omega)
      obtain ⟨K3, k3⟩ : ∃ K, K = K2 + 1 := ⟨_, rfl⟩
      have w2 : IntKind.i64.wrap (K2 + 1) = K3 := by rw [k3]; exact wrap_i64 (by omega) (by omega)
      obtain ⟨K4, k4⟩ : ∃ K, K = K3 + 1 := ⟨_, rfl⟩
      have w3 : IntKind.i64.wrap (K3 + 1) = K4 := by rw [k4]; exact wrap_i64 (by omega) (by omega)
      obtain ⟨K5, k5⟩ : ∃ K, K = K4 + 1 := ⟨_, rfl⟩
      have w4 : IntKind.i64.wrap (K4 + 1) = K5 := by rw [k5]; exact wrap_i64 (by omega) (by omega)
      obtain ⟨K6, k6⟩ : ∃ K, K = K5 + 1 := ⟨_, rfl⟩
      have w5 : IntKind.i64.wrap (K5 + 1) = K6 := by rw [k6]; exact wrap_i64 (by omega) (by omega)
      obtain ⟨L, hL⟩ : ∃ L, L = (marksBox k l.length).take i ++ l.drop i := ⟨_, rfl⟩
      rw [← hL]
      have hiL : i < L.length := by rw [hL]; simp [marksBox]; omega
      have hLi : L[i] = l[i] := by
        simp only [hL]
        rw [List.getElem_append_right (by simp; omega)]
        simp [marksBox, Nat.min_eq_left (Nat.le_of_lt hin)]
      have hlen : (fBox.all L).length = l.length * 6 := by rw [fBox.all_length, hL]; simp [fBox, marksBox]; omega
      have hlenS : ∀ B, (fBox.all (L.set i B)).length = l.length * 6 := by intro B; rw [fBox.all_length, List.length_set, ← fBox.all_length, hlen]
      have s0 := fBox.all_set L (i := i) (k := 0) (by simpa using hiL) (by decide) (b := ⟨K0, l[i].y, l[i].low, l[i].high, l[i].tin, l[i].tout⟩) (v := .int .i64 K0) (by simp [fBox, hLi])
      simp only [show fBox.sz = 6 from rfl, Nat.add_zero, Nat.add_assoc, Nat.reduceAdd] at s0
      have s1 := fBox.all_set (L.set i ⟨K0, l[i].y, l[i].low, l[i].high, l[i].tin, l[i].tout⟩) (i := i) (k := 1) (by simpa using hiL) (by decide) (b := ⟨K0, K1, l[i].low, l[i].high, l[i].tin, l[i].tout⟩) (v := .int .i64 K1) (by simp [fBox])
      rw [List.set_set] at s1
      simp only [show fBox.sz = 6 from rfl, Nat.add_zero, Nat.add_assoc, Nat.reduceAdd] at s1
      have s2 := fBox.all_set (L.set i ⟨K0, K1, l[i].low, l[i].high, l[i].tin, l[i].tout⟩) (i := i) (k := 2) (by simpa using hiL) (by decide) (b := ⟨K0, K1, K2, l[i].high, l[i].tin, l[i].tout⟩) (v := .int .i64 K2) (by simp [fBox])
      rw [List.set_set] at s2
      simp only [show fBox.sz = 6 from rfl, Nat.add_zero, Nat.add_assoc, Nat.reduceAdd] at s2
      have s3 := fBox.all_set (L.set i ⟨K0, K1, K2, l[i].high, l[i].tin, l[i].tout⟩) (i := i) (k := 3) (by simpa using hiL) (by decide) (b := ⟨K0, K1, K2, K3, l[i].tin, l[i].tout⟩) (v := .int .i64 K3) (by simp [fBox])
      rw [List.set_set] at s3
      simp only [show fBox.sz = 6 from rfl, Nat.add_zero, Nat.add_assoc, Nat.reduceAdd] at s3
      have s4 := fBox.all_set (L.set i ⟨K0, K1, K2, K3, l[i].tin, l[i].tout⟩) (i := i) (k := 4) (by simpa using hiL) (by decide) (b := ⟨K0, K1, K2, K3, K4, l[i].tout⟩) (v := .int .i64 K4) (by simp [fBox])
      rw [List.set_set] at s4
      simp only [show fBox.sz = 6 from rfl, Nat.add_zero, Nat.add_assoc, Nat.reduceAdd] at s4
      have s5 := fBox.all_set (L.set i ⟨K0, K1, K2, K3, K4, l[i].tout⟩) (i := i) (k := 5) (by simpa using hiL) (by decide) (b := ⟨K0, K1, K2, K3, K4, K5⟩) (v := .int .i64 K5) (by simp [fBox])
      rw [List.set_set] at s5
      simp only [show fBox.sz = 6 from rfl, Nat.add_zero, Nat.add_assoc, Nat.reduceAdd] at s5
      have q1 : i * 6 + 1 ≤ l.length * 6 := by omega
      have q2 : i * 6 + 2 ≤ l.length * 6 := by omega
      have q3 : i * 6 + 3 ≤ l.length * 6 := by omega
      have q4 : i * 6 + 4 ≤ l.length * 6 := by omega
      have q5 : i * 6 + 5 ≤ l.length * 6 := by omega
      have q6 : i * 6 + 6 ≤ l.length * 6 := by omega
      have g1 : (fBox.all (L.set i ⟨K0, l[i].y, l[i].low, l[i].high, l[i].tin, l[i].tout⟩)).length = l.length * 6 := hlenS _
      have g2 : (fBox.all (L.set i ⟨K0, K1, l[i].low, l[i].high, l[i].tin, l[i].tout⟩)).length = l.length * 6 := hlenS _
      have g3 : (fBox.all (L.set i ⟨K0, K1, K2, l[i].high, l[i].tin, l[i].tout⟩)).length = l.length * 6 := hlenS _
      have g4 : (fBox.all (L.set i ⟨K0, K1, K2, K3, l[i].tin, l[i].tout⟩)).length = l.length * 6 := hlenS _
      have g5 : (fBox.all (L.set i ⟨K0, K1, K2, K3, K4, l[i].tout⟩)).length = l.length * 6 := hlenS _
      have g6 : (fBox.all (L.set i ⟨K0, K1, K2, K3, K4, K5⟩)).length = l.length * 6 := hlenS _
      have hw := wrap1 (i := i) (by omega)
      have he2 : (Ce.sl (Sum.inr b) 0 l.length .own).eltAt 6 i = some (.inr b, i * 6) := by simp [Ce.eltAt, hin]
      have hend : L.set i ⟨K0, K1, K2, K3, K4, K5⟩ = (marksBox k l.length).take (i + 1) ++ l.drop (i + 1) := by
        rw [hL, ← take_drop_set _ _ hin (by rw [marksBox_length]; omega), marksBox_at]
        simp only [mkBox]
        congr 2 <;> omega
      have hK : K6 = k + 6 * ((i : Int) + 1) := by omega
      simp [claws_markGiveBoxS_L0, h0, h1, h5, Ce.slen, hin, he2, upd_upd, hlen, s0, w0, q1, g1, s1, w1, q2, g2, s2, w2, q3, g3, s3, w3, q4, g4, s4, w4, q5, g5, s5, w5, q6, g6, hw]
      exact ⟨hK, by rw [hend]⟩
    · rintro ⟨T, s⟩ ⟨h0, h1, h5, rfl⟩
      simp only at h0 h1 h5
      have e1 : (marksBox k l.length).take l.length = marksBox k l.length := by
        apply List.take_of_length_le
        rw [marksBox_length]; omega
      simp [claws_markGiveBoxS_L0, h0, h1, h5, Ce.slen, e1]

theorem laws_heldGiveBoxS {S : Nat → Prop} (h : Heap) (c : Ce) (n : Nat) (k : Int) (hc : RdF fBox S h c (marksBox k n)) (hl : n ≤ 1048576) (hk : 0 ≤ k ∧ k ≤ 1152921504606846976) :
    Flaws_heldGiveBoxS [.v (.c c), .v (.c (.int .i64 k))] h = some (.v (.c (.int .i64 (k + 6 * n))), h) := by
  unfold Flaws_heldGiveBoxS
  refine runF_eq ?_
  have hsl := hc.slen
  rw [marksBox_length] at hsl
  simp [claws_heldGiveBoxS]
  refine AW_each n (fun i x => x.1 0 = .v (.c c) ∧ x.1 1 = .v (.c (.int .i64 (k + 6 * i))) ∧ x.1 5 = .v (.c (.int .i64 i)) ∧ x.2 = ⟨h, nol⟩) (by simp) ?_ ?_
  · rintro i ⟨T, s⟩ hin ⟨h0, h1, h5, rfl⟩
    simp only at h0 h1 h5
    obtain ⟨eb, ep, er, e1, _, e2, e3, e4, e5, e6, e7, e8, e9, e10⟩ := hc.box (show i < (marksBox k n).length by rw [marksBox_length]; exact hin)
    rw [marksBox_at] at e5 e6 e7 e8 e9 e10
    simp only [mkBox] at e5 e6 e7 e8 e9 e10
    obtain ⟨K0, k0⟩ : ∃ K, K = k + 6 * (i : Int) := ⟨_, rfl⟩
    obtain ⟨K1, k1⟩ : ∃ K, K = K0 + 1 := ⟨_, rfl⟩
    have w0 : IntKind.i64.wrap (K0 + 1) = K1 := by rw [k1]; exact wrap_i64 (by omega) (by omega)
    obtain ⟨K2, k2⟩ : ∃ K, K = K1 + 1 := ⟨_, rfl⟩
    have w1 : IntKind.i64.wrap (K1 + 1) = K2 := by rw [k2]; exact wrap_i64 (by omega) (by omega)
    obtain ⟨K3, k3⟩ : ∃ K, K = K2 + 1 := ⟨_, rfl⟩
    have w2 : IntKind.i64.wrap (K2 + 1) = K3 := by rw [k3]; exact wrap_i64 (by omega) (by omega)
    obtain ⟨K4, k4⟩ : ∃ K, K = K3 + 1 := ⟨_, rfl⟩
    have w3 : IntKind.i64.wrap (K3 + 1) = K4 := by rw [k4]; exact wrap_i64 (by omega) (by omega)
    obtain ⟨K5, k5⟩ : ∃ K, K = K4 + 1 := ⟨_, rfl⟩
    have w4 : IntKind.i64.wrap (K4 + 1) = K5 := by rw [k5]; exact wrap_i64 (by omega) (by omega)
    obtain ⟨K6, k6⟩ : ∃ K, K = K5 + 1 := ⟨_, rfl⟩
    have w5 : IntKind.i64.wrap (K5 + 1) = K6 := by rw [k6]; exact wrap_i64 (by omega) (by omega)
    simp only [← k0] at h1 e5 e6 e7 e8 e9 e10
    rw [show K0 + 1 = K1 by omega] at e6
    rw [show K0 + 2 = K2 by omega] at e7
    rw [show K0 + 3 = K3 by omega] at e8
    rw [show K0 + 4 = K4 by omega] at e9
    rw [show K0 + 5 = K5 by omega] at e10
    have hw := wrap1 (i := i) (by omega)
    have hK : K6 = k + 6 * ((i : Int) + 1) := by omega
    simp [claws_heldGiveBoxS_L0, h0, h1, h5, hsl, hin, e1, e2, e5, e6, e7, e8, e9, e10, w0, w1, w2, w3, w4, w5, hw]
    exact hK
  · rintro ⟨T, s⟩ ⟨h0, h1, h5, rfl⟩
    simp only at h0 h1 h5
    simp [claws_heldGiveBoxS_L0, h0, h1, h5, hsl]

end Go.Abs

/-
  The exact laws of GiveNear and GiveCut, over what their functions compute.
-/

namespace Go.Abs
set_option linter.unusedSimpArgs false
set_option linter.unusedVariables false
attribute [local simp] AW_skip AW_exit AW_ret AW_seq AW_block AW_cond CW_ite AW_reg AW_regD RW_nil RW_cons RW_guard GW_t GW_f GW_gt GW_gf GW_tup GY_some GY_tt GY_ff gd_t gd_f pk_t pk_f pk_and pk_or pk_andc pk_orc pk_bool gd_gd SW_some ThenQ_normal ThenQ_exit ThenQ_ret BlockQ_normal BlockQ_exit BlockQ_ret kill_nil kill_cons killT_at killL_at upo_some upo_none ev_t ev_k FinQ_ret FinQ_normal upd_eq upd_ne argsT_zero argsT_succ aop.eq_1 aop_pick aop.eq_3 aop.eq_4 aop.eq_5 aop.eq_6 aop.eq_7 aop.eq_8 aop.eq_9 aop.eq_10 aop.eq_11 aop.eq_12 aop.eq_13 aop.eq_14 aop.eq_15 aop.eq_16 aop.eq_17 aop.eq_18 aop.eq_19 aop.eq_20 aop.eq_21 aop_slice_hi aop_slice_lo aop.eq_23 aop.eq_24 aop.eq_26 aop.eq_27 aop.eq_28 aop.eq_29 aop.eq_31 aop.eq_32 aop_maxs2 aop_mins2 aop_mins3 aop_len aop_iaddr Av.bool? Av.ptr? Av.int? Av.int64? Av.str? Av.agg? ressA resA resOf noLoc_int noLoc_bool noLoc_str noLoc_nils noLoc_nilp noLoc_ptrl noLoc_ptrr noLoc_sll noLoc_slr noLoc_fn noLoc_tc noLoc_tagg noLoc_av noLoc_atup ce_c tv_v cells_c cells_agg noLocs keyLoc evs callA St.set St.get unAv binCe killV_int killV_bool killV_str killV_nils killV_nilp killV_agg killV_no killV_tup killV_ptrl killV_ptrr killV_sll killV_slr killV_fn killV_noLoc fillA repl
attribute [local congr] GY_congr
theorem toBoxes {S : Nat → Prop} (h : Heap) (c : Ce) (l : List Box) (ho : HOk h) (hc : RdF fBox S h c l) (hl : l.length ≤ 1048576) :
    ∃ c' h', Flaws_toGiveBoxS [.v (.c c)] h = some (.v (.c c'), h') ∧ NewF fBox h h' c' l [h.nx] ∧ h'.nx = h.nx + 1 :=
  ⟨_, _, laws_toGiveBoxS h c l ho hc hl, NewF.push ho l _ rfl, rfl⟩
theorem NewF.rd {α : Type} {F : Fl α} {h h' : Heap} {c : Ce} {l : List α} {fp : List Nat} (n : NewF F h h' c l fp) (hl : l.length ≤ 9223372036854775807) : RdF F (fun b => h.nx ≤ b ∧ b < h'.nx) h' c l :=
  n.own.rd hl fun b hb => ⟨n.ge b hb, n.own.lt n.fr.ok hb⟩
theorem NewF.lt {α : Type} {F : Fl α} {h h' : Heap} {c : Ce} {l : List α} {fp : List Nat} (n : NewF F h h' c l fp) {b : Nat} (hb : b ∈ fp) : b < h'.nx := n.own.lt n.fr.ok hb

theorem laws_FnExactGiveCut (h : Heap) (c : Ce) (l : List Box) (k : Int) (ho : HOk h) (hc : RdF fBox (fun b => b < h.nx) h c l) (hk : -9223372036854775808 ≤ k ∧ k ≤ 9223372036854775807) :
    ∃ h', Flaws_FnExactGiveCut [.v (.c c), .v (.c (.int .i64 k))] h = some (.v (.c (.bool true)), h') := by
  unfold Flaws_FnExactGiveCut
  have s1 := laws_szGiveBoxS h c l 1048576 hc (by omega)
  by_cases hb : (1048576 : Int) < l.length
  · rw [if_pos hb] at s1
    refine ⟨_, runF_eq (h' := h) ?_⟩
    simp [claws_FnExactGiveCut, elaws_FnExactGiveCut_laws_szGiveBoxS, s1, hc.noLoc]
  rw [if_neg hb] at s1
  have n1 : ¬ (1048576 : Int) - l.length < 0 := by omega
  have hl : l.length ≤ 1048576 := by omega
  have hcl := cutB_le k l
  obtain ⟨c1, h1, t1, m1, z1⟩ := toBoxes h c l ho hc hl
  obtain ⟨w, h2, fw, t2, m2⟩ := spec_GiveCut h1 c1 l k m1.fr.ok (m1.rd (by omega)) hl
  have f2 := m1.fr.trans m2.fr
  have w2 := m2.rd (by omega)
  obtain ⟨x, h3, t3, m3, z3⟩ := toBoxes h2 c l f2.ok (hc.keep ho f2) hl
  have f3 := f2.trans m3.fr
  obtain ⟨g, h4, fg, t4, m4⟩ := impl_GiveCut h3 x l k m3.fr.ok (m3.rd (by omega)) hl
  have f4 := f3.trans m4.fr
  have w4 := (w2.keep m2.fr.ok m3.fr).keep m3.fr.ok m4.fr
  obtain ⟨q1, e1, b1⟩ := laws_eqGiveBoxS h4 g w _ _ (m4.rd (by omega)) w4
  obtain rfl := b1.2 rfl
  obtain ⟨c5, h5, t5, m5, z5⟩ := toBoxes h4 c l f4.ok (hc.keep ho f4) hl
  have f5 := f4.trans m5.fr
  have x5 := (m3.own.chg m3.fr.ok m4.fr.chg (fp := []) (by simp)).chg m4.fr.ok m5.fr.chg (fp := []) (by simp)
  have g5 := m4.own.chg m4.fr.ok m5.fr.chg (fp := []) (by simp)
  obtain ⟨q2, e2, b2⟩ := laws_eqGiveBoxS h5 x c5 _ _ (x5.rd (S := fun _ => True) (by omega) (by simp)) (m5.rd (by omega))
  obtain rfl := b2.2 rfl
  obtain ⟨h6, t6, x6, d6⟩ := laws_markGiveBoxS h5 x l _ 1 m5.fr.ok x5 hl (by omega)
  have lt3 : ∀ b, b ∈ fg → b ∉ [h2.nx] := by
    intro b hb hn
    have h1 := m4.ge b hb
    have h2 := m3.lt hn
    omega
  have g6 := g5.chg m5.fr.ok d6 lt3
  have w6 := (w4.keep m4.fr.ok m5.fr).chg m5.fr.ok d6 (by
    rintro b ⟨_, hb⟩ hn
    have := m3.ge b hn
    omega)
  obtain ⟨q3, e3, b3⟩ := laws_eqGiveBoxS h6 g w _ _ (g6.rd (S := fun b => b ∈ fg) (by omega) (fun b hb => hb)) w6
  obtain rfl := b3.2 rfl
  obtain ⟨h7, t7, g7, d7⟩ := laws_markGiveBoxS h6 g _ fg 1 d6.ok g6 (by omega) (by omega)
  have u7 := laws_heldGiveBoxS h7 g (cutB k l).length 1 (g7.rd (S := fun b => b ∈ fg) (by rw [marksBox_length]; omega) (fun b hb => hb)) (by omega) (by omega)
  have w7 := w6.chg d6.ok d7 (by
    rintro b ⟨_, hb⟩ hn
    have h1 := m4.ge b hn
    have := m3.fr.nx
    omega)
  have c7 := ((hc.keep ho f5).chg f5.ok d6 (by
    intro b hb hn
    have h1 := m3.ge b hn
    have h2 : b < h.nx := hb
    have := f2.nx
    omega)).chg d6.ok d7 (by
    intro b hb hn
    have h1 := m4.ge b hn
    have h2 : b < h.nx := hb
    have := f3.nx
    omega)
  obtain ⟨c8, h8, t8, m8, z8⟩ := toBoxes h7 c l d7.ok c7 hl
  obtain ⟨r9, h9, f9, t9, m9⟩ := impl_GiveCut h8 c8 l k m8.fr.ok (m8.rd (by omega)) hl
  obtain ⟨q4, e4, b4⟩ := laws_eqGiveBoxS h9 r9 w _ _ (m9.rd (by omega)) ((w7.keep d7.ok m8.fr).keep m8.fr.ok m9.fr)
  obtain rfl := b4.2 rfl
  have g9 := (g7.chg d7.ok m8.fr.chg (fp := []) (by simp)).chg m8.fr.ok m9.fr.chg (fp := []) (by simp)
  have u9 := laws_heldGiveBoxS h9 g (cutB k l).length 1 (g9.rd (S := fun b => b ∈ fg) (by rw [marksBox_length]; omega) (fun b hb => hb)) (by omega) (by omega)
  have n2 : ¬ (1 : Int) + 6 * l.length < 0 := by omega
  have n3 : ¬ (1 : Int) + 6 * (cutB k l).length < 0 := by omega
  refine ⟨_, runF_eq (h' := h9) ?_⟩
  simp [claws_FnExactGiveCut, elaws_FnExactGiveCut_laws_szGiveBoxS, elaws_FnExactGiveCut_spec_GiveCut, elaws_FnExactGiveCut_laws_toGiveBoxS, elaws_FnExactGiveCut_impl_GiveCut, elaws_FnExactGiveCut_laws_eqGiveBoxS, elaws_FnExactGiveCut_laws_markGiveBoxS, elaws_FnExactGiveCut_laws_heldGiveBoxS, s1, hc.noLoc, m1.own.noLoc, m2.own.noLoc, m3.own.noLoc, m4.own.noLoc, m5.own.noLoc, m8.own.noLoc, m9.own.noLoc, n1, n2, n3, t1, t2, t3, t4, e1, t5, e2, t6, e3, t7, u7, t8, t9, e4, u9]
end Go.Abs
