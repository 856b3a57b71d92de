/-
  The codes of the functions, for the abstract machine (printed by wip/tools/gen3.py; not typed by hand).
-/
import Derived.Test.YtenccnpdaldkfaaB8ae32
import Derived.Test.YtenccnpdaldkfaaB6a6d4
import Derived.Test.YtenccnpdaldkfaaB58efe
set_option linter.unusedSimpArgs false
set_option linter.unusedVariables false
namespace Go.Abs

/-! ### spec_l2Copy: function 139 -/
def cspec_l2Copy_L0 : ACode := (.seq ((.seq (.reg [] [MV 12 4,
 FA 13 2 1,
 LD 14 13,
 LE 15 14,
 OP 16 (.bin .lss (.t 12) (.t 15))])
(.cond (.t 16) (.skip) (.exit 0))))
((.seq (.block 1 (.regD [42] [FA 19 2 3,
 LD 20 19,
 FA 21 2 1,
 LD 22 21,
 MV 23 4,
 IA 24 3 22 23,
 FA 25 0 24,
 LD 26 25,
 FA 27 2 1,
 LD 28 27,
 MV 29 4,
 IA 30 3 28 29,
 FA 31 1 30,
 LD 32 31,
 OP 33 (.call 146 [.t 32]),
 FA 34 2 1,
 LD 35 34,
 MV 36 4,
 IA 37 3 35 36,
 FA 38 2 37,
 LD 39 38,
 OP 40 (.call 146 [.t 39]),
 ⟨some 41, .build [.str ⟨#[]⟩, .nils, .nils] [(0, 1, .t 26), (1, 1, .t 33), (2, 1, .t 40)], none⟩,
 ⟨some 42, .mkSlL 3 1 [.str ⟨#[]⟩, .nils, .nils] [(0, 3, .t 41)], none⟩,
 OP 43 (.append 3 (.t 20) (.t 42)),
 FA 44 2 3,
 OX (.store 1 (.t 44) (.t 43))] [(14, 1), (14, 3), (14, 7), (14, 16), (14, 20), (21, 1), (21, 3), (21, 7)]))
(.reg [] [MV 17 4,
 OP 18 (.bin .add (.t 17) (KI 1)),
 MV 4 18]))))
def cspec_l2Copy : ACode := (.seq (.reg [1, 2] [OP 1 (.boxL 3 (.t 0)),
 OP 2 (.allocL 3 [.int .i64 0, .nils, .nils])])
((.seq (.regD [3] [FA 5 0 1,
 LD 6 5,
 ⟨some 7, .mkSlH 3 0 [.str ⟨#[]⟩, .int .i64 0, .int .i64 0] [], none⟩,
 FA 8 1 1,
 LD 9 8,
 OP 10 (.append 3 (.t 7) (.t 9)),
 OP 11 (.build [.int .i64 0, .nils, .nils] [(0, 1, .t 6), (1, 1, .t 10)]),
 OP 3 (.allocL 3 [.int .i64 0, .nils, .nils]),
 OX (.store 3 (.t 3) (.t 11))] [(5, 1), (5, 7)])
((.seq ((.seq (.reg [] [OP 4 (.mov (KI 0))])
(.block 0 (.loop cspec_l2Copy_L0))))
((.seq (.reg [] [OP 45 (.loadN 3 (.t 3)),
 OX (.store 3 (.t 2) (.t 45))])
(.ret))))))))
noncomputable def espec_l2Copy : Env := envL [(146, Fspec_l2Tube)]
noncomputable def Fspec_l2Copy : Fun := runF espec_l2Copy cspec_l2Copy [.cellN 2 3]
theorem espec_l2Copy_spec_l2Tube : espec_l2Copy 146 = some Fspec_l2Tube := by simp [espec_l2Copy, envL_cons]

/-! ### spec_l2At: function 140 -/
def cspec_l2At_L0 : ACode := (.seq ((.seq (.reg [] [MV 6 5,
 FA 7 2 2,
 LD 8 7,
 LE 9 8,
 OP 10 (.bin .lss (.t 6) (.t 9))])
(.cond (.t 10) (.skip) (.exit 0))))
((.seq (.block 1 ((.seq (.reg [] [FA 13 2 2,
 LD 14 13,
 MV 15 5,
 IA 16 3 14 15,
 FA 17 0 16,
 LD 18 17,
 MV 19 1,
 OP 20 (.bin .eql (.t 18) (.t 19))])
(.cond (.t 20) ((.seq (.reg [] [MV 21 5,
 MV 4 21])
(.ret))) (.skip)))))
(.reg [] [MV 11 5,
 OP 12 (.bin .add (.t 11) (KI 1)),
 MV 5 12]))))
def cspec_l2At : ACode := (.seq (.reg [2] [OP 2 (.boxL 3 (.t 0)),
 OP 4 (.mov (KI 0))])
((.seq ((.seq (.reg [] [OP 5 (.mov (KI 0))])
(.block 0 (.loop cspec_l2At_L0))))
((.seq (.reg [] [OP 4 (.mov (KI (-1)))])
(.ret))))))
noncomputable def espec_l2At : Env := envL []
noncomputable def Fspec_l2At : Fun := runF espec_l2At cspec_l2At [.t 4]

/-! ### spec_GiveHear: function 63 -/
def cspec_GiveHear : ACode := (.seq (.reg [3, 6] [OP 3 (.boxL 3 (.t 0)),
 OP 6 (.allocL 3 [.int .i64 0, .nils, .nils]),
 OP 7 (.mov (KI 0))])
((.seq ((.seq (.reg [] [OP 10 (.loadN 3 (.t 3)),
 OP 11 (.call 49 [.t 10]),
 OP 12 (.un .not (.t 11))])
(.cond (.t 12) ((.seq (.reg [] [OP 13 (.build [.int .i64 0, .nils, .nils] []),
 OX (.store 3 (.t 6) (.t 13)),
 OP 7 (.mov (KI 1))])
(.ret))) (.skip))))
((.seq (.reg [8] [OP 14 (.loadN 3 (.t 3)),
 OP 15 (.call 139 [.t 14]),
 OP 8 (.allocL 3 [.int .i64 0, .nils, .nils]),
 OX (.store 3 (.t 8) (.t 15))])
((.seq (.reg [] [OP 16 (.loadN 3 (.t 3)),
 MV 17 1,
 OP 18 (.call 140 [.t 16, .t 17]),
 MV 9 18])
((.seq ((.seq (.reg [] [MV 19 9,
 OP 20 (.bin .lss (.t 19) (KI 0))])
(.cond (.t 20) ((.seq (.reg [] [OP 21 (.loadN 3 (.t 8)),
 OX (.store 3 (.t 6) (.t 21)),
 OP 7 (.mov (KI 6))])
(.ret))) (.skip))))
((.seq ((.seq (.reg [] [FA 22 2 3,
 LD 23 22,
 MV 24 9,
 IA 25 3 23 24,
 FA 26 2 25,
 LD 27 26,
 LE 28 27,
 OP 29 (.bin .eql (.t 28) (KI 0))])
(.cond (.t 29) ((.seq (.reg [] [OP 30 (.loadN 3 (.t 8)),
 OX (.store 3 (.t 6) (.t 30)),
 OP 7 (.mov (KI 8))])
(.ret))) (.skip))))
((.seq ((.seq (.reg [] [MV 31 2])
(.cond (.t 31) (.regD [] [FA 32 2 8,
 LD 33 32,
 MV 34 9,
 FA 35 2 8,
 LD 36 35,
 MV 37 9,
 IA 38 3 36 37,
 FA 39 2 38,
 LD 40 39,
 IA 41 3 33 34,
 FA 42 1 41,
 OX (.store 1 (.t 42) (.t 40))] []) (.skip))))
((.seq (.reg [] [FA 43 2 8,
 LD 44 43,
 MV 45 9,
 OP 46 (.mkSlH 6 0 Z6 []),
 IA 47 3 44 45,
 FA 48 2 47,
 OX (.store 1 (.t 48) (.t 46))])
((.seq (.reg [] [OP 49 (.loadN 3 (.t 8)),
 OX (.store 3 (.t 6) (.t 49)),
 OP 7 (.mov (KI 0))])
(.ret))))))))))))))))))
noncomputable def espec_GiveHear : Env := envL [(49, Fspec_GiveBookOk), (139, Fspec_l2Copy), (140, Fspec_l2At)]
noncomputable def Fspec_GiveHear : Fun := runF espec_GiveHear cspec_GiveHear [.cellN 6 3, .t 7]
theorem espec_GiveHear_spec_GiveBookOk : espec_GiveHear 49 = some Fspec_GiveBookOk := by simp [espec_GiveHear, envL_cons]
theorem espec_GiveHear_spec_l2Copy : espec_GiveHear 139 = some Fspec_l2Copy := by simp [espec_GiveHear, envL_cons]
theorem espec_GiveHear_spec_l2At : espec_GiveHear 140 = some Fspec_l2At := by simp [espec_GiveHear, envL_cons]

/-! ### impl_copyTube: function 147 -/
def cimpl_copyTube : ACode := (.seq (.reg [] [OP 2 (.mov KN)])
((.seq (.reg [] [OP 3 (.mkSlH 6 0 Z6 []),
 MV 4 0,
 OP 5 (.append 6 (.t 3) (.t 4)),
 MV 2 5])
(.ret))))
noncomputable def eimpl_copyTube : Env := envL []
noncomputable def Fimpl_copyTube : Fun := runF eimpl_copyTube cimpl_copyTube [.t 2]

/-! ### impl_copyBook: function 141 -/
def cimpl_copyBook_L0 : ACode := (.seq (.reg [] [OP 17 (.bin .lss (.t 16) (.t 15))])
((.seq (.cond (.t 17) (.skip) (.exit 0))
((.seq (.block 1 ((.seq (.reg [5] [IA 18 3 14 16,
 OP 19 (.loadN 3 (.t 18)),
 ⟨some 5, .allocL 3 [.str ⟨#[]⟩, .nils, .nils], none⟩,
 OX (.store 3 (.t 5) (.t 19))])
(.regD [31] [FA 20 2 3,
 LD 21 20,
 FA 22 0 5,
 LD 23 22,
 FA 24 1 5,
 LD 25 24,
 OP 26 (.call 147 [.t 25]),
 FA 27 2 5,
 LD 28 27,
 OP 29 (.call 147 [.t 28]),
 ⟨some 30, .build [.str ⟨#[]⟩, .nils, .nils] [(0, 1, .t 23), (1, 1, .t 26), (2, 1, .t 29)], none⟩,
 ⟨some 31, .mkSlL 3 1 [.str ⟨#[]⟩, .nils, .nils] [(0, 3, .t 30)], none⟩,
 OP 32 (.append 3 (.t 21) (.t 31)),
 FA 33 2 3,
 OX (.store 1 (.t 33) (.t 32))] [(6, 1), (6, 3), (6, 8), (9, 1), (9, 3)]))))
(.reg [] [OP 34 (.bin .add (.t 16) (KI 1)),
 MV 16 34]))))))
def cimpl_copyBook : ACode := (.seq (.reg [1, 2] [OP 1 (.boxL 3 (.t 0)),
 OP 2 (.allocL 3 [.int .i64 0, .nils, .nils])])
((.seq (.regD [3] [FA 6 0 1,
 LD 7 6,
 ⟨some 8, .mkSlH 3 0 [.str ⟨#[]⟩, .int .i64 0, .int .i64 0] [], none⟩,
 FA 9 1 1,
 LD 10 9,
 OP 11 (.append 3 (.t 8) (.t 10)),
 OP 12 (.build [.int .i64 0, .nils, .nils] [(0, 1, .t 7), (1, 1, .t 11)]),
 OP 3 (.allocL 3 [.int .i64 0, .nils, .nils]),
 OX (.store 3 (.t 3) (.t 12))] [(5, 1), (5, 7)])
((.seq ((.seq (.reg [] [FA 13 2 1,
 LD 14 13,
 LE 15 14,
 OP 16 (.mov (KI 0))])
(.block 0 (.loop cimpl_copyBook_L0))))
((.seq (.reg [] [OP 35 (.loadN 3 (.t 3)),
 OX (.store 3 (.t 2) (.t 35))])
(.ret))))))))
noncomputable def eimpl_copyBook : Env := envL [(147, Fimpl_copyTube)]
noncomputable def Fimpl_copyBook : Fun := runF eimpl_copyBook cimpl_copyBook [.cellN 2 3]
theorem eimpl_copyBook_impl_copyTube : eimpl_copyBook 147 = some Fimpl_copyTube := by simp [eimpl_copyBook, envL_cons]

/-! ### impl_GiveBook_at: function 142 -/
def cimpl_GiveBook_at_L0 : ACode := (.seq (.reg [] [OP 11 (.bin .lss (.t 10) (.t 9))])
((.seq (.cond (.t 11) (.skip) (.exit 0))
((.seq (.block 1 ((.seq (.reg [6] [MV 12 10,
 IA 13 3 8 10,
 OP 14 (.loadN 3 (.t 13)),
 ⟨some 6, .allocL 3 [.str ⟨#[]⟩, .nils, .nils], none⟩,
 MV 5 12,
 OX (.store 3 (.t 6) (.t 14))])
((.seq (.reg [] [FA 15 0 6,
 LD 16 15,
 MV 17 1,
 OP 18 (.bin .eql (.t 16) (.t 17))])
(.cond (.t 18) ((.seq (.reg [] [MV 19 5,
 MV 4 19])
(.ret))) (.skip)))))))
(.reg [] [OP 20 (.bin .add (.t 10) (KI 1)),
 MV 10 20]))))))
def cimpl_GiveBook_at : ACode := (.seq (.reg [2] [OP 2 (.boxL 3 (.t 0)),
 OP 4 (.mov (KI 0))])
((.seq ((.seq (.reg [] [FA 7 2 2,
 LD 8 7,
 LE 9 8,
 OP 10 (.mov (KI 0))])
(.block 0 (.loop cimpl_GiveBook_at_L0))))
((.seq (.reg [] [OP 4 (.mov (KI (-1)))])
(.ret))))))
noncomputable def eimpl_GiveBook_at : Env := envL []
noncomputable def Fimpl_GiveBook_at : Fun := runF eimpl_GiveBook_at cimpl_GiveBook_at [.t 4]

/-! ### impl_GiveHear: function 64 -/
def cimpl_GiveHear : ACode := (.seq (.reg [3, 6] [OP 3 (.boxL 3 (.t 0)),
 OP 6 (.allocL 3 [.int .i64 0, .nils, .nils]),
 OP 7 (.mov (KI 0))])
((.seq ((.seq (.reg [] [OP 10 (.loadN 3 (.t 3)),
 OP 11 (.call 51 [.t 10]),
 OP 12 (.un .not (.t 11))])
(.cond (.t 12) ((.seq (.reg [] [OP 13 (.build [.int .i64 0, .nils, .nils] []),
 OX (.store 3 (.t 6) (.t 13)),
 OP 7 (.mov (KI 1))])
(.ret))) (.skip))))
((.seq (.reg [8] [OP 14 (.loadN 3 (.t 3)),
 OP 15 (.call 141 [.t 14]),
 OP 8 (.allocL 3 [.int .i64 0, .nils, .nils]),
 OX (.store 3 (.t 8) (.t 15))])
((.seq (.reg [] [OP 16 (.loadN 3 (.t 3)),
 MV 17 1,
 OP 18 (.call 142 [.t 16, .t 17]),
 MV 9 18])
((.seq (.block 0 ((.seq (.reg [] [MV 20 9,
 OP 21 (.bin .lss (.t 20) (KI 0)),
 MV 19 21])
(.cond (.t 19) ((.seq (.reg [] [OP 22 (.loadN 3 (.t 8)),
 OX (.store 3 (.t 6) (.t 22)),
 OP 7 (.mov (KI 6))])
(.ret))) ((.seq (.reg [] [FA 24 2 3,
 LD 25 24,
 MV 26 9,
 IA 27 3 25 26,
 FA 28 2 27,
 LD 29 28,
 LE 30 29,
 OP 31 (.bin .eql (.t 30) (KI 0)),
 MV 23 31])
(.cond (.t 23) ((.seq (.reg [] [OP 32 (.loadN 3 (.t 8)),
 OX (.store 3 (.t 6) (.t 32)),
 OP 7 (.mov (KI 8))])
(.ret))) (.skip))))))))
((.seq ((.seq (.reg [] [MV 33 2])
(.cond (.t 33) (.regD [] [FA 34 2 8,
 LD 35 34,
 MV 36 9,
 FA 37 2 8,
 LD 38 37,
 MV 39 9,
 IA 40 3 38 39,
 FA 41 2 40,
 LD 42 41,
 IA 43 3 35 36,
 FA 44 1 43,
 OX (.store 1 (.t 44) (.t 42))] []) (.skip))))
((.seq (.reg [] [FA 45 2 8,
 LD 46 45,
 MV 47 9,
 IA 48 3 46 47,
 FA 49 2 48,
 OX (.store 1 (.t 49) KN)])
((.seq (.reg [] [OP 50 (.loadN 3 (.t 8)),
 OX (.store 3 (.t 6) (.t 50)),
 OP 7 (.mov (KI 0))])
(.ret))))))))))))))))
noncomputable def eimpl_GiveHear : Env := envL [(51, Fimpl_GiveBookOk), (141, Fimpl_copyBook), (142, Fimpl_GiveBook_at)]
noncomputable def Fimpl_GiveHear : Fun := runF eimpl_GiveHear cimpl_GiveHear [.cellN 6 3, .t 7]
theorem eimpl_GiveHear_impl_GiveBookOk : eimpl_GiveHear 51 = some Fimpl_GiveBookOk := by simp [eimpl_GiveHear, envL_cons]
theorem eimpl_GiveHear_impl_copyBook : eimpl_GiveHear 141 = some Fimpl_copyBook := by simp [eimpl_GiveHear, envL_cons]
theorem eimpl_GiveHear_impl_GiveBook_at : eimpl_GiveHear 142 = some Fimpl_GiveBook_at := by simp [eimpl_GiveHear, envL_cons]

/-! ### laws_heldGiveFieldS: function 143 -/
def claws_heldGiveFieldS_L0 : ACode := (.seq ((.seq (.reg [] [MV 6 5,
 MV 7 0,
 LE 8 7,
 OP 9 (.bin .lss (.t 6) (.t 8))])
(.cond (.t 9) (.skip) (.exit 0))))
((.seq (.block 1 ((.seq ((.seq (.regD [] [MV 12 0,
 MV 13 5,
 IA 14 3 12 13,
 FA 15 0 14,
 LD 16 15,
 MV 17 1,
 OP 18 (.call 167 [.t 17]),
 OP 19 (.bin .neq (.t 16) (.t 18))] [(6, 4)])
(.cond (.t 19) ((.seq (.reg [] [OP 4 (.mov (KI (-1)))])
(.ret))) (.skip))))
((.seq (.reg [] [MV 20 1,
 OP 21 (.bin .add (.t 20) (KI 1)),
 MV 1 21])
((.seq ((.seq (.reg [] [MV 22 0,
 MV 23 5,
 IA 24 3 22 23,
 FA 25 1 24,
 LD 26 25,
 MV 27 1,
 OP 28 (.bin .neq (.t 26) (.t 27))])
(.cond (.t 28) ((.seq (.reg [] [OP 4 (.mov (KI (-1)))])
(.ret))) (.skip))))
((.seq (.reg [] [MV 29 1,
 OP 30 (.bin .add (.t 29) (KI 1)),
 MV 1 30])
((.seq ((.seq (.reg [] [MV 31 0,
 MV 32 5,
 IA 33 3 31 32,
 FA 34 2 33,
 LD 35 34,
 MV 36 1,
 OP 37 (.bin .neq (.t 35) (.t 36))])
(.cond (.t 37) ((.seq (.reg [] [OP 4 (.mov (KI (-1)))])
(.ret))) (.skip))))
(.reg [] [MV 38 1,
 OP 39 (.bin .add (.t 38) (KI 1)),
 MV 1 39]))))))))))))
(.reg [] [MV 10 5,
 OP 11 (.bin .add (.t 10) (KI 1)),
 MV 5 11]))))
def claws_heldGiveFieldS : ACode := (.seq (.reg [] [OP 4 (.mov (KI 0))])
((.seq ((.seq (.reg [] [OP 5 (.mov (KI 0))])
(.block 0 (.loop claws_heldGiveFieldS_L0))))
((.seq (.reg [] [MV 40 1,
 MV 4 40])
(.ret))))))
noncomputable def elaws_heldGiveFieldS : Env := envL [(167, Flaws_markText)]
noncomputable def Flaws_heldGiveFieldS : Fun := runF elaws_heldGiveFieldS claws_heldGiveFieldS [.t 4]
theorem elaws_heldGiveFieldS_laws_markText : elaws_heldGiveFieldS 167 = some Flaws_markText := by simp [elaws_heldGiveFieldS, envL_cons]

/-! ### laws_heldGiveHeldS: function 144 -/
def claws_heldGiveHeldS_L0 : ACode := (.seq ((.seq (.reg [] [MV 6 5,
 MV 7 0,
 LE 8 7,
 OP 9 (.bin .lss (.t 6) (.t 8))])
(.cond (.t 9) (.skip) (.exit 0))))
((.seq (.block 1 ((.seq ((.seq (.regD [] [MV 12 0,
 MV 13 5,
 IA 14 3 12 13,
 FA 15 0 14,
 LD 16 15,
 MV 17 1,
 OP 18 (.call 167 [.t 17]),
 OP 19 (.bin .neq (.t 16) (.t 18))] [(6, 4)])
(.cond (.t 19) ((.seq (.reg [] [OP 4 (.mov (KI (-1)))])
(.ret))) (.skip))))
((.seq (.reg [] [MV 20 1,
 OP 21 (.bin .add (.t 20) (KI 1)),
 MV 1 21])
((.seq (.reg [] [MV 22 0,
 MV 23 5,
 IA 24 3 22 23,
 FA 25 1 24,
 LD 26 25,
 MV 27 1,
 OP 28 (.call 31 [.t 26, .t 27]),
 MV 1 28])
((.seq ((.seq (.reg [] [MV 29 1,
 OP 30 (.bin .lss (.t 29) (KI 0))])
(.cond (.t 30) ((.seq (.reg [] [OP 4 (.mov (KI (-1)))])
(.ret))) (.skip))))
((.seq (.reg [] [MV 31 0,
 MV 32 5,
 IA 33 3 31 32,
 FA 34 2 33,
 LD 35 34,
 MV 36 1,
 OP 37 (.call 31 [.t 35, .t 36]),
 MV 1 37])
((.seq (.reg [] [MV 38 1,
 OP 39 (.bin .lss (.t 38) (KI 0))])
(.cond (.t 39) ((.seq (.reg [] [OP 4 (.mov (KI (-1)))])
(.ret))) (.skip)))))))))))))))
(.reg [] [MV 10 5,
 OP 11 (.bin .add (.t 10) (KI 1)),
 MV 5 11]))))
def claws_heldGiveHeldS : ACode := (.seq (.reg [] [OP 4 (.mov (KI 0))])
((.seq ((.seq (.reg [] [OP 5 (.mov (KI 0))])
(.block 0 (.loop claws_heldGiveHeldS_L0))))
((.seq (.reg [] [MV 40 1,
 MV 4 40])
(.ret))))))
noncomputable def elaws_heldGiveHeldS : Env := envL [(31, Flaws_heldGiveBoxS), (167, Flaws_markText)]
noncomputable def Flaws_heldGiveHeldS : Fun := runF elaws_heldGiveHeldS claws_heldGiveHeldS [.t 4]
theorem elaws_heldGiveHeldS_laws_heldGiveBoxS : elaws_heldGiveHeldS 31 = some Flaws_heldGiveBoxS := by simp [elaws_heldGiveHeldS, envL_cons]
theorem elaws_heldGiveHeldS_laws_markText : elaws_heldGiveHeldS 167 = some Flaws_markText := by simp [elaws_heldGiveHeldS, envL_cons]

/-! ### laws_heldGiveBook: function 65 -/
def claws_heldGiveBook : ACode := (.seq (.reg [2] [OP 2 (.boxL 3 (.t 0)),
 OP 4 (.mov (KI 0))])
((.seq (.reg [] [FA 5 1 2,
 LD 6 5,
 MV 7 1,
 OP 8 (.call 143 [.t 6, .t 7]),
 MV 1 8])
((.seq ((.seq (.reg [] [MV 9 1,
 OP 10 (.bin .lss (.t 9) (KI 0))])
(.cond (.t 10) ((.seq (.reg [] [OP 4 (.mov (KI (-1)))])
(.ret))) (.skip))))
((.seq (.reg [] [FA 11 2 2,
 LD 12 11,
 MV 13 1,
 OP 14 (.call 144 [.t 12, .t 13]),
 MV 1 14])
((.seq ((.seq (.reg [] [MV 15 1,
 OP 16 (.bin .lss (.t 15) (KI 0))])
(.cond (.t 16) ((.seq (.reg [] [OP 4 (.mov (KI (-1)))])
(.ret))) (.skip))))
((.seq (.reg [] [MV 17 1,
 MV 4 17])
(.ret))))))))))))
noncomputable def elaws_heldGiveBook : Env := envL [(143, Flaws_heldGiveFieldS), (144, Flaws_heldGiveHeldS)]
noncomputable def Flaws_heldGiveBook : Fun := runF elaws_heldGiveBook claws_heldGiveBook [.t 4]
theorem elaws_heldGiveBook_laws_heldGiveFieldS : elaws_heldGiveBook 143 = some Flaws_heldGiveFieldS := by simp [elaws_heldGiveBook, envL_cons]
theorem elaws_heldGiveBook_laws_heldGiveHeldS : elaws_heldGiveBook 144 = some Flaws_heldGiveHeldS := by simp [elaws_heldGiveBook, envL_cons]

/-! ### laws_FnExactGiveHear: function 14 -/
def claws_FnExactGiveHear : ACode := (.seq (.reg [3] [OP 3 (.boxL 3 (.t 0)),
 MF 6])
((.seq ((.seq (.reg [] [MV 18 1,
 OP 19 (.lenS (.t 18)),
 OP 20 (.bin .gtr (.t 19) (KI 1048576))])
(.cond (.t 20) ((.seq (.reg [] [OP 6 (.mov KT)])
(.ret))) (.skip))))
((.seq (.reg [] [OP 7 (.mov (KI 1048576))])
((.seq (.reg [] [OP 21 (.loadN 3 (.t 3)),
 MV 22 7,
 OP 23 (.call 48 [.t 21, .t 22]),
 MV 7 23])
((.seq ((.seq (.reg [] [MV 24 7,
 OP 25 (.bin .lss (.t 24) (KI 0))])
(.cond (.t 25) ((.seq (.reg [] [OP 6 (.mov KT)])
(.ret))) (.skip))))
((.seq (.reg [8] [OP 27 (.loadN 3 (.t 3)),
 OP 28 (.call 50 [.t 27]),
 MV 29 1,
 MV 30 2,
 OP 31 (.call 63 [.t 28, .t 29, .t 30]),
 MV 26 31,
 OP 32 (.extract (.t 26) 0),
 OP 33 (.extract (.t 26) 1),
 OP 8 (.allocL 3 [.int .i64 0, .nils, .nils]),
 OX (.store 3 (.t 8) (.t 32)),
 MV 9 33])
((.seq (.reg [10] [OP 34 (.loadN 3 (.t 3)),
 OP 35 (.call 50 [.t 34]),
 OP 10 (.allocL 3 [.int .i64 0, .nils, .nils]),
 OX (.store 3 (.t 10) (.t 35))])
((.seq (.reg [11] [OP 37 (.loadN 3 (.t 10)),
 MV 38 1,
 MV 39 2,
 OP 40 (.call 64 [.t 37, .t 38, .t 39]),
 MV 36 40,
 OP 41 (.extract (.t 36) 0),
 OP 42 (.extract (.t 36) 1),
 OP 11 (.allocL 3 [.int .i64 0, .nils, .nils]),
 OX (.store 3 (.t 11) (.t 41)),
 MV 12 42])
((.seq ((.seq (.reg [] [OP 43 (.loadN 3 (.t 11)),
 OP 44 (.loadN 3 (.t 8)),
 OP 45 (.call 52 [.t 43, .t 44]),
 OP 46 (.un .not (.t 45)),
 MV 47 46,
 OF 48 47 (.mov (.t 12)),
 OF 49 47 (.mov (.t 9)),
 OF 50 47 (.bin .neq (.t 48) (.t 49)),
 OP 51 (.pick (.t 47) KT (.t 50))])
(.cond (.t 51) ((.seq (.reg [] [MF 6])
(.ret))) (.skip))))
((.seq ((.seq (.regD [] [OP 52 (.loadN 3 (.t 10)),
 OP 53 (.loadN 3 (.t 3)),
 OP 54 (.call 50 [.t 53]),
 OP 55 (.call 52 [.t 52, .t 54]),
 OP 56 (.un .not (.t 55))] [(2, 0)])
(.cond (.t 56) ((.seq (.reg [] [MF 6])
(.ret))) (.skip))))
((.seq (.reg [] [OP 13 (.mov (KI 1))])
((.seq (.reg [] [OP 57 (.loadN 3 (.t 10)),
 MV 58 13,
 OP 59 (.call 60 [.t 57, .t 58]),
 MV 13 59])
((.seq ((.seq (.reg [] [MV 60 13,
 OP 61 (.bin .lss (.t 60) (KI 0)),
 MV 62 61,
 OF 63 62 (.loadN 3 (.t 11)),
 OF 64 62 (.loadN 3 (.t 8)),
 OF 65 62 (.call 52 [.t 63, .t 64]),
 OF 66 62 (.un .not (.t 65)),
 OP 67 (.pick (.t 62) KT (.t 66)),
 MV 68 67,
 OF 69 68 (.mov (.t 12)),
 OF 70 68 (.mov (.t 9)),
 OF 71 68 (.bin .neq (.t 69) (.t 70)),
 OP 72 (.pick (.t 68) KT (.t 71))])
(.cond (.t 72) ((.seq (.reg [] [MF 6])
(.ret))) (.skip))))
((.seq (.reg [] [OP 14 (.mov (KI 1))])
((.seq (.reg [] [OP 73 (.loadN 3 (.t 11)),
 MV 74 14,
 OP 75 (.call 60 [.t 73, .t 74]),
 MV 14 75])
((.seq (.reg [] [OP 15 (.mov (KI 1))])
((.seq (.reg [] [OP 76 (.loadN 3 (.t 11)),
 MV 77 15,
 OP 78 (.call 65 [.t 76, .t 77]),
 MV 15 78])
((.seq ((.seq (.reg [] [MV 79 15,
 OP 80 (.bin .lss (.t 79) (KI 0))])
(.cond (.t 80) ((.seq (.reg [] [MF 6])
(.ret))) (.skip))))
((.seq ((.seq (.reg [] [MV 81 15,
 MV 82 14,
 OP 83 (.bin .neq (.t 81) (.t 82))])
(.cond (.t 83) ((.seq (.reg [] [MF 6])
(.ret))) (.skip))))
((.seq (.reg [16] [OP 85 (.loadN 3 (.t 3)),
 OP 86 (.call 50 [.t 85]),
 MV 87 1,
 MV 88 2,
 OP 89 (.call 64 [.t 86, .t 87, .t 88]),
 MV 84 89,
 OP 90 (.extract (.t 84) 0),
 OP 91 (.extract (.t 84) 1),
 OP 16 (.allocL 3 [.int .i64 0, .nils, .nils]),
 OX (.store 3 (.t 16) (.t 90)),
 MV 17 91])
((.seq ((.seq (.reg [] [OP 92 (.loadN 3 (.t 16)),
 OP 93 (.loadN 3 (.t 8)),
 OP 94 (.call 52 [.t 92, .t 93]),
 OP 95 (.un .not (.t 94)),
 MV 96 95,
 OF 97 96 (.mov (.t 17)),
 OF 98 96 (.mov (.t 9)),
 OF 99 96 (.bin .neq (.t 97) (.t 98)),
 OP 100 (.pick (.t 96) KT (.t 99))])
(.cond (.t 100) ((.seq (.reg [] [MF 6])
(.ret))) (.skip))))
((.seq (.reg [] [OP 15 (.mov (KI 1))])
((.seq (.reg [] [OP 101 (.loadN 3 (.t 11)),
 MV 102 15,
 OP 103 (.call 65 [.t 101, .t 102]),
 MV 15 103])
((.seq ((.seq (.reg [] [MV 104 15,
 OP 105 (.bin .lss (.t 104) (KI 0))])
(.cond (.t 105) ((.seq (.reg [] [MF 6])
(.ret))) (.skip))))
((.seq ((.seq (.reg [] [MV 106 15,
 MV 107 14,
 OP 108 (.bin .neq (.t 106) (.t 107))])
(.cond (.t 108) ((.seq (.reg [] [MF 6])
(.ret))) (.skip))))
((.seq (.reg [] [OP 6 (.mov KT)])
(.ret))))))))))))))))))))))))))))))))))))))))))))))))))))
noncomputable def elaws_FnExactGiveHear : Env := envL [(48, Flaws_szGiveBook), (50, Flaws_toGiveBook), (52, Flaws_eqGiveBook), (60, Flaws_markGiveBook), (63, Fspec_GiveHear), (64, Fimpl_GiveHear), (65, Flaws_heldGiveBook)]
noncomputable def Flaws_FnExactGiveHear : Fun := runF elaws_FnExactGiveHear claws_FnExactGiveHear [.t 6]
theorem elaws_FnExactGiveHear_laws_szGiveBook : elaws_FnExactGiveHear 48 = some Flaws_szGiveBook := by simp [elaws_FnExactGiveHear, envL_cons]
theorem elaws_FnExactGiveHear_laws_toGiveBook : elaws_FnExactGiveHear 50 = some Flaws_toGiveBook := by simp [elaws_FnExactGiveHear, envL_cons]
theorem elaws_FnExactGiveHear_laws_eqGiveBook : elaws_FnExactGiveHear 52 = some Flaws_eqGiveBook := by simp [elaws_FnExactGiveHear, envL_cons]
theorem elaws_FnExactGiveHear_laws_markGiveBook : elaws_FnExactGiveHear 60 = some Flaws_markGiveBook := by simp [elaws_FnExactGiveHear, envL_cons]
theorem elaws_FnExactGiveHear_spec_GiveHear : elaws_FnExactGiveHear 63 = some Fspec_GiveHear := by simp [elaws_FnExactGiveHear, envL_cons]
theorem elaws_FnExactGiveHear_impl_GiveHear : elaws_FnExactGiveHear 64 = some Fimpl_GiveHear := by simp [elaws_FnExactGiveHear, envL_cons]
theorem elaws_FnExactGiveHear_laws_heldGiveBook : elaws_FnExactGiveHear 65 = some Flaws_heldGiveBook := by simp [elaws_FnExactGiveHear, envL_cons]

/-! ### spec_GiveTick: function 66 -/
def cspec_GiveTick_L0 : ACode := (.seq ((.seq (.reg [] [MV 36 8,
 FA 37 2 6,
 LD 38 37,
 LE 39 38,
 OP 40 (.bin .lss (.t 36) (.t 39))])
(.cond (.t 40) (.skip) (.exit 0))))
((.seq (.block 1 ((.seq (.reg [9] [FA 43 2 6,
 LD 44 43,
 MV 45 8,
 IA 46 3 44 45,
 OP 47 (.loadN 3 (.t 46)),
 ⟨some 9, .allocL 3 [.str ⟨#[]⟩, .nils, .nils], none⟩,
 OX (.store 3 (.t 9) (.t 47))])
((.seq (.reg [] [FA 48 1 9,
 LD 49 48,
 FA 50 0 6,
 LD 51 50,
 OP 52 (.call 28 [.t 49, .t 51]),
 FA 53 1 9,
 OX (.store 1 (.t 53) (.t 52))])
((.seq (.reg [] [FA 54 2 9,
 LD 55 54,
 FA 56 0 6,
 LD 57 56,
 OP 58 (.call 28 [.t 55, .t 57]),
 FA 59 2 9,
 OX (.store 1 (.t 59) (.t 58))])
((.seq ((.seq (.reg [] [FA 60 1 9,
 LD 61 60,
 LE 62 61,
 OP 63 (.bin .eql (.t 62) (KI 0))])
(.cond (.t 63) ((.seq (.reg [] [FA 64 2 9,
 LD 65 64,
 FA 66 1 9,
 OX (.store 1 (.t 66) (.t 65))])
(.reg [] [OP 67 (.mkSlH 6 0 Z6 []),
 FA 68 2 9,
 OX (.store 1 (.t 68) (.t 67))]))) (.skip))))
((.seq (.reg [] [FA 69 1 9,
 LD 70 69,
 LE 71 70,
 OP 72 (.bin .gtr (.t 71) (KI 0))])
(.cond (.t 72) (.reg [75] [MV 73 7,
 OP 74 (.loadN 3 (.t 9)),
 ⟨some 75, .mkSlL 3 1 [.str ⟨#[]⟩, .nils, .nils] [(0, 3, .t 74)], none⟩,
 OP 76 (.append 3 (.t 73) (.t 75)),
 MV 7 76]) (.skip)))))))))))))
(.reg [] [MV 41 8,
 OP 42 (.bin .add (.t 41) (KI 1)),
 MV 8 42]))))
def cspec_GiveTick : ACode := (.seq (.reg [2, 4] [OP 2 (.boxL 3 (.t 0)),
 OP 4 (.allocL 3 [.int .i64 0, .nils, .nils]),
 OP 5 (.mov (KI 0))])
((.seq ((.seq (.reg [] [OP 10 (.loadN 3 (.t 2)),
 OP 11 (.call 49 [.t 10]),
 OP 12 (.un .not (.t 11))])
(.cond (.t 12) ((.seq (.reg [] [OP 13 (.build [.int .i64 0, .nils, .nils] []),
 OX (.store 3 (.t 4) (.t 13)),
 OP 5 (.mov (KI 1))])
(.ret))) (.skip))))
((.seq (.reg [6] [OP 14 (.loadN 3 (.t 2)),
 OP 15 (.call 139 [.t 14]),
 OP 6 (.allocL 3 [.int .i64 0, .nils, .nils]),
 OX (.store 3 (.t 6) (.t 15))])
((.seq ((.seq (.reg [] [MV 16 1,
 OP 17 (.bin .lss (.t 16) (KI 0)),
 MV 18 17,
 OF 19 18 (.mov (.t 1)),
 OF 20 18 (.bin .gtr (.t 19) (KI 10000)),
 OP 21 (.pick (.t 18) KT (.t 20)),
 MV 22 21,
 OF 23 22 (.faddr 0 (.t 2)),
 OF 24 22 (.load1 (.t 23)),
 OF 25 22 (.mov (.t 1)),
 OF 26 22 (.bin .add (.t 24) (.t 25)),
 OF 27 22 (.bin .gtr (.t 26) (KI 10000)),
 OP 28 (.pick (.t 22) KT (.t 27))])
(.cond (.t 28) ((.seq (.reg [] [OP 29 (.loadN 3 (.t 6)),
 OX (.store 3 (.t 4) (.t 29)),
 OP 5 (.mov (KI 2))])
(.ret))) (.skip))))
((.seq (.reg [] [FA 30 0 6,
 LD 31 30,
 MV 32 1,
 OP 33 (.bin .add (.t 31) (.t 32)),
 FA 34 0 6,
 OX (.store 1 (.t 34) (.t 33))])
((.seq (.reg [] [⟨some 35, .mkSlH 3 0 [.str ⟨#[]⟩, .nils, .nils] [], none⟩,
 MV 7 35])
((.seq ((.seq (.reg [] [OP 8 (.mov (KI 0))])
(.block 0 (.loop cspec_GiveTick_L0))))
((.seq (.reg [] [MV 77 7,
 FA 78 2 6,
 OX (.store 1 (.t 78) (.t 77))])
((.seq (.reg [] [OP 79 (.loadN 3 (.t 6)),
 OP 80 (.call 139 [.t 79]),
 OX (.store 3 (.t 4) (.t 80)),
 OP 5 (.mov (KI 0))])
(.ret))))))))))))))))))
noncomputable def espec_GiveTick : Env := envL [(28, Fspec_GiveCut), (49, Fspec_GiveBookOk), (139, Fspec_l2Copy)]
noncomputable def Fspec_GiveTick : Fun := runF espec_GiveTick cspec_GiveTick [.cellN 4 3, .t 5]
theorem espec_GiveTick_spec_GiveCut : espec_GiveTick 28 = some Fspec_GiveCut := by simp [espec_GiveTick, envL_cons]
theorem espec_GiveTick_spec_GiveBookOk : espec_GiveTick 49 = some Fspec_GiveBookOk := by simp [espec_GiveTick, envL_cons]
theorem espec_GiveTick_spec_l2Copy : espec_GiveTick 139 = some Fspec_l2Copy := by simp [espec_GiveTick, envL_cons]

/-! ### impl_GiveTick: function 67 -/
def cimpl_GiveTick_L0 : ACode := (.seq (.reg [] [OP 36 (.bin .lss (.t 35) (.t 34))])
((.seq (.cond (.t 36) (.skip) (.exit 0))
((.seq (.block 1 ((.seq (.reg [9] [IA 37 3 33 35,
 OP 38 (.loadN 3 (.t 37)),
 ⟨some 9, .allocL 3 [.str ⟨#[]⟩, .nils, .nils], none⟩,
 OX (.store 3 (.t 9) (.t 38))])
((.seq (.regD [] [FA 39 1 9,
 LD 40 39,
 FA 41 0 6,
 LD 42 41,
 OP 43 (.call 29 [.t 40, .t 42]),
 FA 44 2 9,
 LD 45 44,
 FA 46 0 6,
 LD 47 46,
 OP 48 (.call 29 [.t 45, .t 47]),
 FA 49 1 9,
 OX (.store 1 (.t 49) (.t 43)),
 FA 50 2 9,
 OX (.store 1 (.t 50) (.t 48))] [(4, 6), (4, 8)])
((.seq ((.seq (.reg [] [FA 51 1 9,
 LD 52 51,
 LE 53 52,
 OP 54 (.bin .eql (.t 53) (KI 0))])
(.cond (.t 54) (.reg [] [FA 55 2 9,
 LD 56 55,
 FA 57 1 9,
 OX (.store 1 (.t 57) (.t 56)),
 FA 58 2 9,
 OX (.store 1 (.t 58) KN)]) (.skip))))
((.seq (.reg [] [FA 59 1 9,
 LD 60 59,
 LE 61 60,
 OP 62 (.bin .gtr (.t 61) (KI 0))])
(.cond (.t 62) (.reg [65] [MV 63 7,
 OP 64 (.loadN 3 (.t 9)),
 ⟨some 65, .mkSlL 3 1 [.str ⟨#[]⟩, .nils, .nils] [(0, 3, .t 64)], none⟩,
 OP 66 (.append 3 (.t 63) (.t 65)),
 MV 7 66]) (.skip)))))))))))
(.reg [] [OP 67 (.bin .add (.t 35) (KI 1)),
 MV 35 67]))))))
def cimpl_GiveTick : ACode := (.seq (.reg [2, 4] [OP 2 (.boxL 3 (.t 0)),
 OP 4 (.allocL 3 [.int .i64 0, .nils, .nils]),
 OP 5 (.mov (KI 0))])
((.seq ((.seq (.reg [] [OP 10 (.loadN 3 (.t 2)),
 OP 11 (.call 51 [.t 10]),
 OP 12 (.un .not (.t 11))])
(.cond (.t 12) ((.seq (.reg [] [OP 13 (.build [.int .i64 0, .nils, .nils] []),
 OX (.store 3 (.t 4) (.t 13)),
 OP 5 (.mov (KI 1))])
(.ret))) (.skip))))
((.seq (.reg [6] [OP 14 (.loadN 3 (.t 2)),
 OP 15 (.call 141 [.t 14]),
 OP 6 (.allocL 3 [.int .i64 0, .nils, .nils]),
 OX (.store 3 (.t 6) (.t 15))])
((.seq ((.seq (.reg [] [MV 16 1,
 OP 17 (.bin .lss (.t 16) (KI 0)),
 MV 18 17,
 OF 19 18 (.mov (.t 1)),
 OF 20 18 (.faddr 0 (.t 2)),
 OF 21 18 (.load1 (.t 20)),
 OF 22 18 (.bin .sub (KI 10000) (.t 21)),
 OF 23 18 (.bin .gtr (.t 19) (.t 22)),
 OP 24 (.pick (.t 18) KT (.t 23))])
(.cond (.t 24) ((.seq (.reg [] [OP 25 (.loadN 3 (.t 6)),
 OX (.store 3 (.t 4) (.t 25)),
 OP 5 (.mov (KI 2))])
(.ret))) (.skip))))
((.seq (.reg [] [FA 26 0 6,
 LD 27 26,
 MV 28 1,
 OP 29 (.bin .add (.t 27) (.t 28)),
 FA 30 0 6,
 OX (.store 1 (.t 30) (.t 29))])
((.seq (.reg [] [⟨some 31, .mkSlH 3 0 [.str ⟨#[]⟩, .nils, .nils] [], none⟩,
 MV 7 31])
((.seq ((.seq (.reg [] [FA 32 2 6,
 LD 33 32,
 LE 34 33,
 OP 35 (.mov (KI 0))])
(.block 0 (.loop cimpl_GiveTick_L0))))
((.seq (.reg [] [MV 68 7,
 FA 69 2 6,
 OX (.store 1 (.t 69) (.t 68))])
((.seq (.reg [] [OP 70 (.loadN 3 (.t 6)),
 OX (.store 3 (.t 4) (.t 70)),
 OP 5 (.mov (KI 0))])
(.ret))))))))))))))))))
noncomputable def eimpl_GiveTick : Env := envL [(29, Fimpl_GiveCut), (51, Fimpl_GiveBookOk), (141, Fimpl_copyBook)]
noncomputable def Fimpl_GiveTick : Fun := runF eimpl_GiveTick cimpl_GiveTick [.cellN 4 3, .t 5]
theorem eimpl_GiveTick_impl_GiveCut : eimpl_GiveTick 29 = some Fimpl_GiveCut := by simp [eimpl_GiveTick, envL_cons]
theorem eimpl_GiveTick_impl_GiveBookOk : eimpl_GiveTick 51 = some Fimpl_GiveBookOk := by simp [eimpl_GiveTick, envL_cons]
theorem eimpl_GiveTick_impl_copyBook : eimpl_GiveTick 141 = some Fimpl_copyBook := by simp [eimpl_GiveTick, envL_cons]

/-! ### laws_FnExactGiveTick: function 15 -/
def claws_FnExactGiveTick : ACode := (.seq (.reg [2] [OP 2 (.boxL 3 (.t 0)),
 MF 4])
((.seq (.reg [] [OP 5 (.mov (KI 1048576))])
((.seq (.reg [] [OP 16 (.loadN 3 (.t 2)),
 MV 17 5,
 OP 18 (.call 48 [.t 16, .t 17]),
 MV 5 18])
((.seq ((.seq (.reg [] [MV 19 5,
 OP 20 (.bin .lss (.t 19) (KI 0))])
(.cond (.t 20) ((.seq (.reg [] [OP 4 (.mov KT)])
(.ret))) (.skip))))
((.seq (.reg [6] [OP 22 (.loadN 3 (.t 2)),
 OP 23 (.call 50 [.t 22]),
 MV 24 1,
 OP 25 (.call 66 [.t 23, .t 24]),
 MV 21 25,
 OP 26 (.extract (.t 21) 0),
 OP 27 (.extract (.t 21) 1),
 OP 6 (.allocL 3 [.int .i64 0, .nils, .nils]),
 OX (.store 3 (.t 6) (.t 26)),
 MV 7 27])
((.seq (.reg [8] [OP 28 (.loadN 3 (.t 2)),
 OP 29 (.call 50 [.t 28]),
 OP 8 (.allocL 3 [.int .i64 0, .nils, .nils]),
 OX (.store 3 (.t 8) (.t 29))])
((.seq (.reg [9] [OP 31 (.loadN 3 (.t 8)),
 MV 32 1,
 OP 33 (.call 67 [.t 31, .t 32]),
 MV 30 33,
 OP 34 (.extract (.t 30) 0),
 OP 35 (.extract (.t 30) 1),
 OP 9 (.allocL 3 [.int .i64 0, .nils, .nils]),
 OX (.store 3 (.t 9) (.t 34)),
 MV 10 35])
((.seq ((.seq (.reg [] [OP 36 (.loadN 3 (.t 9)),
 OP 37 (.loadN 3 (.t 6)),
 OP 38 (.call 52 [.t 36, .t 37]),
 OP 39 (.un .not (.t 38)),
 MV 40 39,
 OF 41 40 (.mov (.t 10)),
 OF 42 40 (.mov (.t 7)),
 OF 43 40 (.bin .neq (.t 41) (.t 42)),
 OP 44 (.pick (.t 40) KT (.t 43))])
(.cond (.t 44) ((.seq (.reg [] [MF 4])
(.ret))) (.skip))))
((.seq ((.seq (.regD [] [OP 45 (.loadN 3 (.t 8)),
 OP 46 (.loadN 3 (.t 2)),
 OP 47 (.call 50 [.t 46]),
 OP 48 (.call 52 [.t 45, .t 47]),
 OP 49 (.un .not (.t 48))] [(2, 0)])
(.cond (.t 49) ((.seq (.reg [] [MF 4])
(.ret))) (.skip))))
((.seq (.reg [] [OP 11 (.mov (KI 1))])
((.seq (.reg [] [OP 50 (.loadN 3 (.t 8)),
 MV 51 11,
 OP 52 (.call 60 [.t 50, .t 51]),
 MV 11 52])
((.seq ((.seq (.reg [] [MV 53 11,
 OP 54 (.bin .lss (.t 53) (KI 0)),
 MV 55 54,
 OF 56 55 (.loadN 3 (.t 9)),
 OF 57 55 (.loadN 3 (.t 6)),
 OF 58 55 (.call 52 [.t 56, .t 57]),
 OF 59 55 (.un .not (.t 58)),
 OP 60 (.pick (.t 55) KT (.t 59)),
 MV 61 60,
 OF 62 61 (.mov (.t 10)),
 OF 63 61 (.mov (.t 7)),
 OF 64 61 (.bin .neq (.t 62) (.t 63)),
 OP 65 (.pick (.t 61) KT (.t 64))])
(.cond (.t 65) ((.seq (.reg [] [MF 4])
(.ret))) (.skip))))
((.seq (.reg [] [OP 12 (.mov (KI 1))])
((.seq (.reg [] [OP 66 (.loadN 3 (.t 9)),
 MV 67 12,
 OP 68 (.call 60 [.t 66, .t 67]),
 MV 12 68])
((.seq (.reg [] [OP 13 (.mov (KI 1))])
((.seq (.reg [] [OP 69 (.loadN 3 (.t 9)),
 MV 70 13,
 OP 71 (.call 65 [.t 69, .t 70]),
 MV 13 71])
((.seq ((.seq (.reg [] [MV 72 13,
 OP 73 (.bin .lss (.t 72) (KI 0))])
(.cond (.t 73) ((.seq (.reg [] [MF 4])
(.ret))) (.skip))))
((.seq ((.seq (.reg [] [MV 74 13,
 MV 75 12,
 OP 76 (.bin .neq (.t 74) (.t 75))])
(.cond (.t 76) ((.seq (.reg [] [MF 4])
(.ret))) (.skip))))
((.seq (.reg [14] [OP 78 (.loadN 3 (.t 2)),
 OP 79 (.call 50 [.t 78]),
 MV 80 1,
 OP 81 (.call 67 [.t 79, .t 80]),
 MV 77 81,
 OP 82 (.extract (.t 77) 0),
 OP 83 (.extract (.t 77) 1),
 OP 14 (.allocL 3 [.int .i64 0, .nils, .nils]),
 OX (.store 3 (.t 14) (.t 82)),
 MV 15 83])
((.seq ((.seq (.reg [] [OP 84 (.loadN 3 (.t 14)),
 OP 85 (.loadN 3 (.t 6)),
 OP 86 (.call 52 [.t 84, .t 85]),
 OP 87 (.un .not (.t 86)),
 MV 88 87,
 OF 89 88 (.mov (.t 15)),
 OF 90 88 (.mov (.t 7)),
 OF 91 88 (.bin .neq (.t 89) (.t 90)),
 OP 92 (.pick (.t 88) KT (.t 91))])
(.cond (.t 92) ((.seq (.reg [] [MF 4])
(.ret))) (.skip))))
((.seq (.reg [] [OP 13 (.mov (KI 1))])
((.seq (.reg [] [OP 93 (.loadN 3 (.t 9)),
 MV 94 13,
 OP 95 (.call 65 [.t 93, .t 94]),
 MV 13 95])
((.seq ((.seq (.reg [] [MV 96 13,
 OP 97 (.bin .lss (.t 96) (KI 0))])
(.cond (.t 97) ((.seq (.reg [] [MF 4])
(.ret))) (.skip))))
((.seq ((.seq (.reg [] [MV 98 13,
 MV 99 12,
 OP 100 (.bin .neq (.t 98) (.t 99))])
(.cond (.t 100) ((.seq (.reg [] [MF 4])
(.ret))) (.skip))))
((.seq (.reg [] [OP 4 (.mov KT)])
(.ret))))))))))))))))))))))))))))))))))))))))))))))))))
noncomputable def elaws_FnExactGiveTick : Env := envL [(48, Flaws_szGiveBook), (50, Flaws_toGiveBook), (52, Flaws_eqGiveBook), (60, Flaws_markGiveBook), (65, Flaws_heldGiveBook), (66, Fspec_GiveTick), (67, Fimpl_GiveTick)]
noncomputable def Flaws_FnExactGiveTick : Fun := runF elaws_FnExactGiveTick claws_FnExactGiveTick [.t 4]
theorem elaws_FnExactGiveTick_laws_szGiveBook : elaws_FnExactGiveTick 48 = some Flaws_szGiveBook := by simp [elaws_FnExactGiveTick, envL_cons]
theorem elaws_FnExactGiveTick_laws_toGiveBook : elaws_FnExactGiveTick 50 = some Flaws_toGiveBook := by simp [elaws_FnExactGiveTick, envL_cons]
theorem elaws_FnExactGiveTick_laws_eqGiveBook : elaws_FnExactGiveTick 52 = some Flaws_eqGiveBook := by simp [elaws_FnExactGiveTick, envL_cons]
theorem elaws_FnExactGiveTick_laws_markGiveBook : elaws_FnExactGiveTick 60 = some Flaws_markGiveBook := by simp [elaws_FnExactGiveTick, envL_cons]
theorem elaws_FnExactGiveTick_laws_heldGiveBook : elaws_FnExactGiveTick 65 = some Flaws_heldGiveBook := by simp [elaws_FnExactGiveTick, envL_cons]
theorem elaws_FnExactGiveTick_spec_GiveTick : elaws_FnExactGiveTick 66 = some Fspec_GiveTick := by simp [elaws_FnExactGiveTick, envL_cons]
theorem elaws_FnExactGiveTick_impl_GiveTick : elaws_FnExactGiveTick 67 = some Fimpl_GiveTick := by simp [elaws_FnExactGiveTick, envL_cons]

/-! ### spec_GiveAmend: function 68 -/
def cspec_GiveAmend : ACode := (.seq (.reg [3, 6] [OP 3 (.boxL 3 (.t 0)),
 OP 6 (.allocL 3 [.int .i64 0, .nils, .nils]),
 OP 7 (.mov (KI 0))])
((.seq ((.seq (.reg [] [OP 10 (.loadN 3 (.t 3)),
 OP 11 (.call 49 [.t 10]),
 OP 12 (.un .not (.t 11))])
(.cond (.t 12) ((.seq (.reg [] [OP 13 (.build [.int .i64 0, .nils, .nils] []),
 OX (.store 3 (.t 6) (.t 13)),
 OP 7 (.mov (KI 1))])
(.ret))) (.skip))))
((.seq (.reg [8] [OP 14 (.loadN 3 (.t 3)),
 OP 15 (.call 139 [.t 14]),
 OP 8 (.allocL 3 [.int .i64 0, .nils, .nils]),
 OX (.store 3 (.t 8) (.t 15))])
((.seq (.reg [] [OP 16 (.loadN 3 (.t 3)),
 MV 17 1,
 OP 18 (.call 140 [.t 16, .t 17]),
 MV 9 18])
((.seq ((.seq (.reg [] [FA 19 1 3,
 LD 20 19,
 MV 21 2,
 OP 22 (.call 33 [.t 20, .t 21]),
 OP 23 (.un .not (.t 22)),
 MV 24 23,
 OF 25 24 (.mov (.t 2)),
 OF 26 24 (.faddr 0 (.t 3)),
 OF 27 24 (.load1 (.t 26)),
 OF 28 24 (.call 145 [.t 25, .t 27]),
 OF 29 24 (.un .not (.t 28)),
 OP 30 (.pick (.t 24) KT (.t 29))])
(.cond (.t 30) ((.seq (.reg [] [OP 31 (.loadN 3 (.t 8)),
 OX (.store 3 (.t 6) (.t 31)),
 OP 7 (.mov (KI 2))])
(.ret))) (.skip))))
((.seq ((.seq (.reg [] [MV 32 9,
 OP 33 (.bin .lss (.t 32) (KI 0))])
(.cond (.t 33) ((.seq (.reg [] [OP 34 (.loadN 3 (.t 8)),
 OX (.store 3 (.t 6) (.t 34)),
 OP 7 (.mov (KI 6))])
(.ret))) (.skip))))
((.seq ((.seq (.reg [] [FA 35 2 3,
 LD 36 35,
 MV 37 9,
 IA 38 3 36 37,
 FA 39 2 38,
 LD 40 39,
 LE 41 40,
 OP 42 (.bin .gtr (.t 41) (KI 0))])
(.cond (.t 42) ((.seq (.reg [] [OP 43 (.loadN 3 (.t 8)),
 OX (.store 3 (.t 6) (.t 43)),
 OP 7 (.mov (KI 7))])
(.ret))) (.skip))))
((.seq ((.seq (.reg [] [OP 44 (.loadN 3 (.t 3)),
 MV 45 1,
 MV 46 2,
 OP 47 (.call 131 [.t 44, .t 45, .t 46]),
 OP 48 (.un .not (.t 47))])
(.cond (.t 48) ((.seq (.reg [] [OP 49 (.loadN 3 (.t 8)),
 OX (.store 3 (.t 6) (.t 49)),
 OP 7 (.mov (KI 5))])
(.ret))) (.skip))))
((.seq (.regD [] [FA 50 2 8,
 LD 51 50,
 MV 52 9,
 MV 53 2,
 OP 54 (.call 146 [.t 53]),
 IA 55 3 51 52,
 FA 56 2 55,
 OX (.store 1 (.t 56) (.t 54))] [(4, 1)])
((.seq (.reg [] [OP 57 (.loadN 3 (.t 8)),
 OX (.store 3 (.t 6) (.t 57)),
 OP 7 (.mov (KI 0))])
(.ret))))))))))))))))))))
noncomputable def espec_GiveAmend : Env := envL [(33, Fspec_GiveTubeOk), (49, Fspec_GiveBookOk), (131, Fspec_l3Free), (139, Fspec_l2Copy), (140, Fspec_l2At), (145, Fspec_l2From), (146, Fspec_l2Tube)]
noncomputable def Fspec_GiveAmend : Fun := runF espec_GiveAmend cspec_GiveAmend [.cellN 6 3, .t 7]
theorem espec_GiveAmend_spec_GiveTubeOk : espec_GiveAmend 33 = some Fspec_GiveTubeOk := by simp [espec_GiveAmend, envL_cons]
theorem espec_GiveAmend_spec_GiveBookOk : espec_GiveAmend 49 = some Fspec_GiveBookOk := by simp [espec_GiveAmend, envL_cons]
theorem espec_GiveAmend_spec_l3Free : espec_GiveAmend 131 = some Fspec_l3Free := by simp [espec_GiveAmend, envL_cons]
theorem espec_GiveAmend_spec_l2Copy : espec_GiveAmend 139 = some Fspec_l2Copy := by simp [espec_GiveAmend, envL_cons]
theorem espec_GiveAmend_spec_l2At : espec_GiveAmend 140 = some Fspec_l2At := by simp [espec_GiveAmend, envL_cons]
theorem espec_GiveAmend_spec_l2From : espec_GiveAmend 145 = some Fspec_l2From := by simp [espec_GiveAmend, envL_cons]
theorem espec_GiveAmend_spec_l2Tube : espec_GiveAmend 146 = some Fspec_l2Tube := by simp [espec_GiveAmend, envL_cons]

/-! ### impl_GiveAmend: function 69 -/
def cimpl_GiveAmend : ACode := (.seq (.reg [3, 6] [OP 3 (.boxL 3 (.t 0)),
 OP 6 (.allocL 3 [.int .i64 0, .nils, .nils]),
 OP 7 (.mov (KI 0))])
((.seq ((.seq (.reg [] [OP 10 (.loadN 3 (.t 3)),
 OP 11 (.call 51 [.t 10]),
 OP 12 (.un .not (.t 11))])
(.cond (.t 12) ((.seq (.reg [] [OP 13 (.build [.int .i64 0, .nils, .nils] []),
 OX (.store 3 (.t 6) (.t 13)),
 OP 7 (.mov (KI 1))])
(.ret))) (.skip))))
((.seq (.reg [8] [OP 14 (.loadN 3 (.t 3)),
 OP 15 (.call 141 [.t 14]),
 OP 8 (.allocL 3 [.int .i64 0, .nils, .nils]),
 OX (.store 3 (.t 8) (.t 15))])
((.seq (.reg [] [OP 16 (.loadN 3 (.t 3)),
 MV 17 1,
 OP 18 (.call 142 [.t 16, .t 17]),
 MV 9 18])
((.seq (.block 0 ((.seq (.reg [] [FA 20 1 3,
 LD 21 20,
 MV 22 2,
 OP 23 (.call 35 [.t 21, .t 22]),
 OP 24 (.un .not (.t 23)),
 MV 25 24,
 OF 26 25 (.mov (.t 2)),
 OF 27 25 (.faddr 0 (.t 3)),
 OF 28 25 (.load1 (.t 27)),
 OF 29 25 (.call 128 [.t 26, .t 28]),
 OF 30 25 (.un .not (.t 29)),
 OP 31 (.pick (.t 25) KT (.t 30)),
 MV 19 31])
(.cond (.t 19) ((.seq (.reg [] [OP 32 (.loadN 3 (.t 8)),
 OX (.store 3 (.t 6) (.t 32)),
 OP 7 (.mov (KI 2))])
(.ret))) ((.seq (.reg [] [MV 34 9,
 OP 35 (.bin .lss (.t 34) (KI 0)),
 MV 33 35])
(.cond (.t 33) ((.seq (.reg [] [OP 36 (.loadN 3 (.t 8)),
 OX (.store 3 (.t 6) (.t 36)),
 OP 7 (.mov (KI 6))])
(.ret))) ((.seq (.reg [] [FA 38 2 3,
 LD 39 38,
 MV 40 9,
 IA 41 3 39 40,
 FA 42 2 41,
 LD 43 42,
 LE 44 43,
 OP 45 (.bin .gtr (.t 44) (KI 0)),
 MV 37 45])
(.cond (.t 37) ((.seq (.reg [] [OP 46 (.loadN 3 (.t 8)),
 OX (.store 3 (.t 6) (.t 46)),
 OP 7 (.mov (KI 7))])
(.ret))) ((.seq (.reg [] [OP 48 (.loadN 3 (.t 3)),
 MV 49 1,
 MV 50 2,
 OP 51 (.call 132 [.t 48, .t 49, .t 50]),
 OP 52 (.un .not (.t 51)),
 MV 47 52])
(.cond (.t 47) ((.seq (.reg [] [OP 53 (.loadN 3 (.t 8)),
 OX (.store 3 (.t 6) (.t 53)),
 OP 7 (.mov (KI 5))])
(.ret))) (.skip))))))))))))))
((.seq (.regD [] [FA 54 2 8,
 LD 55 54,
 MV 56 9,
 MV 57 2,
 OP 58 (.call 147 [.t 57]),
 IA 59 3 55 56,
 FA 60 2 59,
 OX (.store 1 (.t 60) (.t 58))] [(4, 1)])
((.seq (.reg [] [OP 61 (.loadN 3 (.t 8)),
 OX (.store 3 (.t 6) (.t 61)),
 OP 7 (.mov (KI 0))])
(.ret))))))))))))))
noncomputable def eimpl_GiveAmend : Env := envL [(35, Fimpl_GiveTubeOk), (51, Fimpl_GiveBookOk), (128, Fimpl_from), (132, Fimpl_GiveBook_free), (141, Fimpl_copyBook), (142, Fimpl_GiveBook_at), (147, Fimpl_copyTube)]
noncomputable def Fimpl_GiveAmend : Fun := runF eimpl_GiveAmend cimpl_GiveAmend [.cellN 6 3, .t 7]
theorem eimpl_GiveAmend_impl_GiveTubeOk : eimpl_GiveAmend 35 = some Fimpl_GiveTubeOk := by simp [eimpl_GiveAmend, envL_cons]
theorem eimpl_GiveAmend_impl_GiveBookOk : eimpl_GiveAmend 51 = some Fimpl_GiveBookOk := by simp [eimpl_GiveAmend, envL_cons]
theorem eimpl_GiveAmend_impl_from : eimpl_GiveAmend 128 = some Fimpl_from := by simp [eimpl_GiveAmend, envL_cons]
theorem eimpl_GiveAmend_impl_GiveBook_free : eimpl_GiveAmend 132 = some Fimpl_GiveBook_free := by simp [eimpl_GiveAmend, envL_cons]
theorem eimpl_GiveAmend_impl_copyBook : eimpl_GiveAmend 141 = some Fimpl_copyBook := by simp [eimpl_GiveAmend, envL_cons]
theorem eimpl_GiveAmend_impl_GiveBook_at : eimpl_GiveAmend 142 = some Fimpl_GiveBook_at := by simp [eimpl_GiveAmend, envL_cons]
theorem eimpl_GiveAmend_impl_copyTube : eimpl_GiveAmend 147 = some Fimpl_copyTube := by simp [eimpl_GiveAmend, envL_cons]

/-! ### laws_FnExactGiveAmend: function 16 -/
def claws_FnExactGiveAmend : ACode := (.seq (.reg [3] [OP 3 (.boxL 3 (.t 0)),
 MF 6])
((.seq ((.seq (.reg [] [MV 19 1,
 OP 20 (.lenS (.t 19)),
 OP 21 (.bin .gtr (.t 20) (KI 1048576))])
(.cond (.t 21) ((.seq (.reg [] [OP 6 (.mov KT)])
(.ret))) (.skip))))
((.seq (.reg [] [OP 7 (.mov (KI 1048576))])
((.seq (.reg [] [OP 22 (.loadN 3 (.t 3)),
 MV 23 7,
 OP 24 (.call 48 [.t 22, .t 23]),
 MV 7 24])
((.seq ((.seq (.reg [] [MV 25 7,
 OP 26 (.bin .lss (.t 25) (KI 0))])
(.cond (.t 26) ((.seq (.reg [] [OP 6 (.mov KT)])
(.ret))) (.skip))))
((.seq (.reg [] [MV 27 2,
 MV 28 7,
 OP 29 (.call 23 [.t 27, .t 28]),
 MV 7 29])
((.seq ((.seq (.reg [] [MV 30 7,
 OP 31 (.bin .lss (.t 30) (KI 0))])
(.cond (.t 31) ((.seq (.reg [] [OP 6 (.mov KT)])
(.ret))) (.skip))))
((.seq (.reg [8] [OP 33 (.loadN 3 (.t 3)),
 OP 34 (.call 50 [.t 33]),
 MV 35 1,
 MV 36 2,
 OP 37 (.call 25 [.t 36]),
 OP 38 (.call 68 [.t 34, .t 35, .t 37]),
 MV 32 38,
 OP 39 (.extract (.t 32) 0),
 OP 40 (.extract (.t 32) 1),
 OP 8 (.allocL 3 [.int .i64 0, .nils, .nils]),
 OX (.store 3 (.t 8) (.t 39)),
 MV 9 40])
((.seq (.reg [10] [OP 41 (.loadN 3 (.t 3)),
 OP 42 (.call 50 [.t 41]),
 OP 10 (.allocL 3 [.int .i64 0, .nils, .nils]),
 OX (.store 3 (.t 10) (.t 42))])
((.seq (.reg [] [MV 43 2,
 OP 44 (.call 25 [.t 43]),
 MV 11 44])
((.seq (.reg [12] [OP 46 (.loadN 3 (.t 10)),
 MV 47 1,
 MV 48 11,
 OP 49 (.call 69 [.t 46, .t 47, .t 48]),
 MV 45 49,
 OP 50 (.extract (.t 45) 0),
 OP 51 (.extract (.t 45) 1),
 OP 12 (.allocL 3 [.int .i64 0, .nils, .nils]),
 OX (.store 3 (.t 12) (.t 50)),
 MV 13 51])
((.seq ((.seq (.reg [] [OP 52 (.loadN 3 (.t 12)),
 OP 53 (.loadN 3 (.t 8)),
 OP 54 (.call 52 [.t 52, .t 53]),
 OP 55 (.un .not (.t 54)),
 MV 56 55,
 OF 57 56 (.mov (.t 13)),
 OF 58 56 (.mov (.t 9)),
 OF 59 56 (.bin .neq (.t 57) (.t 58)),
 OP 60 (.pick (.t 56) KT (.t 59))])
(.cond (.t 60) ((.seq (.reg [] [MF 6])
(.ret))) (.skip))))
((.seq ((.seq (.regD [] [OP 61 (.loadN 3 (.t 10)),
 OP 62 (.loadN 3 (.t 3)),
 OP 63 (.call 50 [.t 62]),
 OP 64 (.call 52 [.t 61, .t 63]),
 OP 65 (.un .not (.t 64))] [(2, 0)])
(.cond (.t 65) ((.seq (.reg [] [MF 6])
(.ret))) (.skip))))
((.seq ((.seq (.reg [] [MV 66 11,
 MV 67 2,
 OP 68 (.call 25 [.t 67]),
 OP 69 (.call 27 [.t 66, .t 68]),
 OP 70 (.un .not (.t 69))])
(.cond (.t 70) ((.seq (.reg [] [MF 6])
(.ret))) (.skip))))
((.seq (.reg [] [OP 14 (.mov (KI 1))])
((.seq (.reg [] [OP 71 (.loadN 3 (.t 10)),
 MV 72 14,
 OP 73 (.call 60 [.t 71, .t 72]),
 MV 14 73])
((.seq (.reg [] [MV 74 11,
 MV 75 14,
 OP 76 (.call 30 [.t 74, .t 75]),
 MV 14 76])
((.seq ((.seq (.reg [] [MV 77 14,
 OP 78 (.bin .lss (.t 77) (KI 0)),
 MV 79 78,
 OF 80 79 (.loadN 3 (.t 12)),
 OF 81 79 (.loadN 3 (.t 8)),
 OF 82 79 (.call 52 [.t 80, .t 81]),
 OF 83 79 (.un .not (.t 82)),
 OP 84 (.pick (.t 79) KT (.t 83)),
 MV 85 84,
 OF 86 85 (.mov (.t 13)),
 OF 87 85 (.mov (.t 9)),
 OF 88 85 (.bin .neq (.t 86) (.t 87)),
 OP 89 (.pick (.t 85) KT (.t 88))])
(.cond (.t 89) ((.seq (.reg [] [MF 6])
(.ret))) (.skip))))
((.seq (.reg [] [OP 15 (.mov (KI 1))])
((.seq (.reg [] [OP 90 (.loadN 3 (.t 12)),
 MV 91 15,
 OP 92 (.call 60 [.t 90, .t 91]),
 MV 15 92])
((.seq (.reg [] [OP 16 (.mov (KI 1))])
((.seq (.reg [] [OP 93 (.loadN 3 (.t 12)),
 MV 94 16,
 OP 95 (.call 65 [.t 93, .t 94]),
 MV 16 95])
((.seq ((.seq (.reg [] [MV 96 16,
 OP 97 (.bin .lss (.t 96) (KI 0))])
(.cond (.t 97) ((.seq (.reg [] [MF 6])
(.ret))) (.skip))))
((.seq ((.seq (.reg [] [MV 98 16,
 MV 99 15,
 OP 100 (.bin .neq (.t 98) (.t 99))])
(.cond (.t 100) ((.seq (.reg [] [MF 6])
(.ret))) (.skip))))
((.seq (.reg [17] [OP 102 (.loadN 3 (.t 3)),
 OP 103 (.call 50 [.t 102]),
 MV 104 1,
 MV 105 2,
 OP 106 (.call 25 [.t 105]),
 OP 107 (.call 69 [.t 103, .t 104, .t 106]),
 MV 101 107,
 OP 108 (.extract (.t 101) 0),
 OP 109 (.extract (.t 101) 1),
 OP 17 (.allocL 3 [.int .i64 0, .nils, .nils]),
 OX (.store 3 (.t 17) (.t 108)),
 MV 18 109])
((.seq ((.seq (.reg [] [OP 110 (.loadN 3 (.t 17)),
 OP 111 (.loadN 3 (.t 8)),
 OP 112 (.call 52 [.t 110, .t 111]),
 OP 113 (.un .not (.t 112)),
 MV 114 113,
 OF 115 114 (.mov (.t 18)),
 OF 116 114 (.mov (.t 9)),
 OF 117 114 (.bin .neq (.t 115) (.t 116)),
 OP 118 (.pick (.t 114) KT (.t 117))])
(.cond (.t 118) ((.seq (.reg [] [MF 6])
(.ret))) (.skip))))
((.seq (.reg [] [OP 16 (.mov (KI 1))])
((.seq (.reg [] [OP 119 (.loadN 3 (.t 12)),
 MV 120 16,
 OP 121 (.call 65 [.t 119, .t 120]),
 MV 16 121])
((.seq ((.seq (.reg [] [MV 122 16,
 OP 123 (.bin .lss (.t 122) (KI 0))])
(.cond (.t 123) ((.seq (.reg [] [MF 6])
(.ret))) (.skip))))
((.seq ((.seq (.reg [] [MV 124 16,
 MV 125 15,
 OP 126 (.bin .neq (.t 124) (.t 125))])
(.cond (.t 126) ((.seq (.reg [] [MF 6])
(.ret))) (.skip))))
((.seq (.reg [] [OP 6 (.mov KT)])
(.ret))))))))))))))))))))))))))))))))))))))))))))))))))))))))))))))
noncomputable def elaws_FnExactGiveAmend : Env := envL [(23, Flaws_szGiveBoxS), (25, Flaws_toGiveBoxS), (27, Flaws_eqGiveBoxS), (30, Flaws_markGiveBoxS), (48, Flaws_szGiveBook), (50, Flaws_toGiveBook), (52, Flaws_eqGiveBook), (60, Flaws_markGiveBook), (65, Flaws_heldGiveBook), (68, Fspec_GiveAmend), (69, Fimpl_GiveAmend)]
noncomputable def Flaws_FnExactGiveAmend : Fun := runF elaws_FnExactGiveAmend claws_FnExactGiveAmend [.t 6]
theorem elaws_FnExactGiveAmend_laws_szGiveBoxS : elaws_FnExactGiveAmend 23 = some Flaws_szGiveBoxS := by simp [elaws_FnExactGiveAmend, envL_cons]
theorem elaws_FnExactGiveAmend_laws_toGiveBoxS : elaws_FnExactGiveAmend 25 = some Flaws_toGiveBoxS := by simp [elaws_FnExactGiveAmend, envL_cons]
theorem elaws_FnExactGiveAmend_laws_eqGiveBoxS : elaws_FnExactGiveAmend 27 = some Flaws_eqGiveBoxS := by simp [elaws_FnExactGiveAmend, envL_cons]
theorem elaws_FnExactGiveAmend_laws_markGiveBoxS : elaws_FnExactGiveAmend 30 = some Flaws_markGiveBoxS := by simp [elaws_FnExactGiveAmend, envL_cons]
theorem elaws_FnExactGiveAmend_laws_szGiveBook : elaws_FnExactGiveAmend 48 = some Flaws_szGiveBook := by simp [elaws_FnExactGiveAmend, envL_cons]
theorem elaws_FnExactGiveAmend_laws_toGiveBook : elaws_FnExactGiveAmend 50 = some Flaws_toGiveBook := by simp [elaws_FnExactGiveAmend, envL_cons]
theorem elaws_FnExactGiveAmend_laws_eqGiveBook : elaws_FnExactGiveAmend 52 = some Flaws_eqGiveBook := by simp [elaws_FnExactGiveAmend, envL_cons]
theorem elaws_FnExactGiveAmend_laws_markGiveBook : elaws_FnExactGiveAmend 60 = some Flaws_markGiveBook := by simp [elaws_FnExactGiveAmend, envL_cons]
theorem elaws_FnExactGiveAmend_laws_heldGiveBook : elaws_FnExactGiveAmend 65 = some Flaws_heldGiveBook := by simp [elaws_FnExactGiveAmend, envL_cons]
theorem elaws_FnExactGiveAmend_spec_GiveAmend : elaws_FnExactGiveAmend 68 = some Fspec_GiveAmend := by simp [elaws_FnExactGiveAmend, envL_cons]
theorem elaws_FnExactGiveAmend_impl_GiveAmend : elaws_FnExactGiveAmend 69 = some Fimpl_GiveAmend := by simp [elaws_FnExactGiveAmend, envL_cons]

end Go.Abs

/-
  Marks: texts, and lists of runways and of those who hold something.
-/

namespace Go.Abs
set_option linter.unusedSimpArgs false
set_option linter.unusedVariables false
attribute [local simp] AW_skip AW_exit AW_ret AW_seq AW_block AW_cond CW_ite AW_reg AW_regD AW_regDc RD_nil RD_cons keyEq hasP hasH hasL chkL chkH recK recH inRange lightKey BookC.len BookC.take WishC.len WishC.take RW_nil RW_cons RW_guard GW_t GW_f GW_gt GW_gf GW_tup GY_some GY_tt GY_ff gd_t gd_f pk_t pk_f pk_and pk_or pk_andc pk_orc pk_bool gd_gd SW_some ThenQ_normal ThenQ_exit ThenQ_ret BlockQ_normal BlockQ_exit BlockQ_ret kill_nil kill_cons killT_at killL_at upo_some upo_none ev_t ev_k FinQ_ret FinQ_normal upd_eq upd_ne argsT_zero argsT_succ aop.eq_1 aop_pick aop.eq_3 aop.eq_4 aop.eq_5 aop.eq_6 aop.eq_7 aop.eq_8 aop.eq_9 aop.eq_10 aop.eq_11 aop.eq_12 aop.eq_13 aop.eq_14 aop.eq_15 aop.eq_16 aop.eq_17 aop.eq_18 aop.eq_19 aop.eq_20 aop.eq_21 aop_slice_hi aop_slice_lo aop.eq_23 aop.eq_24 aop.eq_26 aop.eq_27 aop.eq_28 aop.eq_29 aop.eq_31 aop.eq_32 aop_maxs2 aop_mins2 aop_mins3 aop_len aop_iaddr Av.bool? Av.ptr? Av.int? Av.int64? Av.str? Av.agg? ressA resA resOf noLoc_int noLoc_bool noLoc_str noLoc_nils noLoc_nilp noLoc_ptrl noLoc_ptrr noLoc_sll noLoc_slr noLoc_fn noLoc_tc noLoc_tagg noLoc_av noLoc_atup ce_c tv_v cells_c cells_agg noLocs keyLoc evs callA St.set St.get unAv binCe killV_int killV_bool killV_str killV_nils killV_nilp killV_agg killV_no killV_tup killV_ptrl killV_ptrr killV_sll killV_slr killV_fn killV_noLoc fillA repl ptrs List.map
attribute [local congr] GY_congr
def digitB (n : Nat) : ByteArray := ⟨#[UInt8.ofNat (48 + n % 10)]⟩
def mtG : Nat → Nat → ByteArray → ByteArray
  | 0, _, out => out
  | g + 1, n, out => if n = 0 then out else mtG g (n / 10) (digitB n ++ out)
def mtext (k : Int) : ByteArray := if k ≤ 0 then ⟨#[109, 48]⟩ else ⟨#[109]⟩ ++ mtG 64 k.toNat ⟨#[]⟩
theorem size_append (a b : ByteArray) : (a ++ b).size = a.size + b.size := ByteArray.size_append
theorem laws_markText (h : Heap) (k : Int) (ho : HOk h) (hk : k ≤ 9223372036854775807) :
    ∃ h', Flaws_markText [.v (.c (.int .i64 k))] h = some (.v (.c (.str (mtext k))), h') ∧ Fr h h' := by
  unfold Flaws_markText
  by_cases h0 : k ≤ 0
  · refine ⟨h, runF_eq ?_, Fr.refl ho⟩
    simp [claws_markText, mtext, h0]
  have hp : 0 < k := by omega
  obtain ⟨v, h', h1, rfl, h2⟩ := runF_of (env := elaws_markText) (code := claws_markText) (rs := [.t 2]) (args := [.v (.c (.int .i64 k))]) (h := h) (K := fun v h' => v = .v (.c (.str (mtext k))) ∧ Fr h h') (by
    simp [claws_markText, h0]
    refine AW_loop (fun i x => i ≤ 63 ∧ Fr h x.2.h ∧ ∃ (n : Nat) (out : ByteArray), x.1 0 = .v (.c (.int .i64 n)) ∧ x.1 3 = .v (.c (.str out)) ∧ n * 10 ^ i ≤ k.toNat ∧ out.size = i ∧ mtext k = ⟨#[109]⟩ ++ mtG (64 - i) n out) 63 ?_ ?_
    · refine ⟨by omega, by simpa using Fr.refl ho, k.toNat, ⟨#[]⟩, ?_, by simp, by simp, rfl, by simp [mtext, h0]⟩
      have : ((k.toNat : Nat) : Int) = k := by omega
      simp [this]
    · rintro i ⟨T, ⟨h', lc⟩⟩ hi ⟨_, fr, n, out, t0, t3, hn, hs, hm⟩
      simp only at fr t0 t3
      by_cases hz : n = 0
      · subst hz
        have he : mtG (64 - i) 0 out = out := by
          cases 64 - i with
          | zero => rfl
          | succ g => simp [mtG]
        rw [he] at hm
        have hsz : 1 + out.size ≤ 9223372036854775807 := by omega
        have hone : (⟨#[109]⟩ : ByteArray).size = 1 := rfl
        simp [claws_markText_L0, t0, t3, hone, hsz, hm, fr]
      · have hnp : 0 < n := by omega
        have hnz : ¬ n = 0 := hz
        have hi63 : i < 63 := by
          refine Classical.byContradiction fun hc => ?_
          have : i = 63 := by omega
          subst this
          have h10 : (10 : Nat) ^ 63 ≤ n * 10 ^ 63 := Nat.le_mul_of_pos_left _ (by omega)
          have : k.toNat ≤ 9223372036854775807 := by omega
          have : (10 : Nat) ^ 63 > 9223372036854775807 := by decide
          omega
        have htd : IntKind.i64.wrap ((n : Int) / 10) = (n : Int) / 10 := wrap_i64 (by omega) (by
          have : k.toNat ≤ 9223372036854775807 := by omega
          have h1 : n ≤ n * 10 ^ i := Nat.le_mul_of_pos_right _ (Nat.pow_pos (by omega))
          omega)
        have htm : (n : Int).tmod 10 = (n : Int) % 10 := Int.tmod_eq_emod_of_nonneg (by omega)
        have htd0 : (n : Int).tdiv 10 = (n : Int) / 10 := Int.tdiv_eq_ediv_of_nonneg (by omega)
        obtain ⟨M, hM⟩ : ∃ M : Int, M = 48 + (n : Int) % 10 := ⟨_, rfl⟩
        have hadd : IntKind.i64.wrap (48 + (n : Int) % 10) = M := by rw [hM]; exact wrap_i64 (by omega) (by omega)
        have hMb : 48 ≤ M ∧ M ≤ 57 := by omega
        obtain ⟨N, hN⟩ : ∃ N : Nat, N = 48 + n % 10 := ⟨_, rfl⟩
        have hMn : M.toNat = N := by omega
        have hconv : IntKind.u8.wrap M = M := by
          simp [IntKind.wrap, IntKind.signed, IntKind.bits]
          omega
        have hd : (⟨#[UInt8.ofNat N]⟩ : ByteArray) = digitB n := by rw [hN]; rfl
        have hsz : 1 + out.size ≤ 9223372036854775807 := by omega
        have hdz : (digitB n).size = 1 := rfl
        have fr2 := fr.trans (Fr.push fr.ok ⟨[.int .u8 M], 1, true⟩)
        have hstep : mtG (64 - i) n out = mtG (64 - (i + 1)) (n / 10) (digitB n ++ out) := by
          have : 64 - i = (64 - (i + 1)) + 1 := by omega
          rw [this, mtG, if_neg hz]
        have hpow : n / 10 * 10 ^ (i + 1) ≤ k.toNat := by
          have h1 : n / 10 * 10 ≤ n := Nat.div_mul_le_self n 10
          have h2 : n / 10 * 10 ^ (i + 1) = (n / 10 * 10) * 10 ^ i := by rw [Nat.pow_succ, Nat.mul_assoc, Nat.mul_comm 10]
          rw [h2]
          exact Nat.le_trans (Nat.mul_le_mul_right _ h1) hn
        simp [claws_markText_L0, t0, t3, hnp, hnz, htm, htd0, hadd, hconv, St.push, Heap.push, St.elems, upd, bytesOfCes, hMn, hd, hdz, hsz, htd]
        refine ⟨hi63, by omega, fr2, n / 10, by simp, hpow, ?_, ?_⟩
        · omega
        · rw [hm, hstep, show 64 - (i + 1) = 63 - i by omega])
  exact ⟨h', h1, h2⟩
def mkField (k : Int) (i : Nat) : Fld := ⟨mtext (k + 3 * i), k + 3 * i + 1, k + 3 * i + 2⟩
def marksField (k : Int) (n : Nat) : List Fld := (List.range n).map (mkField k)
theorem marksField_length (k : Int) (n : Nat) : (marksField k n).length = n := by simp [marksField]
theorem marksField_at (k : Int) (n i : Nat) (h : i < (marksField k n).length) : (marksField k n)[i] = mkField k i := by simp [marksField]
theorem laws_markGiveFieldS (h : Heap) (c : Ce) (l : List Fld) (fp : List Nat) (k : Int) (ho : HOk h) (hc : OwnF fField h c l fp) (hl : l.length ≤ 1048576) (hk : 0 ≤ k ∧ k ≤ 1152921504606846976) :
    ∃ h', Flaws_markGiveFieldS [.v (.c c), .v (.c (.int .i64 k))] h = some (.v (.c (.int .i64 (k + 3 * l.length))), h') ∧ OwnF fField h' c (marksField k l.length) fp ∧ Chg fp h h' := by
  unfold Flaws_markGiveFieldS
  rcases hc with ⟨rfl, rfl, rfl⟩ | ⟨b, rfl, hb, rfl⟩
  · refine ⟨h, runF_eq ?_, .inl ⟨rfl, rfl, rfl⟩, Chg.refl ho⟩
    simp [claws_markGiveFieldS]
    refine AW_each 0 (fun i x => x.1 0 = .v (.c .nils) ∧ x.1 1 = .v (.c (.int .i64 k)) ∧ x.1 5 = .v (.c (.int .i64 0)) ∧ x.2 = ⟨h, nol⟩) (by simp) (by intros; omega) ?_
    rintro ⟨T, s⟩ ⟨h0, h1, h5, rfl⟩
    simp only at h0 h1 h5
    simp [claws_markGiveFieldS_L0, h0, h1, h5, Ce.slen]
  · obtain ⟨v, h', h1, rfl, h2, h3⟩ := runF_of (env := elaws_markGiveFieldS) (code := claws_markGiveFieldS) (rs := [.t 4]) (args := [.v (.c (.sl (.inr b) 0 l.length .own)), .v (.c (.int .i64 k))]) (h := h) (K := fun v h' => v = .v (.c (.int .i64 (k + 3 * l.length))) ∧ OwnF fField h' (.sl (.inr b) 0 l.length .own) (marksField k l.length) [b] ∧ Chg [b] h h') (by
      simp [claws_markGiveFieldS]
      refine AW_each l.length (fun i x => x.1 0 = .v (.c (.sl (.inr b) 0 l.length .own)) ∧ x.1 1 = .v (.c (.int .i64 (k + 3 * i))) ∧ x.1 5 = .v (.c (.int .i64 i)) ∧ Chg [b] h x.2.h ∧ x.2.h.hp b = some ⟨fField.all ((marksField k l.length).take i ++ l.drop i), 3, true⟩) ?_ ?_ ?_
      · simp [Chg.refl ho]
        exact hb
      · rintro i ⟨T, ⟨h', lc⟩⟩ hin ⟨h0, h1, h5, cg, hrow⟩
        simp only at h0 h1 h5 cg hrow
        obtain ⟨K0, k0⟩ : ∃ K, K = k + 3 * (i : Int) := ⟨_, rfl⟩
        rw [← k0] at h1
        obtain ⟨h2, t2, f2⟩ := laws_markText h' K0 cg.ok (by omega)
        obtain ⟨K1, k1⟩ : ∃ K, K = K0 + 1 := ⟨_, rfl⟩
        have w0 : IntKind.i64.wrap (K0 + 1) = K1 := by rw [k1]; exact wrap_i64 (by omega) (by omega)
        obtain ⟨K2, k2⟩ : ∃ K, K = K1 + 1 := ⟨_, rfl⟩
        have w1 : IntKind.i64.wrap (K1 + 1) = K2 := by rw [k2]; exact wrap_i64 (by omega) (by omega)
        obtain ⟨K3, k3⟩ : ∃ K, K = K2 + 1 := ⟨_, rfl⟩
        have w2 : IntKind.i64.wrap (K2 + 1) = K3 := by rw [k3]; exact wrap_i64 (by omega) (by omega)
        obtain ⟨L, hL⟩ : ∃ L, L = (marksField k l.length).take i ++ l.drop i := ⟨_, rfl⟩
        rw [← hL] at hrow
        have hblt := cg.ok.lt hrow
        have hrow2 : h2.hp b = some ⟨fField.all L, 3, true⟩ := by rw [f2.hp _ hblt]; exact hrow
        have hiL : i < L.length := by rw [hL]; simp [marksField]; omega
        have hLi : L[i] = l[i] := by
          simp only [hL]
          rw [List.getElem_append_right (by simp; omega)]
          simp [marksField, Nat.min_eq_left (Nat.le_of_lt hin)]
        have hlen : (fField.all L).length = l.length * 3 := by rw [fField.all_length, hL]; simp [fField, marksField]; omega
        have hlenS : ∀ B, (fField.all (L.set i B)).length = l.length * 3 := by intro B; rw [fField.all_length, List.length_set, ← fField.all_length, hlen]
        have s0 := fField.all_set L (i := i) (k := 0) hiL (by decide) (b := ⟨mtext K0, l[i].x, l[i].y⟩) (v := .str (mtext K0)) (by simp [fField, hLi])
        have s1 := fField.all_set (L.set i ⟨mtext K0, l[i].x, l[i].y⟩) (i := i) (k := 1) (by simpa using hiL) (by decide) (b := ⟨mtext K0, K1, l[i].y⟩) (v := .int .i64 K1) (by simp [fField])
        have s2 := fField.all_set (L.set i ⟨mtext K0, K1, l[i].y⟩) (i := i) (k := 2) (by simpa using hiL) (by decide) (b := ⟨mtext K0, K1, K2⟩) (v := .int .i64 K2) (by simp [fField])
        rw [List.set_set] at s1 s2
        simp only [show fField.sz = 3 from rfl, Nat.add_zero, Nat.add_assoc, Nat.reduceAdd] at s0 s1 s2
        have g1 := hlenS ⟨mtext K0, l[i].x, l[i].y⟩
        have g2 := hlenS ⟨mtext K0, K1, l[i].y⟩
        have q1 : i * 3 + 1 ≤ l.length * 3 := by omega
        have q2 : i * 3 + 2 ≤ l.length * 3 := by omega
        have q3 : i * 3 + 3 ≤ l.length * 3 := by omega
        have hw := wrap1 (i := i) (by omega)
        have he2 : (Ce.sl (Sum.inr b) 0 l.length .own).eltAt 3 i = some (.inr b, i * 3) := by simp [Ce.eltAt, hin]
        have hend : L.set i ⟨mtext K0, K1, K2⟩ = (marksField k l.length).take (i + 1) ++ l.drop (i + 1) := by
          rw [hL, ← take_drop_set _ _ hin (by rw [marksField_length]; omega), marksField_at]
          simp only [mkField, ← k0]
          congr 2 <;> omega
        have hK : K3 = k + 3 * ((i : Int) + 1) := by omega
        have c2 := (f2.chg (fp := [b])).trans (Chg.one f2.ok (Nat.lt_of_lt_of_le hblt f2.nx) (some ⟨fField.all (L.set i ⟨mtext K0, K1, K2⟩), 3, true⟩)) (fq := [b]) (fun _ h => h) (fun _ h => h)
        have c3 := cg.trans c2 (fq := [b]) (fun _ h => h) (fun _ h => h)
        simp [claws_markGiveFieldS_L0, h0, h1, h5, Ce.slen, hin, he2, upd_upd, hlen, elaws_markGiveFieldS_laws_markText, t2, hrow2, s0, w0, q1, g1, s1, w1, q2, g2, s2, w2, q3, hw]
        refine ⟨hK, c3, ?_⟩
        rw [hend]
      · rintro ⟨T, ⟨h', lc⟩⟩ ⟨h0, h1, h5, cg, hrow⟩
        simp only at h0 h1 h5 cg hrow
        have e1 : (marksField k l.length).take l.length = marksField k l.length := by
          apply List.take_of_length_le
          rw [marksField_length]; omega
        simp [e1] at hrow
        simp [claws_markGiveFieldS_L0, h0, h1, h5, Ce.slen]
        exact ⟨.inr ⟨b, by rw [marksField_length], hrow, rfl⟩, cg⟩)
    exact ⟨h', h1, h2, h3⟩
theorem laws_heldGiveFieldS {S : Nat → Prop} (h : Heap) (c : Ce) (n : Nat) (k : Int) (ho : HOk h) (hc : RdF fField S h c (marksField k n)) (hl : n ≤ 1048576) (hk : 0 ≤ k ∧ k ≤ 1152921504606846976) :
    ∃ h', Flaws_heldGiveFieldS [.v (.c c), .v (.c (.int .i64 k))] h = some (.v (.c (.int .i64 (k + 3 * n))), h') ∧ Fr h h' := by
  unfold Flaws_heldGiveFieldS
  have hsl := hc.slen
  rw [marksField_length] at hsl
  obtain ⟨v, h', h1, rfl, h2⟩ := runF_of (env := elaws_heldGiveFieldS) (code := claws_heldGiveFieldS) (rs := [.t 4]) (args := [.v (.c c), .v (.c (.int .i64 k))]) (h := h) (K := fun v h' => v = .v (.c (.int .i64 (k + 3 * n))) ∧ Fr h h') (by
    simp [claws_heldGiveFieldS]
    refine AW_each n (fun i x => x.1 0 = .v (.c c) ∧ x.1 1 = .v (.c (.int .i64 (k + 3 * i))) ∧ x.1 5 = .v (.c (.int .i64 i)) ∧ Fr h x.2.h) (by simp [Fr.refl ho, hc.noLoc]) ?_ ?_
    · rintro i ⟨T, ⟨h', lc⟩⟩ hin ⟨h0, h1, h5, fr⟩
      simp only at h0 h1 h5 fr
      obtain ⟨eb, ep, er, e1, _, e2, e3, e4, e5, e6, e7⟩ := (hc.keep ho fr).field (show i < (marksField k n).length by rw [marksField_length]; exact hin)
      rw [marksField_at] at e5 e6 e7
      simp only [mkField] at e5 e6 e7
      obtain ⟨K0, k0⟩ : ∃ K, K = k + 3 * (i : Int) := ⟨_, rfl⟩
      obtain ⟨h2, t2, f2⟩ := laws_markText h' K0 fr.ok (by omega)
      have e2' : h2.hp eb = some er := by rw [f2.hp _ (fr.ok.lt e2)]; exact e2
      obtain ⟨K1, k1⟩ : ∃ K, K = K0 + 1 := ⟨_, rfl⟩
      have w0 : IntKind.i64.wrap (K0 + 1) = K1 := by rw [k1]; exact wrap_i64 (by omega) (by omega)
      obtain ⟨K2, k2⟩ : ∃ K, K = K1 + 1 := ⟨_, rfl⟩
      have w1 : IntKind.i64.wrap (K1 + 1) = K2 := by rw [k2]; exact wrap_i64 (by omega) (by omega)
      obtain ⟨K3, k3⟩ : ∃ K, K = K2 + 1 := ⟨_, rfl⟩
      have w2 : IntKind.i64.wrap (K2 + 1) = K3 := by rw [k3]; exact wrap_i64 (by omega) (by omega)
      simp only [← k0] at h1 e5 e6 e7
      rw [show K0 + 1 = K1 by omega] at e6
      rw [show K0 + 2 = K2 by omega] at e7
      have hw := wrap1 (i := i) (by omega)
      have hK : K3 = k + 3 * ((i : Int) + 1) := by omega
      simp [claws_heldGiveFieldS_L0, h0, h1, h5, hsl, hin, e1, e2, e2', e5, e6, e7, elaws_heldGiveFieldS_laws_markText, t2, w0, w1, w2, hw]
      exact ⟨hK, fr.trans f2⟩
    · rintro ⟨T, ⟨h', lc⟩⟩ ⟨h0, h1, h5, fr⟩
      simp only at h0 h1 h5 fr
      simp [claws_heldGiveFieldS_L0, h0, h1, h5, hsl, fr])
  exact ⟨h', h1, h2⟩
theorem OwnS.update {α β : Type} {F : Fl β} {R : Heap → β → α → List Nat → Prop} {h : Heap} {c : Ce} {l : List α} {fp : List Nat} (k : OkR R) (o : OwnS F R h c l fp) {i : Nat} (hi : i < l.length) :
    ∃ (qb : Nat) (bs : List β) (f : List Nat) (hib : i < bs.length), c = .sl (.inr qb) 0 l.length .own ∧ bs.length = l.length ∧ h.hp qb = some ⟨F.all bs, F.sz, true⟩ ∧ R h bs[i] l[i] f ∧ qb ∈ fp ∧ qb ∉ f ∧ (∀ x, x ∈ f → x ∈ fp) ∧ f.Nodup ∧
      ∀ (h' : Heap) (b' : β) (a' : α), h'.hp qb = some ⟨F.all (bs.set i b'), F.sz, true⟩ → R h' b' a' f → (∀ x, x ∈ fp → x ≠ qb → x ∉ f → h'.hp x = h.hp x) → OwnS F R h' c (l.set i a') fp := by
  obtain ⟨bs, fps, q, h1, h2, h3, h4, rfl, h6⟩ := o
  rcases h1 with ⟨rfl, rfl, rfl⟩ | ⟨qb, rfl, hb, rfl⟩
  · simp at h2; omega
  · have hib : i < bs.length := by omega
    have hif : i < fps.length := by omega
    have hnd := List.nodup_append.1 h6
    have hmem : ∀ (j : Nat) (hj : j < fps.length) x, x ∈ fps[j] → x ∈ fps.flatten := fun j hj x hx => List.mem_flatten.2 ⟨_, List.getElem_mem hj, hx⟩
    have hdis : ∀ (j : Nat) (hj : j < fps.length), j ≠ i → ∀ x, x ∈ fps[j] → x ∉ fps[i] := by
      intro j hj hne x hx hx'
      have hp := List.pairwise_flatten.1 hnd.2.1
      have hpw := hp.2
      rw [List.pairwise_iff_getElem] at hpw
      rcases Nat.lt_or_gt_of_ne hne with hlt | hlt
      · exact hpw j i hj hif hlt x hx x hx' rfl
      · exact hpw i j hif hj hlt x hx' x hx rfl
    refine ⟨qb, bs, fps[i], hib, by rw [h2], h2, hb, h4 i _ _ _ (List.getElem?_eq_getElem hib) (List.getElem?_eq_getElem hi) (List.getElem?_eq_getElem hif), by simp, ?_, ?_, ?_, ?_⟩
    · intro hx
      exact hnd.2.2 qb (by simp) qb (hmem i hif _ hx) rfl
    · intro x hx
      rw [List.mem_append]
      exact .inr (hmem i hif x hx)
    · exact (List.pairwise_flatten.1 hnd.2.1).1 _ (List.getElem_mem hif)
    · intro h' b' a' hrow hR hfr
      refine ⟨bs.set i b', fps, [qb], .inr ⟨qb, by simp, hrow, rfl⟩, by simp [h2], by simp [h3], ?_, rfl, h6⟩
      intro j b a f hb' ha' hf'
      by_cases hji : j = i
      · subst hji
        rw [List.getElem?_set_self (by omega)] at hb' ha'
        rw [List.getElem?_eq_getElem hif] at hf'
        simp at hb' ha' hf'
        subst hb' ha' hf'
        exact hR
      · rw [List.getElem?_set_ne (Ne.symm hji)] at hb' ha'
        have hjl := (List.getElem?_eq_some_iff.1 ha').1
        have hjf : j < fps.length := by omega
        rw [List.getElem?_eq_getElem hjf] at hf'
        simp only [Option.some.injEq] at hf'
        subst hf'
        refine k.frame (fun x hx => hfr x ?_ ?_ (hdis j hjf hji x hx)) (h4 j b a _ hb' ha' (List.getElem?_eq_getElem hjf))
        · rw [List.mem_append]; exact .inr (hmem j hjf x hx)
        · rintro rfl
          exact hnd.2.2 x (by simp) x (hmem j hjf x hx) rfl

def cntHeld : List Held → Int
  | [] => 0
  | a :: r => 1 + 6 * (a.tube.length : Int) + 6 * (a.next.length : Int) + cntHeld r
theorem cntHeld_append (a b : List Held) : cntHeld (a ++ b) = cntHeld a + cntHeld b := by
  induction a with
  | nil => simp [cntHeld]
  | cons x r ih => simp only [List.cons_append, cntHeld, ih]; omega
theorem cntHeld_take (l : List Held) {i : Nat} (hi : i < l.length) : cntHeld (l.take (i + 1)) = cntHeld (l.take i) + (1 + 6 * (l[i].tube.length : Int) + 6 * (l[i].next.length : Int)) := by
  rw [List.take_add_one, List.getElem?_eq_getElem hi, cntHeld_append]
  simp [cntHeld]
theorem cntHeld_le (l : List Held) (ht : ∀ a, a ∈ l → a.tube.length ≤ 1048576 ∧ a.next.length ≤ 1048576) : 0 ≤ cntHeld l ∧ cntHeld l ≤ 13000000 * l.length := by
  induction l with
  | nil => simp [cntHeld]
  | cons x r ih =>
    have h1 := ht x (by simp)
    have h2 := ih fun a ha => ht a (by simp [ha])
    simp only [cntHeld, List.length_cons]
    omega
def mkHeld (k : Int) (a : Held) : Held := ⟨mtext k, marksBox (k + 1) a.tube.length, marksBox (k + 1 + 6 * a.tube.length) a.next.length⟩
def marksHeld (k : Int) (l : List Held) : List Held := (List.range l.length).map fun i => mkHeld (k + cntHeld (l.take i)) (l.getD i default)
theorem marksHeld_length (k : Int) (l : List Held) : (marksHeld k l).length = l.length := by simp [marksHeld]
theorem marksHeld_at (k : Int) (l : List Held) (i : Nat) (h : i < (marksHeld k l).length) (hl : i < l.length) : (marksHeld k l)[i] = mkHeld (k + cntHeld (l.take i)) l[i] := by simp [marksHeld, hl]

theorem laws_markGiveHeldS (h : Heap) (c : Ce) (l : List Held) (fp : List Nat) (k : Int) (ho : HOk h) (hc : OwnHeldS h c l fp) (hl : l.length ≤ 1048576) (ht : ∀ a, a ∈ l → a.tube.length ≤ 1048576 ∧ a.next.length ≤ 1048576) (hk : 0 ≤ k ∧ k ≤ 1099511627776) :
    ∃ h', Flaws_markGiveHeldS [.v (.c c), .v (.c (.int .i64 k))] h = some (.v (.c (.int .i64 (k + cntHeld l))), h') ∧ OwnHeldS h' c (marksHeld k l) fp ∧ Chg fp h h' := by
  unfold Flaws_markGiveHeldS
  have hcn := hc.noLoc
  have hcs := hc.slen
  obtain ⟨v, h', h1, rfl, h2, h3⟩ := runF_of (env := elaws_markGiveHeldS) (code := claws_markGiveHeldS) (rs := [.t 4]) (args := [.v (.c c), .v (.c (.int .i64 k))]) (h := h) (K := fun v h' => v = .v (.c (.int .i64 (k + cntHeld l))) ∧ OwnHeldS h' c (marksHeld k l) fp ∧ Chg fp h h') (by
    simp [claws_markGiveHeldS]
    refine AW_each l.length (fun i x => x.1 0 = .v (.c c) ∧ x.1 1 = .v (.c (.int .i64 (k + cntHeld (l.take i)))) ∧ x.1 5 = .v (.c (.int .i64 i)) ∧ Chg fp h x.2.h ∧ OwnHeldS x.2.h c ((marksHeld k l).take i ++ l.drop i) fp) ?_ ?_ ?_
    · simp [Chg.refl ho, cntHeld, hcn]
      exact hc
    · rintro i ⟨T, ⟨h', lc⟩⟩ hin ⟨h0, h1, h5, cg, ow⟩
      simp only at h0 h1 h5 cg ow
      have hcnt := cntHeld_le (l.take i) (fun a ha => ht a (List.mem_of_mem_take ha))
      have htl : (l.take i).length ≤ 1048576 := by rw [List.length_take]; omega
      obtain ⟨K0, k0⟩ : ∃ K, K = k + cntHeld (l.take i) := ⟨_, rfl⟩
      rw [← k0] at h1
      have hK0 : 0 ≤ K0 ∧ K0 ≤ 1152921504606846976 - 100000000 := by omega
      obtain ⟨t1, t2⟩ := ht _ (List.getElem_mem hin)
      obtain ⟨L, hL⟩ : ∃ L, L = (marksHeld k l).take i ++ l.drop i := ⟨_, rfl⟩
      rw [← hL] at ow
      have hiL : i < L.length := by rw [hL]; simp [marksHeld]; omega
      have hLl : L.length = l.length := by rw [hL]; simp [marksHeld]; omega
      have hLi : L[i] = l[i] := by
        simp only [hL]
        rw [List.getElem_append_right (by simp; omega)]
        simp [marksHeld, Nat.min_eq_left (Nat.le_of_lt hin)]
      obtain ⟨qb, bs, f, hib, rfl, hbl, hrow, hR, q1, q2, q3, q4, upd'⟩ := OwnS.update okHeld ow hiL
      rw [hLi] at hR
      obtain ⟨hn, f1, f2, o1, o2, rfl⟩ := hR
      have hqlt := cg.ok.lt hrow
      obtain ⟨ha, ta, fa⟩ := laws_markText h' K0 cg.ok (by omega)
      have hrowa : ha.hp qb = some ⟨fHeld.all bs, 3, true⟩ := by rw [fa.hp _ hqlt]; exact hrow
      -- the name is written
      have s0 := fHeld.all_set bs (i := i) (k := 0) hib (by decide) (b := ⟨mtext K0, bs[i].t, bs[i].x⟩) (v := .str (mtext K0)) (by simp [fHeld])
      simp only [show fHeld.sz = 3 from rfl, Nat.add_zero] at s0
      obtain ⟨hb, hbd⟩ : ∃ hb : Heap, hb = ⟨ha.nx, upd ha.hp qb (some ⟨fHeld.all (bs.set i ⟨mtext K0, bs[i].t, bs[i].x⟩), 3, true⟩)⟩ := ⟨_, rfl⟩
      have cb : Chg [qb] ha hb := by rw [hbd]; exact Chg.one fa.ok (Nat.lt_of_lt_of_le hqlt fa.nx) _
      have nd := List.nodup_append.1 q4
      have oa1 := (o1.chg cg.ok (Fr.chg (fp := []) fa) (by simp)).chg fa.ok cb (by
        intro x hx hn'
        simp at hn'
        subst hn'
        exact q2 (by simp [hx]))
      have oa2 := (o2.chg cg.ok (Fr.chg (fp := []) fa) (by simp)).chg fa.ok cb (by
        intro x hx hn'
        simp at hn'
        subst hn'
        exact q2 (by simp [hx]))
      obtain ⟨K1, k1⟩ : ∃ K, K = K0 + 1 := ⟨_, rfl⟩
      have w0 : IntKind.i64.wrap (K0 + 1) = K1 := by rw [k1]; exact wrap_i64 (by omega) (by omega)
      obtain ⟨hc', tc, oc, cc⟩ := laws_markGiveBoxS hb bs[i].t l[i].tube f1 K1 cb.ok oa1 t1 (by omega)
      obtain ⟨K2, k2⟩ : ∃ K, K = K1 + 6 * (l[i].tube.length : Int) := ⟨_, rfl⟩
      rw [← k2] at tc
      have oc2 := oa2.chg cb.ok cc (fun x hx hx' => nd.2.2 x hx' x hx rfl)
      obtain ⟨hd, td, od, cd⟩ := laws_markGiveBoxS hc' bs[i].x l[i].next f2 K2 cc.ok oc2 t2 (by omega)
      obtain ⟨K3, k3⟩ : ∃ K, K = K2 + 6 * (l[i].next.length : Int) := ⟨_, rfl⟩
      rw [← k3] at td
      have od1 := oc.chg cc.ok cd (fun x hx hx' => nd.2.2 x hx x hx' rfl)
      have hlen : (fHeld.all bs).length = l.length * 3 := by rw [fHeld.all_length, hbl, hLl]; rfl
      have hlen2 : (fHeld.all (bs.set i ⟨mtext K0, bs[i].t, bs[i].x⟩)).length = l.length * 3 := by rw [fHeld.all_length, List.length_set, hbl, hLl]; rfl
      have c1 := fHeld.all_cell (bs.set i ⟨mtext K0, bs[i].t, bs[i].x⟩) (i := i) (k := 1) (by simpa using hib) (by decide)
      have c2 := fHeld.all_cell (bs.set i ⟨mtext K0, bs[i].t, bs[i].x⟩) (i := i) (k := 2) (by simpa using hib) (by decide)
      rw [List.getElem_set_self] at c1 c2
      simp only [show fHeld.sz = 3 from rfl] at c1 c2
      replace c1 : (fHeld.all (bs.set i ⟨mtext K0, bs[i].t, bs[i].x⟩))[i * 3 + 1]? = some bs[i].t := c1
      replace c2 : (fHeld.all (bs.set i ⟨mtext K0, bs[i].t, bs[i].x⟩))[i * 3 + 2]? = some bs[i].x := c2
      have hrowb : hb.hp qb = some ⟨fHeld.all (bs.set i ⟨mtext K0, bs[i].t, bs[i].x⟩), 3, true⟩ := by rw [hbd]; simp [upd]
      have hqb : qb < hb.nx := cb.ok.lt hrowb
      have hrowc : hc'.hp qb = some ⟨fHeld.all (bs.set i ⟨mtext K0, bs[i].t, bs[i].x⟩), 3, true⟩ := by rw [cc.hp _ hqb (fun hx => q2 (by simp [hx]))]; exact hrowb
      have hrowd : hd.hp qb = some ⟨fHeld.all (bs.set i ⟨mtext K0, bs[i].t, bs[i].x⟩), 3, true⟩ := by rw [cd.hp _ (cc.ok.lt hrowc) (fun hx => q2 (by simp [hx]))]; exact hrowc
      have q5 : i * 3 + 1 ≤ l.length * 3 := by omega
      have hw := wrap1 (i := i) (by omega)
      have he2 : (Ce.sl (Sum.inr qb) 0 l.length .own).eltAt 3 i = some (.inr qb, i * 3) := by simp [Ce.eltAt, hin]
      -- all that turned
      have ctot : Chg fp h' hd := by
        have x1 := (fa.chg (fp := fp)).trans cb (fq := fp) (fun _ h => h) (fun t ht => by simp at ht; subst ht; exact q1)
        have x2 := x1.trans cc (fq := fp) (fun _ h => h) (fun t ht => q3 t (by simp [ht]))
        exact x2.trans cd (fq := fp) (fun _ h => h) (fun t ht => q3 t (by simp [ht]))
      have hown := upd' hd ⟨mtext K0, bs[i].t, bs[i].x⟩ (mkHeld K0 l[i]) hrowd ⟨rfl, f1, f2, (by have q := od1; rw [k1] at q; exact q), (by have q := od; rw [k2, k1] at q; exact q), rfl⟩ (by
        intro x hx hne hnf
        have hxl := ow.lt okHeld cg.ok hx
        rw [List.mem_append, not_or] at hnf
        rw [cd.hp x (Nat.lt_of_lt_of_le (Nat.lt_of_lt_of_le (Nat.lt_of_lt_of_le hxl fa.nx) cb.nx) cc.nx) hnf.2, cc.hp x (Nat.lt_of_lt_of_le (Nat.lt_of_lt_of_le hxl fa.nx) cb.nx) hnf.1, cb.hp x (Nat.lt_of_lt_of_le hxl fa.nx) (by simpa using hne), fa.hp x hxl])
      have hend : L.set i (mkHeld K0 l[i]) = (marksHeld k l).take (i + 1) ++ l.drop (i + 1) := by
        rw [hL, ← take_drop_set _ _ hin (by rw [marksHeld_length]; omega), marksHeld_at _ _ _ _ hin, ← k0]
      have hK : K3 = k + cntHeld (l.take (i + 1)) := by rw [cntHeld_take _ hin]; omega
      have n1 := o1.noLoc
      have n2 := o2.noLoc
      rw [hend] at hown
      simp [claws_markGiveHeldS_L0, h0, h1, h5, Ce.slen, hLl, hin, he2, elaws_markGiveHeldS_laws_markText, elaws_markGiveHeldS_laws_markGiveBoxS, ta, hrowa, hlen, s0, q5, w0, ← hbd, hrowb, c1, n1, n2, tc, hrowc, c2, td, hw]
      rw [hLl] at hown
      exact ⟨hK, cg.trans ctot (fun _ h => h) (fun _ h => h), hown⟩
    · rintro ⟨T, ⟨h', lc⟩⟩ ⟨h0, h1, h5, cg, ow⟩
      simp only at h0 h1 h5 cg ow
      have e1 : (marksHeld k l).take l.length = marksHeld k l := by
        apply List.take_of_length_le
        rw [marksHeld_length]; omega
      rw [e1, List.drop_length, List.append_nil] at ow
      rw [List.take_length] at h1
      simp [claws_markGiveHeldS_L0, h0, h1, h5, hcs]
      exact ⟨ow, cg⟩)
  exact ⟨h', h1, h2, h3⟩
theorem laws_heldGiveHeldS {S : Nat → Prop} (h : Heap) (c : Ce) (l : List Held) (hs : List HeldC) (k : Int) (ho : HOk h) (hc : RdF fHeld S h c hs) (hlen : hs.length = l.length) (hel : ∀ i (hi : i < hs.length) (hi' : i < (marksHeld k l).length), RdHeld S h hs[i] (marksHeld k l)[i]) (hl : l.length ≤ 1048576) (ht : ∀ a, a ∈ l → a.tube.length ≤ 1048576 ∧ a.next.length ≤ 1048576) (hk : 0 ≤ k ∧ k ≤ 1099511627776) :
    ∃ h', Flaws_heldGiveHeldS [.v (.c c), .v (.c (.int .i64 k))] h = some (.v (.c (.int .i64 (k + cntHeld l))), h') ∧ Fr h h' := by
  unfold Flaws_heldGiveHeldS
  have hsl := hc.slen
  obtain ⟨v, h', h1, rfl, h2⟩ := runF_of (env := elaws_heldGiveHeldS) (code := claws_heldGiveHeldS) (rs := [.t 4]) (args := [.v (.c c), .v (.c (.int .i64 k))]) (h := h) (K := fun v h' => v = .v (.c (.int .i64 (k + cntHeld l))) ∧ Fr h h') (by
    simp [claws_heldGiveHeldS]
    refine AW_each hs.length (fun i x => x.1 0 = .v (.c c) ∧ x.1 1 = .v (.c (.int .i64 (k + cntHeld (l.take i)))) ∧ x.1 5 = .v (.c (.int .i64 i)) ∧ Fr h x.2.h) (by simp [Fr.refl ho, hc.noLoc, cntHeld]) ?_ ?_
    · rintro i ⟨T, ⟨h', lc⟩⟩ hin ⟨h0, h1, h5, fr⟩
      simp only at h0 h1 h5 fr
      have hil : i < l.length := by omega
      obtain ⟨eb, ep, er, e1, _, e2, e3, e4, e5, e6, e7⟩ := (hc.keep ho fr).heldc hin
      have hri := hel i hin (by rw [marksHeld_length]; exact hil)
      rw [marksHeld_at _ _ _ _ hil] at hri
      obtain ⟨hn, hrt, hrx⟩ := hri
      have hcnt := cntHeld_le (l.take i) (fun a ha => ht a (List.mem_of_mem_take ha))
      have htl : (l.take i).length ≤ 1048576 := by rw [List.length_take]; omega
      obtain ⟨K0, k0⟩ : ∃ K, K = k + cntHeld (l.take i) := ⟨_, rfl⟩
      rw [← k0] at h1 hn hrt hrx
      have hK0 : 0 ≤ K0 ∧ K0 ≤ 1152921504606846976 - 100000000 := by omega
      obtain ⟨t1, t2⟩ := ht _ (List.getElem_mem hil)
      simp only [mkHeld] at hn hrt hrx
      obtain ⟨K1, k1⟩ : ∃ K, K = K0 + 1 := ⟨_, rfl⟩
      have w0 : IntKind.i64.wrap (K0 + 1) = K1 := by rw [k1]; exact wrap_i64 (by omega) (by omega)
      obtain ⟨K2, k2⟩ : ∃ K, K = K1 + 6 * (l[i].tube.length : Int) := ⟨_, rfl⟩
      obtain ⟨K3, k3⟩ : ∃ K, K = K2 + 6 * (l[i].next.length : Int) := ⟨_, rfl⟩
      rw [← k1] at hrt
      rw [← k1, ← k2] at hrx
      obtain ⟨h2, tt, f2⟩ := laws_markText h' K0 fr.ok (by omega)
      have e2' : h2.hp eb = some er := by rw [f2.hp _ (fr.ok.lt e2)]; exact e2
      have g1 := laws_heldGiveBoxS h2 hs[i].t l[i].tube.length K1 ((hrt.keep ho fr).keep fr.ok f2) t1 (by omega)
      have g2 := laws_heldGiveBoxS h2 hs[i].x l[i].next.length K2 ((hrx.keep ho fr).keep fr.ok f2) t2 (by omega)
      rw [← k2] at g1
      rw [← k3] at g2
      have hw := wrap1 (i := i) (by omega)
      have hK : K3 = k + cntHeld (l.take (i + 1)) := by rw [cntHeld_take _ hil]; omega
      have m1 : ¬ K2 < 0 := by omega
      have m2 : ¬ K3 < 0 := by omega
      simp [claws_heldGiveHeldS_L0, h0, h1, h5, hsl, hin, e1, e2, e2', e5, e6, e7, hn, hrt.noLoc, hrx.noLoc, elaws_heldGiveHeldS_laws_markText, elaws_heldGiveHeldS_laws_heldGiveBoxS, tt, w0, g1, g2, m1, m2, hw]
      exact ⟨hK, fr.trans f2⟩
    · rintro ⟨T, ⟨h', lc⟩⟩ ⟨h0, h1, h5, fr⟩
      simp only at h0 h1 h5 fr
      rw [hlen, List.take_length] at h1
      simp [claws_heldGiveHeldS_L0, h0, h1, h5, hsl, fr])
  exact ⟨h', h1, h2⟩

/-- A book, marked. -/
def marksBook (k : Int) (b : Book) : Book := ⟨b.now, marksField k b.fields.length, marksHeld (k + 3 * b.fields.length) b.held⟩
def cntBook (b : Book) : Int := 3 * (b.fields.length : Int) + cntHeld b.held
theorem cntBook_le {b : Book} (sm : SmallBook b) : 0 ≤ cntBook b ∧ cntBook b ≤ 1099511627776 * 16 := by
  have := cntHeld_le b.held sm.t
  have := sm.f
  have := sm.h
  unfold cntBook
  omega
theorem laws_markGiveBook (h : Heap) (c : BookC) (b : Book) (fp : List Nat) (k : Int) (ho : HOk h) (hc : OwnBook h c b fp) (sm : SmallBook b) (hk : 0 ≤ k ∧ k ≤ 100000000) :
    ∃ h', Flaws_markGiveBook [.v (.agg c.ces), .v (.c (.int .i64 k))] h = some (.v (.c (.int .i64 (k + cntBook b))), h') ∧ OwnBook h' c (marksBook k b) fp ∧ Chg fp h h' := by
  unfold Flaws_markGiveBook
  obtain ⟨hn, f1, f2, o1, o2, rfl, nd⟩ := hc
  have nd' := List.nodup_append.1 nd
  have hsf := sm.f
  obtain ⟨h1, t1, p1, c1⟩ := laws_markGiveFieldS h c.f b.fields f1 k ho o1 sm.f (by omega)
  have o2' := o2.chg okHeld ho c1 (fun x hx hx' => nd'.2.2 x hx' x hx rfl)
  obtain ⟨h2, t2, p2, c2⟩ := laws_markGiveHeldS h1 c.hd b.held f2 (k + 3 * b.fields.length) c1.ok o2' sm.h sm.t (by omega)
  have p1' := p1.chg c1.ok c2 (fun x hx hx' => nd'.2.2 x hx x hx' rfl)
  have e1 : c.ces[1]? = some c.f := rfl
  have e2 : c.ces[2]? = some c.hd := rfl
  refine ⟨h2, runF_eq ?_, ⟨hn, f1, f2, p1', p2, rfl, nd⟩, c1.trans c2 (fun x hx => by simp [hx]) (fun x hx => by simp [hx])⟩
  simp [claws_markGiveBook, e1, e2, o1.noLoc, o2.noLoc, elaws_markGiveBook_laws_markGiveFieldS, elaws_markGiveBook_laws_markGiveHeldS, t1, t2]
  unfold cntBook
  omega
theorem laws_heldGiveBook {S : Nat → Prop} (h : Heap) (c : BookC) (b : Book) (k : Int) (ho : HOk h) (hr : RdBook S h c (marksBook k b)) (sm : SmallBook b) (hk : 0 ≤ k ∧ k ≤ 100000000) :
    ∃ h', Flaws_heldGiveBook [.v (.agg c.ces), .v (.c (.int .i64 k))] h = some (.v (.c (.int .i64 (k + cntBook b))), h') ∧ Fr h h' := by
  unfold Flaws_heldGiveBook
  obtain ⟨hn, hf, hs, hh, hlen, hel⟩ := hr
  have hsf := sm.f
  obtain ⟨h1, t1, f1⟩ := laws_heldGiveFieldS h c.f b.fields.length k ho hf sm.f (by omega)
  simp only [marksBook] at hlen hel
  obtain ⟨h2, t2, f2⟩ := laws_heldGiveHeldS h1 c.hd b.held hs (k + 3 * b.fields.length) f1.ok (hh.keep ho f1) (by rw [hlen, marksHeld_length]) (fun i hi hi' => (hel i hi hi').keep ho f1) sm.h sm.t (by omega)
  have e1 : c.ces[1]? = some c.f := rfl
  have e2 : c.ces[2]? = some c.hd := rfl
  have hc := cntHeld_le b.held sm.t
  have m1 : ¬ k + 3 * (b.fields.length : Int) < 0 := by omega
  have m2 : ¬ k + 3 * (b.fields.length : Int) + cntHeld b.held < 0 := by omega
  refine ⟨h2, runF_eq ?_, f1.trans f2⟩
  simp [claws_heldGiveBook, e1, e2, hf.noLoc, hh.noLoc, elaws_heldGiveBook_laws_heldGiveFieldS, elaws_heldGiveBook_laws_heldGiveHeldS, t1, t2, m1, m2]
  unfold cntBook
  omega
theorem RdHeld.chg {S : Nat → Prop} {h h' : Heap} {fp : List Nat} {c : HeldC} {a : Held} (hr : RdHeld S h c a) (ho : HOk h) (f : Chg fp h h') (hS : ∀ b, S b → b ∉ fp) : RdHeld S h' c a := ⟨hr.name, hr.t.chg ho f hS, hr.x.chg ho f hS⟩
theorem RdBook.chg {S : Nat → Prop} {h h' : Heap} {fp : List Nat} {c : BookC} {b : Book} (hr : RdBook S h c b) (ho : HOk h) (f : Chg fp h h') (hS : ∀ b, S b → b ∉ fp) : RdBook S h' c b := by
  obtain ⟨hs, h1, h2, h3⟩ := hr.hd
  exact ⟨hr.now, hr.f.chg ho f hS, hs, h1.chg ho f hS, h2, fun i hi hi' => (h3 i hi hi').chg ho f hS⟩
theorem RdWish.chg {S : Nat → Prop} {h h' : Heap} {fp : List Nat} {c : WishC} {a : Wish} (hr : RdWish S h c a) (ho : HOk h) (f : Chg fp h h') (hS : ∀ b, S b → b ∉ fp) : RdWish S h' c a := by
  obtain ⟨hs, h1, h2, h3⟩ := hr.ws
  exact ⟨hr.name, hr.quick, hr.slow, hr.from_, hr.by_, hr.late, ⟨hs, h1.chg ho f hS, h2, fun i hi hi' => (h3 i hi hi').chg ho f hS⟩, hr.ls.chg ho f hS⟩
theorem marksBook_small {b : Book} {k : Int} (sm : SmallBook b) : SmallBook (marksBook k b) := by
  refine ⟨by simp [marksBook, marksField_length, sm.f], by simp [marksBook, marksHeld_length, sm.h], fun a ha => ?_⟩
  obtain ⟨i, hi, rfl⟩ := List.getElem_of_mem ha
  simp only [marksBook] at hi ⊢
  have hl : i < b.held.length := by rwa [marksHeld_length] at hi
  rw [marksHeld_at _ _ _ _ hl]
  simp only [mkHeld, marksBox_length]
  exact sm.t _ (List.getElem_mem hl)
end Go.Abs

/-
  The helpers of the laws for wishes: sizes, copies, comparisons, marks.
-/

namespace Go.Abs
set_option linter.unusedSimpArgs false
set_option linter.unusedVariables false
attribute [local simp] AW_skip AW_exit AW_ret AW_seq AW_block AW_cond CW_ite AW_reg AW_regD AW_regDc RD_nil RD_cons keyEq hasP hasH hasL chkL chkH recK recH inRange lightKey BookC.len BookC.take WishC.len WishC.take RW_nil RW_cons RW_guard GW_t GW_f GW_gt GW_gf GW_tup GY_some GY_tt GY_ff gd_t gd_f pk_t pk_f pk_and pk_or pk_andc pk_orc pk_bool gd_gd SW_some ThenQ_normal ThenQ_exit ThenQ_ret BlockQ_normal BlockQ_exit BlockQ_ret kill_nil kill_cons killT_at killL_at upo_some upo_none ev_t ev_k FinQ_ret FinQ_normal upd_eq upd_ne argsT_zero argsT_succ aop.eq_1 aop_pick aop.eq_3 aop.eq_4 aop.eq_5 aop.eq_6 aop.eq_7 aop.eq_8 aop.eq_9 aop.eq_10 aop.eq_11 aop.eq_12 aop.eq_13 aop.eq_14 aop.eq_15 aop.eq_16 aop.eq_17 aop.eq_18 aop.eq_19 aop.eq_20 aop.eq_21 aop_slice_hi aop_slice_lo aop.eq_23 aop.eq_24 aop.eq_26 aop.eq_27 aop.eq_28 aop.eq_29 aop.eq_31 aop.eq_32 aop_maxs2 aop_mins2 aop_mins3 aop_len aop_iaddr Av.bool? Av.ptr? Av.int? Av.int64? Av.str? Av.agg? ressA resA resOf noLoc_int noLoc_bool noLoc_str noLoc_nils noLoc_nilp noLoc_ptrl noLoc_ptrr noLoc_sll noLoc_slr noLoc_fn noLoc_tc noLoc_tagg noLoc_av noLoc_atup ce_c tv_v cells_c cells_agg noLocs keyLoc evs callA St.set St.get unAv binCe killV_int killV_bool killV_str killV_nils killV_nilp killV_agg killV_no killV_tup killV_ptrl killV_ptrr killV_sll killV_slr killV_fn killV_noLoc fillA repl ptrs List.map
attribute [local congr] GY_congr

theorem laws_szGiveCellS {S : Nat → Prop} (h : Heap) (c : Ce) (l : List Cell) (k : Int) (hc : RdF fCell S h c l) (hk : 0 ≤ k ∧ k ≤ 1048576) :
    Flaws_szGiveCellS [.v (.c c), .v (.c (.int .i64 k))] h = some (.v (.c (.int .i64 (if k < l.length then -1 else k - l.length))), h) := by
  unfold Flaws_szGiveCellS
  have hl := hc.le
  have e : IntKind.i64.wrap (k - l.length) = k - l.length := wrap_i64 (by omega) (by omega)
  have e1 : k - (l.length : Int) < 0 ↔ k < l.length := by omega
  refine runF_eq ?_
  simp +contextual [claws_szGiveCellS, hc.slen, e, e1]
  intros; omega

theorem laws_szIntS {S : Nat → Prop} (h : Heap) (c : Ce) (l : List Int) (k : Int) (hc : RdF fInt S h c l) (hk : 0 ≤ k ∧ k ≤ 1048576) :
    Flaws_szIntS [.v (.c c), .v (.c (.int .i64 k))] h = some (.v (.c (.int .i64 (if k < l.length then -1 else k - l.length))), h) := by
  unfold Flaws_szIntS
  have hl := hc.le
  have e : IntKind.i64.wrap (k - l.length) = k - l.length := wrap_i64 (by omega) (by omega)
  have e1 : k - (l.length : Int) < 0 ↔ k < l.length := by omega
  refine runF_eq ?_
  simp +contextual [claws_szIntS, hc.slen, e, e1]
  intros; omega

def zCell : Cell := ⟨0, 0⟩
theorem laws_toGiveCell (h : Heap) (b : Cell) : Flaws_toGiveCell [.v (.agg (fCell.ces b))] h = some (.v (.agg (fCell.ces b)), h) := by
  unfold Flaws_toGiveCell
  refine runF_eq ?_
  simp [claws_toGiveCell, fCell]
theorem laws_toGiveCellS {S : Nat → Prop} (h : Heap) (c : Ce) (l : List Cell) (ho : HOk h) (hc : RdF fCell S h c l) (hl : l.length ≤ 1048576) :
    Flaws_toGiveCellS [.v (.c c)] h = some (.v (.c (.sl (.inr h.nx) 0 l.length .own)), h.push ⟨fCell.all l, 2, true⟩) := by
  unfold Flaws_toGiveCellS
  have A := laws_toGiveCell
  simp only [fCell] at A
  have hz : (List.replicate l.length [.int .i64 0, .int .i64 0]).flatten = fCell.all (List.replicate l.length zCell) := fCell.all_repl _ zCell
  refine runF_eq ?_
  simp [claws_toGiveCellS, hc.slen, hc.noLoc, lim, show (l.length : Int) ≤ 4294967296 by omega, hz]
  refine AW_each l.length (fun i x => x.1 0 = .v (.c c) ∧ x.1 3 = .v (.c (.sl (.inr h.nx) 0 l.length .own)) ∧ x.1 4 = .v (.c (.int .i64 i)) ∧ x.2 = ⟨h.push ⟨fCell.all (l.take i ++ List.replicate (l.length - i) zCell), 2, true⟩, nol⟩) (by simp [St.push]) ?_ ?_
  · rintro i ⟨T, s⟩ hin ⟨h0, h3, h4, rfl⟩
    simp only at h0 h3 h4
    obtain ⟨eb, ep, er, e1, _, e2, e3, e4, e5, e6⟩ := hc.cell hin
    have hne : eb ≠ h.nx := by have := ho.lt e2; omega
    have hlen : (fCell.all (l.take i ++ List.replicate (l.length - i) zCell)).length = l.length * 2 := by rw [fCell.all_length]; simp [fCell]; omega
    have hcut := fCell.all_put (l.take i ++ List.replicate (l.length - i) zCell) (i := i) (by simp; omega) l[i]
    rw [take_repl_put l zCell hin] at hcut
    simp only [fCell] at hcut hlen
    have hw := wrap1 (i := i) (by omega)
    have he2 : (Ce.sl (Sum.inr h.nx) 0 l.length .own).eltAt 2 i = some (.inr h.nx, i * 2) := by simp [Ce.eltAt, hin]
    have hfit : i * 2 + 2 ≤ l.length * 2 := by omega
    simp [claws_toGiveCellS_L0, h0, h3, h4, hc.slen, hin, e1, e2, Heap.push, upd, hne, e3, e4, elaws_toGiveCellS_laws_toGiveCell, A, he2, hlen, hfit, hw, fCell]
    rw [← hcut]
    exact upd_upd _ _ _ _
  · rintro ⟨T, s⟩ ⟨h0, h3, h4, rfl⟩
    simp only at h0 h3 h4
    simp [claws_toGiveCellS_L0, h0, h3, h4, hc.slen]

def eqCell (a b : Cell) : Bool := a.x == b.x && a.y == b.y
theorem eqCell_iff (a b : Cell) : eqCell a b = true ↔ a = b := by
  cases a; cases b
  simp [eqCell, and_assoc]
theorem laws_eqGiveCell (h : Heap) (a b : Cell) : Flaws_eqGiveCell [.v (.agg (fCell.ces a)), .v (.agg (fCell.ces b))] h = some (.v (.c (.bool (eqCell a b))), h) := by
  unfold Flaws_eqGiveCell eqCell
  refine runF_eq ?_
  simp +contextual [claws_eqGiveCell, fCell]

theorem laws_eqGiveCellS {S S' : Nat → Prop} (h : Heap) (c c' : Ce) (l l' : List Cell) (hc : RdF fCell S h c l) (hc' : RdF fCell S' h c' l') :
    ∃ r, Flaws_eqGiveCellS [.v (.c c), .v (.c c')] h = some (.v (.c (.bool r)), h) ∧ (r = true ↔ l = l') := by
  unfold Flaws_eqGiveCellS
  have hl := hc.le
  have A := laws_eqGiveCell
  simp only [fCell] at A
  obtain ⟨v, h', h1, r, rfl, rfl, h2⟩ := runF_of (env := elaws_eqGiveCellS) (code := claws_eqGiveCellS) (rs := [.t 4]) (args := [.v (.c c), .v (.c c')]) (h := h) (K := fun v h' => ∃ r, v = .v (.c (.bool r)) ∧ h' = h ∧ (r = true ↔ l = l')) (by
    by_cases hlen : l.length = l'.length
    · simp [claws_eqGiveCellS, hc.slen, hc'.slen, hc.noLoc, hlen]
      refine AW_for1 l.length (fun i => !eqCell (l.getD i default) (l'.getD i default)) (fun i x => x.1 0 = .v (.c c) ∧ x.1 1 = .v (.c c') ∧ x.1 5 = .v (.c (.int .i64 i)) ∧ x.2 = ⟨h, nol⟩) (by simp) ?_ ?_
      · rintro i ⟨T, s⟩ hin _ ⟨h0, h1, h5, rfl⟩
        simp only at h0 h1 h5
        have hin' : i < l'.length := by omega
        obtain ⟨eb, ep, er, e1, _, e2, e3, e4, e5, e6⟩ := hc.cell hin
        obtain ⟨fb, fp, fr, f1, _, f2, f3, f4, f5, f6⟩ := hc'.cell hin'
        have hw := wrap1 (i := i) (by omega)
        simp +contextual [claws_eqGiveCellS_L0, h0, h1, h5, hc.slen, hin, hin', e1, e2, e3, e4, f1, f2, f3, f4, elaws_eqGiveCellS_laws_eqGiveCell, A, hw]
        rintro hb rfl
        rw [(eqCell_iff _ _).2 rfl] at hb
        cases hb
      · rintro ⟨T, s⟩ hno ⟨h0, h1, h5, rfl⟩
        simp only at h0 h1 h5
        have hll : l = l' := by
          apply List.ext_getElem hlen
          intro j hj hj'
          exact (eqCell_iff _ _).1 (by simpa [hj, hj'] using hno j hj)
        simp [claws_eqGiveCellS_L0, h0, h1, h5, hc.slen, hll]
    · have hne : l ≠ l' := fun e => hlen (by rw [e])
      have : ¬ (l.length : Int) = l'.length := by omega
      simp [claws_eqGiveCellS, hc.slen, hc'.slen, hlen, this, hne])
  exact ⟨r, h1, h2⟩

/-- What the marks write. -/
def mkCell (k : Int) (i : Nat) : Cell := ⟨k + 2 * i, k + 2 * i + 1⟩
def marksCell (k : Int) (n : Nat) : List Cell := (List.range n).map (mkCell k)
theorem marksCell_length (k : Int) (n : Nat) : (marksCell k n).length = n := by simp [marksCell]
theorem marksCell_at (k : Int) (n i : Nat) (h : i < (marksCell k n).length) : (marksCell k n)[i] = mkCell k i := by simp [marksCell]
theorem laws_markGiveCellS (h : Heap) (c : Ce) (l : List Cell) (fp : List Nat) (k : Int) (ho : HOk h) (hc : OwnF fCell h c l fp) (hl : l.length ≤ 1048576) (hk : 0 ≤ k ∧ k ≤ 1152921504606846976) :
    ∃ h', Flaws_markGiveCellS [.v (.c c), .v (.c (.int .i64 k))] h = some (.v (.c (.int .i64 (k + 2 * l.length))), h') ∧ OwnF fCell h' c (marksCell k l.length) fp ∧ Chg fp h h' := by
  unfold Flaws_markGiveCellS
  rcases hc with ⟨rfl, rfl, rfl⟩ | ⟨b, rfl, hb, rfl⟩
  · refine ⟨h, runF_eq ?_, .inl ⟨rfl, rfl, rfl⟩, Chg.refl ho⟩
    simp [claws_markGiveCellS]
    refine AW_each 0 (fun i x => x.1 0 = .v (.c .nils) ∧ x.1 1 = .v (.c (.int .i64 k)) ∧ x.1 5 = .v (.c (.int .i64 0)) ∧ x.2 = ⟨h, nol⟩) (by simp) (by intros; omega) ?_
    rintro ⟨T, s⟩ ⟨h0, h1, h5, rfl⟩
    simp only at h0 h1 h5
    simp [claws_markGiveCellS_L0, h0, h1, h5, Ce.slen]
  · refine ⟨⟨h.nx, upd h.hp b (some ⟨fCell.all (marksCell k l.length), 2, true⟩)⟩, runF_eq ?_, .inr ⟨b, by rw [marksCell_length], by simp [upd, fCell], rfl⟩, Chg.one ho (ho.lt hb) _⟩
    simp [claws_markGiveCellS]
    refine AW_each l.length (fun i x => x.1 0 = .v (.c (.sl (.inr b) 0 l.length .own)) ∧ x.1 1 = .v (.c (.int .i64 (k + 2 * i))) ∧ x.1 5 = .v (.c (.int .i64 i)) ∧ x.2 = ⟨⟨h.nx, upd h.hp b (some ⟨fCell.all ((marksCell k l.length).take i ++ l.drop i), 2, true⟩)⟩, nol⟩) ?_ ?_ ?_
    · have := upd_same hb
      simp only [show fCell.sz = 2 from rfl] at this
      simp [this]
    · rintro i ⟨T, s⟩ hin ⟨h0, h1, h5, rfl⟩
      simp only at h0 h1 h5
      obtain ⟨K0, k0⟩ : ∃ K, K = k + 2 * (i : Int) := ⟨_, rfl⟩
      rw [← k0] at h1
      obtain ⟨K1, k1⟩ : ∃ K, K = K0 + 1 := ⟨_, rfl⟩
      have w0 : IntKind.i64.wrap (K0 + 1) = K1 := by rw [k1]; exact wrap_i64 (by omega) (by omega)
      obtain ⟨K2, k2⟩ : ∃ K, K = K1 + 1 := ⟨_, rfl⟩
      have w1 : IntKind.i64.wrap (K1 + 1) = K2 := by rw [k2]; exact wrap_i64 (by omega) (by omega)
      obtain ⟨L, hL⟩ : ∃ L, L = (marksCell k l.length).take i ++ l.drop i := ⟨_, rfl⟩
      rw [← hL]
      have hiL : i < L.length := by rw [hL]; simp [marksCell]; omega
      have hLi : L[i] = l[i] := by
        simp only [hL]
        rw [List.getElem_append_right (by simp; omega)]
        simp [marksCell, Nat.min_eq_left (Nat.le_of_lt hin)]
      have hlen : (fCell.all L).length = l.length * 2 := by rw [fCell.all_length, hL]; simp [fCell, marksCell]; omega
      have hlenS : ∀ B, (fCell.all (L.set i B)).length = l.length * 2 := by intro B; rw [fCell.all_length, List.length_set, ← fCell.all_length, hlen]
      have s0 := fCell.all_set L (i := i) (k := 0) (by simpa using hiL) (by decide) (b := ⟨K0, l[i].y⟩) (v := .int .i64 K0) (by simp [fCell, hLi])
      simp only [show fCell.sz = 2 from rfl, Nat.add_zero, Nat.add_assoc, Nat.reduceAdd] at s0
      have s1 := fCell.all_set (L.set i ⟨K0, l[i].y⟩) (i := i) (k := 1) (by simpa using hiL) (by decide) (b := ⟨K0, K1⟩) (v := .int .i64 K1) (by simp [fCell])
      rw [List.set_set] at s1
      simp only [show fCell.sz = 2 from rfl, Nat.add_zero, Nat.add_assoc, Nat.reduceAdd] at s1
      have q1 : i * 2 + 1 ≤ l.length * 2 := by omega
      have q2 : i * 2 + 2 ≤ l.length * 2 := by omega
      have g1 : (fCell.all (L.set i ⟨K0, l[i].y⟩)).length = l.length * 2 := hlenS _
      have g2 : (fCell.all (L.set i ⟨K0, K1⟩)).length = l.length * 2 := hlenS _
      have hw := wrap1 (i := i) (by omega)
      have he2 : (Ce.sl (Sum.inr b) 0 l.length .own).eltAt 2 i = some (.inr b, i * 2) := by simp [Ce.eltAt, hin]
      have hend : L.set i ⟨K0, K1⟩ = (marksCell k l.length).take (i + 1) ++ l.drop (i + 1) := by
        rw [hL, ← take_drop_set _ _ hin (by rw [marksCell_length]; omega), marksCell_at]
        simp only [mkCell]
        congr 2 <;> omega
      have hK : K2 = k + 2 * ((i : Int) + 1) := by omega
      simp [claws_markGiveCellS_L0, h0, h1, h5, Ce.slen, hin, he2, upd_upd, hlen, s0, w0, q1, g1, s1, w1, q2, g2, hw]
      exact ⟨hK, by rw [hend]⟩
    · rintro ⟨T, s⟩ ⟨h0, h1, h5, rfl⟩
      simp only at h0 h1 h5
      have e1 : (marksCell k l.length).take l.length = marksCell k l.length := by
        apply List.take_of_length_le
        rw [marksCell_length]; omega
      simp [claws_markGiveCellS_L0, h0, h1, h5, Ce.slen, e1]

theorem laws_toIntS {S : Nat → Prop} (h : Heap) (c : Ce) (l : List Int) (ho : HOk h) (hc : RdF fInt S h c l) (hl : l.length ≤ 1048576) :
    Flaws_toIntS [.v (.c c)] h = some (.v (.c (.sl (.inr h.nx) 0 l.length .own)), h.push ⟨fInt.all l, 1, true⟩) := by
  unfold Flaws_toIntS
  have hz : List.replicate l.length (Ce.int .i64 0) = fInt.all (List.replicate l.length 0) := by rw [← fInt.all_repl l.length 0]; simp [fInt]
  refine runF_eq ?_
  simp [claws_toIntS, hc.slen, hc.noLoc, lim, show (l.length : Int) ≤ 4294967296 by omega, hz]
  refine AW_each l.length (fun i x => x.1 0 = .v (.c c) ∧ x.1 3 = .v (.c (.sl (.inr h.nx) 0 l.length .own)) ∧ x.1 4 = .v (.c (.int .i64 i)) ∧ x.2 = ⟨h.push ⟨fInt.all (l.take i ++ List.replicate (l.length - i) 0), 1, true⟩, nol⟩) (by simp [St.push]) ?_ ?_
  · rintro i ⟨T, s⟩ hin ⟨h0, h3, h4, rfl⟩
    simp only at h0 h3 h4
    obtain ⟨eb, ep, er, e1, _, e2, e3, e5⟩ := hc.int1 hin
    have hne : eb ≠ h.nx := by have := ho.lt e2; omega
    have hlen : (fInt.all (l.take i ++ List.replicate (l.length - i) 0)).length = l.length := by rw [fInt.all_length]; simp [fInt]; omega
    have hcut := fInt.all_put (l.take i ++ List.replicate (l.length - i) 0) (i := i) (by simp; omega) l[i]
    rw [take_repl_put l 0 hin] at hcut
    simp only [fInt] at hcut hlen
    have hw := wrap1 (i := i) (by omega)
    have he2 : (Ce.sl (Sum.inr h.nx) 0 l.length .own).eltAt 1 i = some (.inr h.nx, i) := by simp [Ce.eltAt, hin]
    have hfit : i + 1 ≤ l.length := by omega
    simp at hcut
    simp [claws_toIntS_L0, h0, h3, h4, hc.slen, hin, e1, e2, Heap.push, upd, hne, e3, e5, he2, hlen, hfit, hw, fInt]
    rw [← hcut]
    exact upd_upd _ _ _ _
  · rintro ⟨T, s⟩ ⟨h0, h3, h4, rfl⟩
    simp only at h0 h3 h4
    simp [claws_toIntS_L0, h0, h3, h4, hc.slen]

theorem laws_eqIntS {S S' : Nat → Prop} (h : Heap) (c c' : Ce) (l l' : List Int) (hc : RdF fInt S h c l) (hc' : RdF fInt S' h c' l') :
    ∃ r, Flaws_eqIntS [.v (.c c), .v (.c c')] h = some (.v (.c (.bool r)), h) ∧ (r = true ↔ l = l') := by
  unfold Flaws_eqIntS
  have hl := hc.le
  obtain ⟨v, h', h1, r, rfl, rfl, h2⟩ := runF_of (env := elaws_eqIntS) (code := claws_eqIntS) (rs := [.t 4]) (args := [.v (.c c), .v (.c c')]) (h := h) (K := fun v h' => ∃ r, v = .v (.c (.bool r)) ∧ h' = h ∧ (r = true ↔ l = l')) (by
    by_cases hlen : l.length = l'.length
    · simp [claws_eqIntS, hc.slen, hc'.slen, hc.noLoc, hlen]
      refine AW_for1 l.length (fun i => !decide (l.getD i default = l'.getD i default)) (fun i x => x.1 0 = .v (.c c) ∧ x.1 1 = .v (.c c') ∧ x.1 5 = .v (.c (.int .i64 i)) ∧ x.2 = ⟨h, nol⟩) (by simp) ?_ ?_
      · rintro i ⟨T, s⟩ hin _ ⟨h0, h1, h5, rfl⟩
        simp only at h0 h1 h5
        have hin' : i < l'.length := by omega
        obtain ⟨eb, ep, er, e1, _, e2, e3, e5⟩ := hc.int1 hin
        obtain ⟨fb, fp, fr, f1, _, f2, f3, f5⟩ := hc'.int1 hin'
        have hw := wrap1 (i := i) (by omega)
        by_cases hb : l[i] = l'[i]
        · simp [claws_eqIntS_L0, h0, h1, h5, hc.slen, hin, hin', e1, e2, e5, f1, f2, f5, hw, hb]
        · have hne : l ≠ l' := by rintro rfl; exact hb rfl
          simp [claws_eqIntS_L0, h0, h1, h5, hc.slen, hin, hin', e1, e2, e5, f1, f2, f5, hw, hb, hne]
      · rintro ⟨T, s⟩ hno ⟨h0, h1, h5, rfl⟩
        simp only at h0 h1 h5
        have hll : l = l' := by
          apply List.ext_getElem hlen
          intro j hj hj'
          simpa [hj, hj'] using hno j hj
        simp [claws_eqIntS_L0, h0, h1, h5, hc.slen, hll]
    · have hne : l ≠ l' := fun e => hlen (by rw [e])
      have : ¬ (l.length : Int) = l'.length := by omega
      simp [claws_eqIntS, hc.slen, hc'.slen, hlen, this, hne])
  exact ⟨r, h1, h2⟩
end Go.Abs

/-
  The helpers of the laws for wishes, second part: ways.
-/

namespace Go.Abs
set_option linter.unusedSimpArgs false
set_option linter.unusedVariables false
attribute [local simp] AW_skip AW_exit AW_ret AW_seq AW_block AW_cond CW_ite AW_reg AW_regD AW_regDc RD_nil RD_cons keyEq hasP hasH hasL chkL chkH recK recH inRange lightKey BookC.len BookC.take WishC.len WishC.take RW_nil RW_cons RW_guard GW_t GW_f GW_gt GW_gf GW_tup GY_some GY_tt GY_ff gd_t gd_f pk_t pk_f pk_and pk_or pk_andc pk_orc pk_bool gd_gd SW_some ThenQ_normal ThenQ_exit ThenQ_ret BlockQ_normal BlockQ_exit BlockQ_ret kill_nil kill_cons killT_at killL_at upo_some upo_none ev_t ev_k FinQ_ret FinQ_normal upd_eq upd_ne argsT_zero argsT_succ aop.eq_1 aop_pick aop.eq_3 aop.eq_4 aop.eq_5 aop.eq_6 aop.eq_7 aop.eq_8 aop.eq_9 aop.eq_10 aop.eq_11 aop.eq_12 aop.eq_13 aop.eq_14 aop.eq_15 aop.eq_16 aop.eq_17 aop.eq_18 aop.eq_19 aop.eq_20 aop.eq_21 aop_slice_hi aop_slice_lo aop.eq_23 aop.eq_24 aop.eq_26 aop.eq_27 aop.eq_28 aop.eq_29 aop.eq_31 aop.eq_32 aop_maxs2 aop_mins2 aop_mins3 aop_len aop_iaddr Av.bool? Av.ptr? Av.int? Av.int64? Av.str? Av.agg? ressA resA resOf noLoc_int noLoc_bool noLoc_str noLoc_nils noLoc_nilp noLoc_ptrl noLoc_ptrr noLoc_sll noLoc_slr noLoc_fn noLoc_tc noLoc_tagg noLoc_av noLoc_atup ce_c tv_v cells_c cells_agg noLocs keyLoc evs callA St.set St.get unAv binCe killV_int killV_bool killV_str killV_nils killV_nilp killV_agg killV_no killV_tup killV_ptrl killV_ptrr killV_sll killV_slr killV_fn killV_noLoc fillA repl ptrs List.map
attribute [local congr] GY_congr

theorem toCells' {S : Nat → Prop} (h : Heap) (c : Ce) (l : List Cell) (ho : HOk h) (hc : RdF fCell S h c l) (hl : l.length ≤ 1048576) :
    ∃ c' h' fp, Flaws_toGiveCellS [.v (.c c)] h = some (.v (.c c'), h') ∧ NewF fCell h h' c' l fp := ⟨_, _, _, laws_toGiveCellS h c l ho hc hl, NewF.push ho l _ rfl⟩
theorem toInts' {S : Nat → Prop} (h : Heap) (c : Ce) (l : List Int) (ho : HOk h) (hc : RdF fInt S h c l) (hl : l.length ≤ 1048576) :
    ∃ c' h' fp, Flaws_toIntS [.v (.c c)] h = some (.v (.c c'), h') ∧ NewF fInt h h' c' l fp := ⟨_, _, _, laws_toIntS h c l ho hc hl, NewF.push ho l _ rfl⟩

theorem laws_szGiveWay {S : Nat → Prop} (h : Heap) (c : Ce) (a : List Cell) (k : Int) (hr : RdF fCell S h c a) (hk : 0 ≤ k ∧ k ≤ 1048576) :
    ∃ r, Flaws_szGiveWay [.v (.agg [c]), .v (.c (.int .i64 k))] h = some (.v (.c (.int .i64 r)), h) ∧ Left k r ∧ (0 ≤ r → a.length ≤ 1048576) := by
  unfold Flaws_szGiveWay
  have s := laws_szGiveCellS h c a k hr hk
  by_cases hb : k < a.length
  · rw [if_pos hb] at s
    refine ⟨-1, runF_eq ?_, .inl rfl, by omega⟩
    simp [claws_szGiveWay, hr.noLoc, elaws_szGiveWay_laws_szGiveCellS, s]
  · rw [if_neg hb] at s
    have n : ¬ k - (a.length : Int) < 0 := by omega
    refine ⟨k - a.length, runF_eq ?_, .inr (by omega), fun _ => by omega⟩
    simp [claws_szGiveWay, hr.noLoc, elaws_szGiveWay_laws_szGiveCellS, s, n]
theorem laws_szGiveWayS {S : Nat → Prop} (h : Heap) (c : Ce) (l : List (List Cell)) (hs : List Ce) (k : Int) (hc : RdF fCe S h c hs) (hlen : hs.length = l.length) (hel : ∀ i (hi : i < hs.length) (hi' : i < l.length), RdF fCell S h hs[i] l[i]) (hk : 0 ≤ k ∧ k ≤ 1048576) :
    ∃ r, Flaws_szGiveWayS [.v (.c c), .v (.c (.int .i64 k))] h = some (.v (.c (.int .i64 r)), h) ∧ Left k r ∧ (0 ≤ r → l.length ≤ 1048576 ∧ ∀ a, a ∈ l → a.length ≤ 1048576) := by
  unfold Flaws_szGiveWayS
  have hl := hc.le
  have e := sub_left (n := hs.length) hk hl
  obtain ⟨v, h', h1, r, rfl, rfl, h2⟩ := runF_of (env := elaws_szGiveWayS) (code := claws_szGiveWayS) (rs := [.t 4]) (args := [.v (.c c), .v (.c (.int .i64 k))]) (h := h) (K := fun v h' => ∃ r, v = .v (.c (.int .i64 r)) ∧ h' = h ∧ Left k r ∧ (0 ≤ r → l.length ≤ 1048576 ∧ ∀ a, a ∈ l → a.length ≤ 1048576)) (by
    by_cases hb : k < hs.length
    · have e1 : k - (hs.length : Int) < 0 := by omega
      simp [claws_szGiveWayS, hc.slen, e, e1]
      exact .inl rfl
    · have e1 : ¬ k - (hs.length : Int) < 0 := by omega
      simp [claws_szGiveWayS, hc.slen, hc.noLoc, e, e1]
      refine AW_loop (fun i x => i ≤ hs.length ∧ x.1 0 = .v (.c c) ∧ x.1 5 = .v (.c (.int .i64 i)) ∧ x.2 = ⟨h, nol⟩ ∧ (∀ j (hj : j < l.length), j < i → l[j].length ≤ 1048576) ∧ ∃ r, x.1 1 = .v (.c (.int .i64 r)) ∧ 0 ≤ r ∧ r ≤ k) hs.length (by simp; omega) ?_
      rintro i ⟨T, s⟩ hi ⟨_, h0, h5, rfl, hsm, r, h1, hr⟩
      simp only at h0 h1 h5
      by_cases hin : i < hs.length
      · obtain ⟨eb, ep, er, e1, _, e2, e3, e5, e4⟩ := hc.ce1 hin
        have hin' : i < l.length := by omega
        have hw1 := wrap1 (i := i) (by omega)
        obtain ⟨r', A1, A2, A3⟩ := laws_szGiveWay h hs[i] l[i] r (hel i hin hin') (by omega)
        rcases A2 with rfl | A2
        · simp [claws_szGiveWayS_L0, h0, h1, h5, hc.slen, hin, e1, e2, e3, e4, elaws_szGiveWayS_laws_szGiveWay, A1, hw1]
          exact .inl rfl
        · have A4 : ¬ r' < 0 := by omega
          simp [claws_szGiveWayS_L0, h0, h1, h5, hc.slen, hin, e1, e2, e3, e4, elaws_szGiveWayS_laws_szGiveWay, A1, A4, hw1]
          refine ⟨hin, fun j hj hji => ?_, by omega, by omega⟩
          by_cases hje : j = i
          · subst hje; exact A3 A2.1
          · exact hsm j hj (by omega)
      · have hie : i = hs.length := by omega
        subst hie
        simp [claws_szGiveWayS_L0, h0, h1, h5, hc.slen]
        refine ⟨.inr hr, fun _ => ⟨by omega, fun a ha => ?_⟩⟩
        obtain ⟨j, hj, rfl⟩ := List.getElem_of_mem ha
        exact hsm j hj (by omega))
  exact ⟨r, h1, h2⟩


def zWay : Ce := .nils
theorem laws_toGiveWay {S : Nat → Prop} (h : Heap) (c : Ce) (a : List Cell) (ho : HOk h) (hr : RdF fCell S h c a) (ht : a.length ≤ 1048576) :
    ∃ c' h' f, Flaws_toGiveWay [.v (.agg [c])] h = some (.v (.agg [c']), h') ∧ NewF fCell h h' c' a f := by
  unfold Flaws_toGiveWay
  obtain ⟨c1, h1, f1, t1, m1⟩ := toCells' h c a ho hr ht
  refine ⟨c1, h1, f1, runF_eq ?_, m1⟩
  simp [claws_toGiveWay, hr.noLoc, m1.own.noLoc, elaws_toGiveWay_laws_toGiveCellS, t1]

theorem laws_toGiveWayS {S : Nat → Prop} (h : Heap) (c : Ce) (l : List (List Cell)) (hs : List Ce) (ho : HOk h) (hc : RdF fCe S h c hs) (hlen : hs.length = l.length) (hel : ∀ i (hi : i < hs.length) (hi' : i < l.length), RdF fCell S h hs[i] l[i]) (hl : l.length ≤ 1048576) (ht : ∀ a, a ∈ l → a.length ≤ 1048576) :
    ∃ c' h' fp, Flaws_toGiveWayS [.v (.c c)] h = some (.v (.c c'), h') ∧ OwnWayS h' c' l fp ∧ Fr h h' ∧ ∀ x, x ∈ fp → h.nx ≤ x := by
  unfold Flaws_toGiveWayS
  have hz : List.replicate hs.length Ce.nils = fCe.all (List.replicate hs.length zWay) := by rw [← fCe.all_repl hs.length zWay]; simp [fCe, zWay]
  have f0 := Fr.push ho ⟨fCe.all (List.replicate hs.length zWay), 1, true⟩
  obtain ⟨v, h', h1, c', fp, rfl, h2⟩ := runF_of (env := elaws_toGiveWayS) (code := claws_toGiveWayS) (rs := [.t 2]) (args := [.v (.c c)]) (h := h) (K := fun v h' => ∃ c' fp, v = .v (.c c') ∧ OwnWayS h' c' l fp ∧ Fr h h' ∧ ∀ x, x ∈ fp → h.nx ≤ x) (by
    simp [claws_toGiveWayS, hc.slen, hc.noLoc, lim, show (hs.length : Int) ≤ 4294967296 by omega, hz]
    refine AW_each hs.length (fun i x => x.1 0 = .v (.c c) ∧ x.1 3 = .v (.c (.sl (.inr h.nx) 0 hs.length .own)) ∧ x.1 4 = .v (.c (.int .i64 i)) ∧ Fr h x.2.h ∧ h.nx < x.2.h.nx ∧ ∃ (bs : List Ce) (fps : List (List Nat)), bs.length = i ∧ fps.length = i ∧ x.2.h.hp h.nx = some ⟨fCe.all (bs ++ List.replicate (hs.length - i) zWay), 1, true⟩ ∧ (∀ (j : Nat) (b : Ce) (a : List Cell) (f : List Nat), bs[j]? = some b → l[j]? = some a → fps[j]? = some f → OwnWay x.2.h b a f) ∧ fps.flatten.Nodup ∧ ∀ y, y ∈ fps.flatten → h.nx < y) ?_ ?_ ?_
    · simp [St.push, f0, push_nx]
      exact push_at _ _
    · rintro i ⟨T, ⟨h', lc⟩⟩ hin ⟨h0, h3, h4, fr, hnx, bs, fps, q1, q2, q3, q4, q5, q6⟩
      simp only at h0 h3 h4 fr hnx q3 q4
      have hin' : i < l.length := by omega
      have hc' := hc.keep ho fr
      obtain ⟨eb, ep, er, e1, _, e2, e3, e5, e4⟩ := hc'.ce1 hin
      have hr := (hel i hin hin').keep ho fr
      obtain ⟨cc, h'', f, t1, n1⟩ := laws_toGiveWay h' hs[i] l[i] fr.ok hr (ht _ (List.getElem_mem hin'))
      have o1 : OwnWay h'' cc l[i] f := n1.own
      have fr2 := n1.fr
      have nd := n1.own.nodup
      have ge := n1.ge
      have hw := wrap1 (i := i) (by omega)
      have he2 : (Ce.sl (Sum.inr h.nx) 0 hs.length .own).eltAt 1 i = some (.inr h.nx, i) := by simp [Ce.eltAt, hin]
      have q3' : h''.hp h.nx = some ⟨fCe.all (bs ++ List.replicate (hs.length - i) zWay), 1, true⟩ := by rw [fr2.hp _ hnx]; exact q3
      have hlen2 : (fCe.all (bs ++ List.replicate (hs.length - i) zWay)).length = hs.length := by rw [fCe.all_length]; simp [fCe]; omega
      have hfit : i + 1 ≤ hs.length := by omega
      have hput := fCe.all_put (bs ++ List.replicate (hs.length - i) zWay) (i := i) (by simp; omega) cc
      have hset : (bs ++ List.replicate (hs.length - i) zWay).set i cc = (bs ++ [cc]) ++ List.replicate (hs.length - (i + 1)) zWay := by
        rw [List.set_append_right _ _ (by omega), q1, Nat.sub_self, show hs.length - i = (hs.length - (i + 1)) + 1 by omega, List.replicate_succ, List.append_assoc]
        rfl
      rw [hset] at hput
      have hces : fCe.ces cc = [cc] := rfl
      rw [hces] at hput
      simp only [show fCe.sz = 1 from rfl] at hput
      simp at hput
      have hnx2 := fr2.nx
      simp [claws_toGiveWayS_L0, h0, h3, h4, hc.slen, hin, e1, e2, e3, e4, elaws_toGiveWayS_laws_toGiveWay, t1, n1.own.noLoc, he2, q3', hlen2, hfit, hw, hput]
      have fr3 := fr.trans fr2
      have c1 := Chg.one fr2.ok (show h.nx < h''.nx by omega) (some ⟨fCe.all (bs ++ cc :: List.replicate (hs.length - (i + 1)) zWay), 1, true⟩)
      refine ⟨⟨Nat.le_trans fr3.nx c1.nx, fun x hx => ?_, c1.ok⟩, by omega, bs ++ [cc], by simp [q1], fps ++ [f], by simp [q2], by simp [upd], ?_, ?_, ?_⟩
      · rw [c1.hp x (Nat.lt_of_lt_of_le hx fr3.nx) (by simp; omega)]
        exact fr3.hp x hx
      · intro j b a f' hb ha hf
        by_cases hj : j < i
        · rw [List.getElem?_append_left (by omega)] at hb hf
          have old := q4 j b a f' hb ha hf
          refine okWay.frame (fun x hx => ?_) old
          have hxm : x ∈ fps.flatten := List.mem_flatten.2 ⟨f', List.mem_of_getElem? hf, hx⟩
          have hx1 := okWay.lt fr.ok old x hx
          have hx2 := q6 x hxm
          show upd h''.hp h.nx _ x = h'.hp x
          simp only [upd]
          rw [if_neg (by omega)]
          exact fr2.hp x hx1
        · have hjl := (List.getElem?_eq_some_iff.1 hb).1
          simp [q1] at hjl
          have hji : j = i := by omega
          subst hji
          rw [List.getElem?_append_right (by omega), q1, Nat.sub_self] at hb
          rw [List.getElem?_append_right (by omega), q2, Nat.sub_self] at hf
          rw [List.getElem?_eq_getElem hin'] at ha
          simp at hb ha hf
          subst hb ha hf
          refine okWay.frame (fun x hx => ?_) o1
          have := ge x hx
          show upd h''.hp h.nx _ x = h''.hp x
          simp only [upd]
          rw [if_neg (by omega)]
      · rw [List.flatten_append, List.nodup_append]
        refine ⟨q5, by simpa using nd, fun x hx y hy => ?_⟩
        simp at hy
        have := ge y hy
        obtain ⟨f', hf', hxf⟩ := List.mem_flatten.1 hx
        obtain ⟨j, hj, rfl⟩ := List.getElem_of_mem hf'
        have := okWay.lt fr.ok (q4 j (bs[j]'(by omega)) (l[j]'(by omega)) fps[j] (List.getElem?_eq_getElem _) (List.getElem?_eq_getElem _) (List.getElem?_eq_getElem hj)) x hxf
        omega
      · intro y g hg hy
        rw [List.mem_append] at hg
        rcases hg with hg | hg
        · exact q6 y (List.mem_flatten.2 ⟨g, hg, hy⟩)
        · simp at hg
          subst hg
          have := ge y hy
          omega
    · rintro ⟨T, ⟨h', lc⟩⟩ ⟨h0, h3, h4, fr, hnx, bs, fps, q1, q2, q3, q4, q5, q6⟩
      simp only at h0 h3 h4 fr hnx q3 q4
      simp at q3
      simp [claws_toGiveWayS_L0, h0, h3, h4, hc.slen]
      refine ⟨h.nx :: fps.flatten, ⟨bs, fps, [h.nx], .inr ⟨h.nx, by rw [q1], q3, rfl⟩, by omega, by omega, q4, rfl, ?_⟩, fr, fun x hx => ?_⟩
      · rw [List.nodup_cons]
        exact ⟨fun hm => by have := q6 _ hm; omega, q5⟩
      · simp only [List.mem_cons] at hx
        rcases hx with rfl | hx
        · exact Nat.le_refl _
        · exact Nat.le_of_lt (q6 x hx))
  exact ⟨c', h', fp, h1, h2⟩

theorem laws_eqGiveWay {S S' : Nat → Prop} (h : Heap) (c c' : Ce) (a a' : List Cell) (hr : RdF fCell S h c a) (hr' : RdF fCell S' h c' a') :
    ∃ r, Flaws_eqGiveWay [.v (.agg [c]), .v (.agg [c'])] h = some (.v (.c (.bool r)), h) ∧ (r = true ↔ a = a') := by
  unfold Flaws_eqGiveWay
  obtain ⟨r1, e1, i1⟩ := laws_eqGiveCellS h c c' _ _ hr hr'
  refine ⟨r1, runF_eq ?_, i1⟩
  cases r1 <;> simp [claws_eqGiveWay, hr.noLoc, hr'.noLoc, elaws_eqGiveWay_laws_eqGiveCellS, e1]

theorem laws_eqGiveWayS {S S' : Nat → Prop} (h : Heap) (c c' : Ce) (l l' : List (List Cell)) (hs hs' : List Ce) (hc : RdF fCe S h c hs) (hlen : hs.length = l.length) (hel : ∀ i (hi : i < hs.length) (hi' : i < l.length), RdF fCell S h hs[i] l[i])
    (hc' : RdF fCe S' h c' hs') (hlen' : hs'.length = l'.length) (hel' : ∀ i (hi : i < hs'.length) (hi' : i < l'.length), RdF fCell S' h hs'[i] l'[i]) :
    ∃ r, Flaws_eqGiveWayS [.v (.c c), .v (.c c')] h = some (.v (.c (.bool r)), h) ∧ (r = true ↔ l = l') := by
  unfold Flaws_eqGiveWayS
  have hl := hc.le
  obtain ⟨v, h', h1, r, rfl, rfl, h2⟩ := runF_of (env := elaws_eqGiveWayS) (code := claws_eqGiveWayS) (rs := [.t 4]) (args := [.v (.c c), .v (.c c')]) (h := h) (K := fun v h' => ∃ r, v = .v (.c (.bool r)) ∧ h' = h ∧ (r = true ↔ l = l')) (by
    by_cases hll : hs.length = hs'.length
    · simp [claws_eqGiveWayS, hc.slen, hc'.slen, hc.noLoc, hll]
      refine AW_loop (fun i x => i ≤ hs.length ∧ x.1 0 = .v (.c c) ∧ x.1 1 = .v (.c c') ∧ x.1 5 = .v (.c (.int .i64 i)) ∧ x.2 = ⟨h, nol⟩ ∧ ∀ j, j < i → l[j]? = l'[j]?) hs.length (by simp) ?_
      rintro i ⟨T, s⟩ hi ⟨_, h0, h1, h5, rfl, heq⟩
      simp only at h0 h1 h5
      by_cases hin : i < hs.length
      · have hin' : i < hs'.length := by omega
        have hil : i < l.length := by omega
        have hil' : i < l'.length := by omega
        obtain ⟨eb, ep, er, e1, _, e2, e3, e5, e4⟩ := hc.ce1 hin
        obtain ⟨fb, fp, fr, f1, _, f2, f3, f5, f4⟩ := hc'.ce1 hin'
        have hw := wrap1 (i := i) (by omega)
        obtain ⟨r, A1, A2⟩ := laws_eqGiveWay h hs[i] hs'[i] l[i] l'[i] (hel i hin hil) (hel' i hin' hil')
        cases r
        · have hne : l ≠ l' := by
            rintro rfl
            have := A2.2 rfl
            cases this
          simp [claws_eqGiveWayS_L0, h0, h1, h5, hc.slen, hin, hin', e1, e2, e3, e4, f1, f2, f3, f4, elaws_eqGiveWayS_laws_eqGiveWay, A1, hw, hne]
        · have hbe := A2.1 rfl
          simp [claws_eqGiveWayS_L0, h0, h1, h5, hc.slen, hin, hin', e1, e2, e3, e4, f1, f2, f3, f4, elaws_eqGiveWayS_laws_eqGiveWay, A1, hw]
          refine ⟨hin, fun j hj => ?_⟩
          by_cases hji : j = i
          · subst hji
            rw [List.getElem?_eq_getElem hil, List.getElem?_eq_getElem hil', hbe]
          · exact heq j (by omega)
      · have hie : i = hs.length := by omega
        subst hie
        have : l = l' := by
          apply List.ext_getElem?
          intro j
          by_cases hj : j < l.length
          · exact heq j (by omega)
          · rw [List.getElem?_eq_none (by omega), List.getElem?_eq_none (by omega)]
        simp [claws_eqGiveWayS_L0, h0, h1, h5, hc.slen, this]
    · have hne : l ≠ l' := fun e => hll (by rw [hlen, hlen', e])
      have : ¬ (hs.length : Int) = hs'.length := by omega
      simp [claws_eqGiveWayS, hc.slen, hc'.slen, hll, this, hne])
  exact ⟨r, h1, h2⟩
end Go.Abs
