/-
  Short names, so that a function's code takes less room.
-/
import Derived.Test.YtenccnpdaldkfaaAbs26
namespace Go.Abs
abbrev KI (n : Int) : Opd := .k (.v (.c (.int .i64 n)))
abbrev KT : Opd := .k (.v (.c (.bool true)))
abbrev KF : Opd := .k (.v (.c (.bool false)))
abbrev KN : Opd := .k (.v (.c .nils))
abbrev MV (d s : Nat) : AO := ⟨some d, .mov (.t s), none⟩
abbrev MF (d : Nat) : AO := ⟨some d, .mov KF, none⟩
abbrev LD (d s : Nat) : AO := ⟨some d, .load1 (.t s), none⟩
abbrev FA (d o s : Nat) : AO := ⟨some d, .faddr o (.t s), none⟩
abbrev IA (d n s i : Nat) : AO := ⟨some d, .iaddr n (.t s) (.t i), none⟩
abbrev LE (d s : Nat) : AO := ⟨some d, .len (.t s), none⟩
abbrev OP (d : Nat) (o : AOp) : AO := ⟨some d, o, none⟩
abbrev OX (o : AOp) : AO := ⟨none, o, none⟩
abbrev OT (d g : Nat) (o : AOp) : AO := ⟨some d, o, some (g, true)⟩
abbrev OF (d g : Nat) (o : AOp) : AO := ⟨some d, o, some (g, false)⟩
abbrev Z6 : List Ce := [.int .i64 0, .int .i64 0, .int .i64 0, .int .i64 0, .int .i64 0, .int .i64 0]
end Go.Abs
