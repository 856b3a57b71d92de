/-
  The head of the program's dump: its words, read once (a row's closed facts lean on them).
-/
import Derived.Test.YtenccnpdaldkfaaRows
import Derived.WalkKit
import Derived.ProofKit
namespace Go.Proofs.Ytenccnpdaldkfaa.Head
set_option maxRecDepth 100000
def signs : List Char := List.map Char.ofNat [104, 97, 114, 110, 101, 115, 115, 32, 48, 99, 100, 56, 100, 55, 102, 52, 98, 100, 99, 51, 48, 57, 56, 99, 49, 97, 55, 57, 53, 101, 53, 49, 53, 54, 50, 53, 52, 97, 56, 55, 57, 98, 99, 55, 100, 53, 102, 53, 53, 101, 56, 102, 51, 52, 102, 56, 49, 56, 52, 49, 56, 99, 49, 55, 98, 102, 54, 97, 54, 54, 52, 102, 32, 99, 117, 116, 32, 97, 116, 32, 108, 111, 111, 112, 46, 101, 120, 97, 109, 112, 108, 101, 47, 108, 97, 112, 103, 105, 118, 101, 47, 108, 97, 119, 115, 46, 70, 110, 69, 120, 97, 99, 116, 67, 111, 110, 115, 116, 97, 110, 116, 115, 32, 108, 111, 111, 112, 46, 101, 120, 97, 109, 112, 108, 101, 47, 108, 97, 112, 103, 105, 118, 101, 47, 108, 97, 119, 115, 46, 70, 110, 69, 120, 97, 99, 116, 71, 105, 118, 101, 78, 101, 97, 114, 32, 108, 111, 111, 112, 46, 101, 120, 97, 109, 112, 108, 101, 47, 108, 97, 112, 103, 105, 118, 101, 47, 108, 97, 119, 115, 46, 70, 110, 69, 120, 97, 99, 116, 71, 105, 118, 101, 67, 117, 116, 32, 108, 111, 111, 112, 46, 101, 120, 97, 109, 112, 108, 101, 47, 108, 97, 112, 103, 105, 118, 101, 47, 108, 97, 119, 115, 46, 70, 110, 69, 120, 97, 99, 116, 71, 105, 118, 101, 84, 117, 98, 101, 79, 107, 32, 108, 111, 111, 112, 46, 101, 120, 97, 109, 112, 108, 101, 47, 108, 97, 112, 103, 105, 118, 101, 47, 108, 97, 119, 115, 46, 70, 110, 67, 117, 116, 32, 108, 111, 111, 112, 46, 101, 120, 97, 109, 112, 108, 101, 47, 108, 97, 112, 103, 105, 118, 101, 47, 108, 97, 119, 115, 46, 70, 110, 69, 120, 97, 99, 116, 71, 105, 118, 101, 84, 117, 98, 101, 79, 102, 32, 108, 111, 111, 112, 46, 101, 120, 97, 109, 112, 108, 101, 47, 108, 97, 112, 103, 105, 118, 101, 47, 108, 97, 119, 115, 46, 70, 110, 69, 120, 97, 99, 116, 71, 105, 118, 101, 87, 105, 115, 104, 79, 107, 32, 108, 111, 111, 112, 46, 101, 120, 97, 109, 112, 108, 101, 47, 108, 97, 112, 103, 105, 118, 101, 47, 108, 97, 119, 115, 46, 70, 110, 69, 120, 97, 99, 116, 71, 105, 118, 101, 66, 111, 111, 107, 79, 107, 32, 108, 111, 111, 112, 46, 101, 120, 97, 109, 112, 108, 101, 47, 108, 97, 112, 103, 105, 118, 101, 47, 108, 97, 119, 115, 46, 70, 110, 69, 120, 97, 99, 116, 71, 105, 118, 101, 70, 114, 101, 101, 32, 108, 111, 111, 112, 46, 101, 120, 97, 109, 112, 108, 101, 47, 108, 97, 112, 103, 105, 118, 101, 47, 108, 97, 119, 115, 46, 70, 110, 69, 120, 97, 99, 116, 71, 105, 118, 101, 69, 97, 114, 108, 105, 101, 115, 116, 32, 108, 111, 111, 112, 46, 101, 120, 97, 109, 112, 108, 101, 47, 108, 97, 112, 103, 105, 118, 101, 47, 108, 97, 119, 115, 46, 70, 110, 69, 120, 97, 99, 116, 71, 105, 118, 101, 66, 97, 114, 115, 32, 108, 111, 111, 112, 46, 101, 120, 97, 109, 112, 108, 101, 47, 108, 97, 112, 103, 105, 118, 101, 47, 108, 97, 119, 115, 46, 70, 110, 69, 120, 97, 99, 116, 71, 105, 118, 101, 72, 101, 97, 114, 32, 108, 111, 111, 112, 46, 101, 120, 97, 109, 112, 108, 101, 47, 108, 97, 112, 103, 105, 118, 101, 47, 108, 97, 119, 115, 46, 70, 110, 69, 120, 97, 99, 116, 71, 105, 118, 101, 84, 105, 99, 107, 32, 108, 111, 111, 112, 46, 101, 120, 97, 109, 112, 108, 101, 47, 108, 97, 112, 103, 105, 118, 101, 47, 108, 97, 119, 115, 46, 70, 110, 69, 120, 97, 99, 116, 71, 105, 118, 101, 65, 109, 101, 110, 100, 32, 108, 111, 111, 112, 46, 101, 120, 97, 109, 112, 108, 101, 47, 108, 97, 112, 103, 105, 118, 101, 47, 108, 97, 119, 115, 46, 70, 110, 66, 97, 114, 115, 32, 108, 111, 111, 112, 46, 101, 120, 97, 109, 112, 108, 101, 47, 108, 97, 112, 103, 105, 118, 101, 47, 108, 97, 119, 115, 46, 70, 110, 84, 105, 99, 107, 32, 108, 111, 111, 112, 46, 101, 120, 97, 109, 112, 108, 101, 47, 108, 97, 112, 103, 105, 118, 101, 47, 108, 97, 119, 115, 46, 70, 110, 69, 120, 97, 99, 116, 71, 105, 118, 101, 66, 101, 115, 116, 32, 108, 111, 111, 112, 46, 101, 120, 97, 109, 112, 108, 101, 47, 108, 97, 112, 103, 105, 118, 101, 47, 108, 97, 119, 115, 46, 70, 110, 65, 109, 101, 110, 100, 32, 108, 111, 111, 112, 46, 101, 120, 97, 109, 112, 108, 101, 47, 108, 97, 112, 103, 105, 118, 101, 47, 108, 97, 119, 115, 46, 70, 110, 66, 101, 115, 116, 32, 108, 111, 111, 112, 46, 101, 120, 97, 109, 112, 108, 101, 47, 108, 97, 112, 103, 105, 118, 101, 47, 108, 97, 119, 115, 46, 70, 110, 69, 120, 97, 99, 116, 71, 105, 118, 101, 67, 104, 111, 105, 99, 101, 115]
theorem io : Try.prog.initOrder = String.ofList signs := by kernel_rfl
theorem ios : Try.prog.initOrder.toList = signs := by rw [io]; exact String.toList_ofList
theorem ws : (behindMainWord (wordsSigns signs)).take 2 = ["cut".toList, "at".toList] := by kernel_rfl

theorem strip_cut (r : List (List Char)) : stripLifts liftWords ("cut".toList :: r) = ([], "cut".toList :: r) := by
  simp only [liftWords, stripLifts]
  repeat rw [if_neg (by decide)]
theorem head_cut : ∃ r, behindMainWord (wordsSigns signs) = "cut".toList :: r := by
  have h : (behindMainWord (wordsSigns signs)).head? = some "cut".toList := by kernel_rfl
  cases hb : behindMainWord (wordsSigns signs) with
  | nil => rw [hb] at h; cases h
  | cons a r =>
    rw [hb] at h
    simp only [List.head?_cons, Option.some.injEq] at h
    exact ⟨r, by rw [h]⟩
theorem headLifts_of {P : Program} {l : List Char} {r : List (List Char)} (h : P.initOrder.toList = l) (h3 : behindMainWord (wordsSigns l) = "cut".toList :: r) : P.headLifts = [] := by
  unfold Program.headLifts
  rw [h, h3, strip_cut]
  simp
theorem lifts_of {P : Program} {l : List Char} {r : List (List Char)} (h : P.initOrder.toList = l) (h3 : behindMainWord (wordsSigns l) = "cut".toList :: r) : P.liftsFinal = false := by
  unfold Program.liftsFinal
  have e : ((some "cut".toList : Option (List Char)) == some "carried".toList) = false := by decide
  simp only [h, headLifts_of h h3, h3, List.head?_cons, e]
  rfl
theorem make_of {P : Program} {l : List Char} {r : List (List Char)} (h : P.initOrder.toList = l) (h3 : behindMainWord (wordsSigns l) = "cut".toList :: r) : P.make = some .cut := by
  unfold Program.make
  rw [h, h3]
  simp only
  rw [if_neg (by decide), if_pos (by simp)]
theorem enter_of {P : Program} {l : List Char} {r : List (List Char)} (h : P.initOrder.toList = l) (h3 : behindMainWord (wordsSigns l) = "cut".toList :: r) (h4 : P.laysLater = false) (h5 : P.bearsReflect = false) (h6 : P.doorFits [] = true) : P.mayEnter = true := by
  unfold Program.mayEnter
  rw [h, h3]
  simp only
  rw [strip_cut]
  simp [h4, h5, h6]
theorem lifts : Try.prog.liftsFinal = false := head_cut.elim fun _ h => lifts_of ios h
theorem make : Try.prog.make = some .cut := head_cut.elim fun _ h => make_of ios h
theorem enter : Try.prog.mayEnter = true := head_cut.elim fun _ h => enter_of ios h (by kernel_rfl) (by kernel_rfl) (by kernel_rfl)
end Go.Proofs.Ytenccnpdaldkfaa.Head
