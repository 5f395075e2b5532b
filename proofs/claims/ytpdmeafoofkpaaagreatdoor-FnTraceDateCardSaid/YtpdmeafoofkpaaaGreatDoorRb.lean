/- Closed facts on the program's head. -/
import Derived.Test.YtpdmeafoofkpaaaGreatDoorRa
import Derived.SevenTiedAt
set_option linter.unusedVariables false
set_option linter.unusedSimpArgs false

namespace Go.Proofs.YtpdmeafoofkpaaaGreatDoor
open Go Go.Iv
theorem wordsE : behindMainWord (wordsSigns Tryz.prog.initOrder.toList) = "cut".toList :: (behindMainWord (wordsSigns Tryz.prog.initOrder.toList)).tail := by kernel_rfl
theorem lays0 : Tryz.prog.laysLater = false := by kernel_rfl
theorem refl0 : Tryz.prog.bearsReflect = false := by kernel_rfl
theorem door1 : Tryz.prog.doorFits [] = true := by kernel_rfl
theorem strip0 (t : List (List Char)) : stripLifts liftWords ("cut".toList :: t) = ([], "cut".toList :: t) := by
  simp [liftWords, stripLifts]
theorem enterB (P : Program) (t : List (List Char)) (h : behindMainWord (wordsSigns P.initOrder.toList) = "cut".toList :: t) (h1 : P.laysLater = false) (h2 : P.bearsReflect = false) (h3 : P.doorFits [] = true) : P.mayEnter = true := by
  unfold Program.mayEnter
  rw [h]
  simp only [strip0 t, h1, h2, h3]
  simp
theorem headB (P : Program) (t : List (List Char)) (h : behindMainWord (wordsSigns P.initOrder.toList) = "cut".toList :: t) : P.headLifts = [] := by
  unfold Program.headLifts
  rw [h]
  simp only [strip0 t]
  simp
theorem finalB (P : Program) (t : List (List Char)) (h : behindMainWord (wordsSigns P.initOrder.toList) = "cut".toList :: t) : P.liftsFinal = false := by
  unfold Program.liftsFinal
  rw [headB P t h, h]
  simp
theorem makeB (P : Program) (t : List (List Char)) (h : behindMainWord (wordsSigns P.initOrder.toList) = "cut".toList :: t) : P.make = some .cut := by
  unfold Program.make
  rw [h]
  have e1 : (("cut".toList == "gc".toList) || ("cut".toList == "spec".toList)) = false := by decide
  have e2 : ("cut".toList == "cut".toList) = true := by decide
  simp only [e1, e2, Bool.true_or, if_true, Bool.false_eq_true, if_false]
theorem enterT : Tryz.pinned.checked.prog.mayEnter = true := enterB Tryz.prog _ wordsE lays0 refl0 door1
theorem headT : Tryz.pinned.checked.prog.headLifts = [] := headB Tryz.prog _ wordsE
theorem finalT : Tryz.pinned.checked.prog.liftsFinal = false := finalB Tryz.prog _ wordsE
theorem makeT : Tryz.pinned.checked.prog.make = some .cut := makeB Tryz.prog _ wordsE
theorem heardT : Tryz.pinned.checked.prog.stopsHeard = true := (by kernel_rfl : Tryz.prog.stopsHeard = true)
end Go.Proofs.YtpdmeafoofkpaaaGreatDoor
