/-
  The closed facts of the whole program that read the head word of the cut.
-/
import Derived.Test.YtdfojghhpdkpfaaGreatDoorRows
import Derived.JoinedOf
import Derived.KernelRfl
set_option linter.unusedSimpArgs false
set_option linter.unusedVariables false
namespace Go.Proofs.YtdfojghhpdkpfaaGreatDoor
open Go
def ordL : List Char := [104, 97, 114, 110, 101, 115, 115, 32, 56, 52, 101, 51, 53, 100, 56, 57, 102, 52, 54, 57, 49, 97, 97, 55, 102, 56, 49, 99, 56, 49, 99, 101, 57, 101, 97, 50, 98, 57, 49, 54, 57, 50, 53, 101, 97, 101, 48, 102, 54, 55, 102, 49, 48, 54, 99, 53, 53, 54, 56, 100, 48, 56, 51, 99, 48, 56, 54, 50, 57, 98, 52, 54, 32, 99, 117, 116, 32, 97, 116, 32, 97, 110, 116, 105, 112, 111, 100, 101, 47, 97, 110, 116, 105, 112, 111, 100, 101, 108, 97, 119, 49, 55, 46, 84, 114, 101, 101, 68, 101, 101, 112, 32, 97, 110, 116, 105, 112, 111, 100, 101, 47, 97, 110, 116, 105, 112, 111, 100, 101, 108, 97, 119, 49, 55, 46, 84, 114, 101, 101, 66, 114, 97, 99, 107, 101, 116, 115, 32, 97, 110, 116, 105, 112, 111, 100, 101, 47, 97, 110, 116, 105, 112, 111, 100, 101, 108, 97, 119, 49, 55, 46, 84, 114, 101, 101, 80, 114, 105, 110, 116, 115, 32, 97, 110, 116, 105, 112, 111, 100, 101, 47, 97, 110, 116, 105, 112, 111, 100, 101, 108, 97, 119, 49, 55, 46, 84, 114, 101, 101, 66, 97, 99, 107, 32, 97, 110, 116, 105, 112, 111, 100, 101, 47, 97, 110, 116, 105, 112, 111, 100, 101, 108, 97, 119, 49, 55, 46, 84, 114, 101, 101, 65, 103, 97, 105, 110, 32, 97, 110, 116, 105, 112, 111, 100, 101, 47, 97, 110, 116, 105, 112, 111, 100, 101, 108, 97, 119, 49, 55, 46, 84, 114, 101, 101, 67, 97, 115, 101].map Char.ofNat
set_option maxRecDepth 100000 in
theorem ord_eq : Tryz.prog.initOrder = String.ofList ordL := by kernel_rfl
theorem ord_list : Tryz.prog.initOrder.toList = ordL := by rw [ord_eq]; exact String.toList_ofList
theorem P_words : behindMainWord (wordsSigns Tryz.prog.initOrder.toList) = behindMainWord (wordsSigns ordL) := by rw [ord_list]
theorem P_later : Tryz.prog.laysLater = false := by kernel_rfl
theorem P_reflect : Tryz.prog.bearsReflect = false := by kernel_rfl
def ordT : List (List Char) := (behindMainWord (wordsSigns ordL)).tail
def cutW : List Char := [99, 117, 116].map Char.ofNat
theorem P_hd : (behindMainWord (wordsSigns ordL)).head? = some cutW := by kernel_rfl
theorem hd_tl {a : List Char} : ∀ {l : List (List Char)}, l.head? = some a → l = a :: l.tail
  | [], h => by simp at h
  | b :: l, h => by simp at h; rw [h]; rfl
theorem P_w : behindMainWord (wordsSigns ordL) = cutW :: ordT := hd_tl P_hd
theorem P_lifts (r : List (List Char)) : stripLifts liftWords (cutW :: r) = ([], cutW :: r) := by kernel_rfl
theorem w_gc : (cutW == "gc".toList) = false := by kernel_rfl
theorem w_spec : (cutW == "spec".toList) = false := by kernel_rfl
theorem w_carried : (cutW == "carried".toList) = false := by kernel_rfl
theorem w_cut : (cutW == "cut".toList) = true := by kernel_rfl
theorem may_gen (P : Program) (t : List (List Char)) (hl : P.laysLater = false) (hr : P.bearsReflect = false) (hd : P.doorFits [] = true) (h : behindMainWord (wordsSigns P.initOrder.toList) = cutW :: t) : P.mayEnter = true := by
  have e : stripLifts liftWords (cutW :: t) = ([], cutW :: t) := by kernel_rfl
  unfold Program.mayEnter
  rw [h]
  simp only [e, hl, hr, hd]
  simp only [w_gc, w_spec, w_carried, w_cut, List.contains_nil, List.head?_cons, Option.some_beq_some, Bool.not_false, Bool.or_true, Bool.and_true, Bool.true_and, Bool.false_and, Bool.or_false, Bool.false_or]
theorem make_gen (P : Program) (t : List (List Char)) (h : behindMainWord (wordsSigns P.initOrder.toList) = cutW :: t) : P.make = some .cut := by
  unfold Program.make
  rw [h]
  kernel_rfl
theorem final_gen (P : Program) (t : List (List Char)) (h : behindMainWord (wordsSigns P.initOrder.toList) = cutW :: t) : P.liftsFinal = false := by
  have e : stripLifts liftWords (cutW :: t) = ([], cutW :: t) := by kernel_rfl
  have hh : P.headLifts = [] := by
    unfold Program.headLifts
    rw [h, e]
    kernel_rfl
  unfold Program.liftsFinal
  rw [h, hh]
  simp only [List.head?_cons, Option.some_beq_some, w_carried, Bool.false_and, List.contains_nil, Bool.or_false]
theorem P_door : Tryz.prog.doorFits [] = true := by kernel_rfl
theorem P_cut : behindMainWord (wordsSigns Tryz.prog.initOrder.toList) = cutW :: ordT := P_words.trans P_w
theorem P_may : Tryz.prog.mayEnter = true := may_gen _ _ P_later P_reflect P_door P_cut
theorem P_final : Tryz.prog.liftsFinal = false := final_gen _ _ P_cut
theorem P_make : Tryz.prog.make = some .cut := make_gen _ _ P_cut
end Go.Proofs.YtdfojghhpdkpfaaGreatDoor
