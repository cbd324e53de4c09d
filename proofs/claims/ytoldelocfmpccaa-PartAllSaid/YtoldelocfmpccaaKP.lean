/-
  The closed facts of the whole program that read the head word of the cut.
-/
import Derived.Test.YtoldelocfmpccaaRows
import Derived.JoinedOf
import Derived.KernelRfl
set_option linter.unusedSimpArgs false
set_option linter.unusedVariables false
namespace Go.Proofs.Ytoldelocfmpccaa
open Go
def ordL : List Char := [104, 97, 114, 110, 101, 115, 115, 32, 50, 52, 101, 50, 49, 102, 97, 98, 54, 99, 99, 50, 53, 51, 99, 97, 102, 56, 56, 97, 52, 51, 56, 56, 51, 53, 48, 53, 101, 101, 97, 100, 48, 102, 55, 56, 51, 97, 102, 49, 101, 49, 100, 97, 49, 57, 100, 52, 102, 98, 51, 51, 53, 98, 51, 99, 48, 51, 99, 56, 49, 49, 98, 101, 32, 99, 117, 116, 32, 97, 116, 32, 97, 110, 116, 105, 112, 111, 100, 101, 47, 97, 110, 116, 105, 112, 111, 100, 101, 108, 97, 119, 56, 46, 77, 118, 99, 99, 80, 97, 115, 116, 32, 97, 110, 116, 105, 112, 111, 100, 101, 47, 97, 110, 116, 105, 112, 111, 100, 101, 108, 97, 119, 56, 46, 77, 118, 99, 99, 84, 117, 114, 110, 115, 32, 97, 110, 116, 105, 112, 111, 100, 101, 47, 97, 110, 116, 105, 112, 111, 100, 101, 108, 97, 119, 56, 46, 77, 118, 99, 99, 65, 112, 97, 114, 116, 32, 97, 110, 116, 105, 112, 111, 100, 101, 47, 97, 110, 116, 105, 112, 111, 100, 101, 108, 97, 119, 56, 46, 77, 118, 99, 99, 70, 114, 101, 101, 32, 97, 110, 116, 105, 112, 111, 100, 101, 47, 97, 110, 116, 105, 112, 111, 100, 101, 108, 97, 119, 56, 46, 77, 118, 99, 99, 84, 114, 105, 109, 115, 32, 97, 110, 116, 105, 112, 111, 100, 101, 47, 97, 110, 116, 105, 112, 111, 100, 101, 108, 97, 119, 56, 46, 77, 118, 99, 99, 83, 99, 97, 110, 115, 32, 97, 110, 116, 105, 112, 111, 100, 101, 47, 97, 110, 116, 105, 112, 111, 100, 101, 108, 97, 119, 56, 46, 77, 118, 99, 99, 65, 108, 108, 32, 97, 110, 116, 105, 112, 111, 100, 101, 47, 97, 110, 116, 105, 112, 111, 100, 101, 108, 97, 119, 56, 46, 77, 118, 99, 99, 65, 110, 121, 32, 97, 110, 116, 105, 112, 111, 100, 101, 47, 97, 110, 116, 105, 112, 111, 100, 101, 108, 97, 119, 50, 51, 46, 80, 97, 114, 116, 65, 108, 108, 32, 97, 110, 116, 105, 112, 111, 100, 101, 47, 97, 110, 116, 105, 112, 111, 100, 101, 108, 97, 119, 50, 51, 46, 80, 97, 114, 116, 65, 110, 121, 32, 97, 110, 116, 105, 112, 111, 100, 101, 47, 97, 110, 116, 105, 112, 111, 100, 101, 108, 97, 119, 50, 51, 46, 80, 97, 114, 116, 82, 101, 97, 100, 115, 32, 97, 110, 116, 105, 112, 111, 100, 101, 47, 97, 110, 116, 105, 112, 111, 100, 101, 108, 97, 119, 50, 51, 46, 80, 97, 114, 116, 67, 108, 111, 115, 101, 115, 32, 97, 110, 116, 105, 112, 111, 100, 101, 47, 97, 110, 116, 105, 112, 111, 100, 101, 108, 97, 119, 50, 51, 46, 80, 97, 114, 116, 68, 101, 99, 105, 100, 101, 115, 32, 97, 110, 116, 105, 112, 111, 100, 101, 47, 97, 110, 116, 105, 112, 111, 100, 101, 108, 97, 119, 50, 51, 46, 80, 97, 114, 116, 79, 110, 99, 101, 32, 97, 110, 116, 105, 112, 111, 100, 101, 47, 97, 110, 116, 105, 112, 111, 100, 101, 108, 97, 119, 50, 51, 46, 80, 97, 114, 116, 76, 111, 99, 107, 115, 32, 97, 110, 116, 105, 112, 111, 100, 101, 47, 97, 110, 116, 105, 112, 111, 100, 101, 108, 97, 119, 50, 51, 46, 80, 97, 114, 116, 69, 112, 111, 99, 104, 115, 32, 97, 110, 116, 105, 112, 111, 100, 101, 47, 97, 110, 116, 105, 112, 111, 100, 101, 108, 97, 119, 50, 51, 46, 80, 97, 114, 116, 83, 116, 111, 112, 115, 32, 97, 110, 116, 105, 112, 111, 100, 101, 47, 97, 110, 116, 105, 112, 111, 100, 101, 108, 97, 119, 50, 51, 46, 80, 97, 114, 116, 83, 101, 116, 116, 108, 101, 100].map Char.ofNat
set_option maxRecDepth 100000 in
theorem ord_eq : Try.prog.initOrder = String.ofList ordL := by kernel_rfl
theorem ord_list : Try.prog.initOrder.toList = ordL := by rw [ord_eq]; exact String.toList_ofList
theorem P_words : behindMainWord (wordsSigns Try.prog.initOrder.toList) = behindMainWord (wordsSigns ordL) := by rw [ord_list]
theorem P_later : Try.prog.laysLater = false := by kernel_rfl
theorem P_reflect : Try.prog.bearsReflect = false := by kernel_rfl
def ordT : List (List Char) := (behindMainWord (wordsSigns ordL)).tail
def cutW : List Char := [99, 117, 116].map Char.ofNat
theorem P_hd : (behindMainWord (wordsSigns ordL)).head? = some cutW := by kernel_rfl
theorem hd_tl {a : List Char} : ∀ {l : List (List Char)}, l.head? = some a → l = a :: l.tail
  | [], h => by simp at h
  | b :: l, h => by simp at h; rw [h]; rfl
theorem P_w : behindMainWord (wordsSigns ordL) = cutW :: ordT := hd_tl P_hd
theorem P_lifts (r : List (List Char)) : stripLifts liftWords (cutW :: r) = ([], cutW :: r) := by kernel_rfl
theorem w_gc : (cutW == "gc".toList) = false := by kernel_rfl
theorem w_spec : (cutW == "spec".toList) = false := by kernel_rfl
theorem w_carried : (cutW == "carried".toList) = false := by kernel_rfl
theorem w_cut : (cutW == "cut".toList) = true := by kernel_rfl
theorem may_gen (P : Program) (t : List (List Char)) (hl : P.laysLater = false) (hr : P.bearsReflect = false) (hd : P.doorFits [] = true) (h : behindMainWord (wordsSigns P.initOrder.toList) = cutW :: t) : P.mayEnter = true := by
  have e : stripLifts liftWords (cutW :: t) = ([], cutW :: t) := by kernel_rfl
  unfold Program.mayEnter
  rw [h]
  simp only [e, hl, hr, hd]
  simp only [w_gc, w_spec, w_carried, w_cut, List.contains_nil, List.head?_cons, Option.some_beq_some, Bool.not_false, Bool.or_true, Bool.and_true, Bool.true_and, Bool.false_and, Bool.or_false, Bool.false_or]
theorem make_gen (P : Program) (t : List (List Char)) (h : behindMainWord (wordsSigns P.initOrder.toList) = cutW :: t) : P.make = some .cut := by
  unfold Program.make
  rw [h]
  kernel_rfl
theorem final_gen (P : Program) (t : List (List Char)) (h : behindMainWord (wordsSigns P.initOrder.toList) = cutW :: t) : P.liftsFinal = false := by
  have e : stripLifts liftWords (cutW :: t) = ([], cutW :: t) := by kernel_rfl
  have hh : P.headLifts = [] := by
    unfold Program.headLifts
    rw [h, e]
    kernel_rfl
  unfold Program.liftsFinal
  rw [h, hh]
  simp only [List.head?_cons, Option.some_beq_some, w_carried, Bool.false_and, List.contains_nil, Bool.or_false]
theorem P_door : Try.prog.doorFits [] = true := by kernel_rfl
theorem P_cut : behindMainWord (wordsSigns Try.prog.initOrder.toList) = cutW :: ordT := P_words.trans P_w
theorem P_may : Try.prog.mayEnter = true := may_gen _ _ P_later P_reflect P_door P_cut
theorem P_final : Try.prog.liftsFinal = false := final_gen _ _ P_cut
theorem P_make : Try.prog.make = some .cut := make_gen _ _ P_cut
end Go.Proofs.Ytoldelocfmpccaa
