/-
  The closed facts of the whole program that read the head word of the cut.
-/
import Derived.Test.YtlnkhkkekfjebaaRows
import Derived.JoinedOf
import Derived.KernelRfl
namespace Go.Proofs.Ytlnkhkkekfjebaa
open Go
def ordL : List Char := [104, 97, 114, 110, 101, 115, 115, 32, 53, 98, 53, 102, 56, 51, 54, 99, 55, 49, 53, 48, 51, 97, 102, 101, 98, 57, 56, 54, 99, 49, 54, 56, 50, 57, 100, 100, 53, 57, 52, 100, 98, 48, 99, 48, 48, 98, 100, 102, 52, 54, 53, 51, 55, 102, 100, 53, 53, 97, 100, 57, 50, 101, 57, 51, 56, 56, 52, 57, 52, 49, 48, 52, 32, 99, 117, 116, 32, 97, 116, 32, 97, 110, 116, 105, 112, 111, 100, 101, 47, 97, 110, 116, 105, 112, 111, 100, 101, 108, 97, 119, 50, 46, 83, 117, 109, 65, 108, 108, 32, 97, 110, 116, 105, 112, 111, 100, 101, 47, 97, 110, 116, 105, 112, 111, 100, 101, 108, 97, 119, 50, 46, 83, 117, 109, 67, 117, 116, 115, 32, 97, 110, 116, 105, 112, 111, 100, 101, 47, 97, 110, 116, 105, 112, 111, 100, 101, 108, 97, 119, 50, 46, 83, 117, 109, 66, 117, 114, 115, 116, 115, 32, 97, 110, 116, 105, 112, 111, 100, 101, 47, 97, 110, 116, 105, 112, 111, 100, 101, 108, 97, 119, 50, 46, 83, 117, 109, 76, 105, 110, 101, 115, 32, 97, 110, 116, 105, 112, 111, 100, 101, 47, 97, 110, 116, 105, 112, 111, 100, 101, 108, 97, 119, 50, 46, 83, 117, 109, 79, 110, 119, 97, 114, 100, 32, 97, 110, 116, 105, 112, 111, 100, 101, 47, 97, 110, 116, 105, 112, 111, 100, 101, 108, 97, 119, 52, 46, 68, 105, 115, 107, 84, 97, 105, 108, 115, 32, 97, 110, 116, 105, 112, 111, 100, 101, 47, 97, 110, 116, 105, 112, 111, 100, 101, 108, 97, 119, 52, 46, 68, 105, 115, 107, 76, 97, 115, 116, 115, 32, 97, 110, 116, 105, 112, 111, 100, 101, 47, 97, 110, 116, 105, 112, 111, 100, 101, 108, 97, 119, 52, 46, 68, 105, 115, 107, 65, 108, 108, 32, 97, 110, 116, 105, 112, 111, 100, 101, 47, 97, 110, 116, 105, 112, 111, 100, 101, 108, 97, 119, 52, 46, 68, 105, 115, 107, 65, 114, 109, 101, 100, 32, 97, 110, 116, 105, 112, 111, 100, 101, 47, 97, 110, 116, 105, 112, 111, 100, 101, 108, 97, 119, 51, 46, 70, 114, 97, 109, 101, 87, 114, 105, 116, 101, 115, 32, 97, 110, 116, 105, 112, 111, 100, 101, 47, 97, 110, 116, 105, 112, 111, 100, 101, 108, 97, 119, 51, 46, 70, 114, 97, 109, 101, 82, 101, 97, 100, 115, 32, 97, 110, 116, 105, 112, 111, 100, 101, 47, 97, 110, 116, 105, 112, 111, 100, 101, 108, 97, 119, 51, 46, 70, 114, 97, 109, 101, 67, 117, 116, 115, 32, 97, 110, 116, 105, 112, 111, 100, 101, 47, 97, 110, 116, 105, 112, 111, 100, 101, 108, 97, 119, 51, 46, 70, 114, 97, 109, 101, 84, 117, 114, 110, 101, 100, 32, 97, 110, 116, 105, 112, 111, 100, 101, 47, 97, 110, 116, 105, 112, 111, 100, 101, 108, 97, 119, 51, 46, 70, 114, 97, 109, 101, 65, 103, 97, 105, 110, 32, 97, 110, 116, 105, 112, 111, 100, 101, 47, 97, 110, 116, 105, 112, 111, 100, 101, 108, 97, 119, 51, 46, 70, 114, 97, 109, 101, 70, 111, 114, 103, 101, 100, 32, 97, 110, 116, 105, 112, 111, 100, 101, 47, 97, 110, 116, 105, 112, 111, 100, 101, 108, 97, 119, 52, 46, 68, 105, 115, 107, 67, 111, 112, 105, 101, 115, 32, 97, 110, 116, 105, 112, 111, 100, 101, 47, 97, 110, 116, 105, 112, 111, 100, 101, 108, 97, 119, 52, 46, 68, 105, 115, 107, 78, 111, 110, 101, 32, 97, 110, 116, 105, 112, 111, 100, 101, 47, 97, 110, 116, 105, 112, 111, 100, 101, 108, 97, 119, 53, 46, 87, 97, 108, 80, 105, 99, 107, 115, 32, 97, 110, 116, 105, 112, 111, 100, 101, 47, 97, 110, 116, 105, 112, 111, 100, 101, 108, 97, 119, 53, 46, 87, 97, 108, 76, 97, 115, 116, 32, 97, 110, 116, 105, 112, 111, 100, 101, 47, 97, 110, 116, 105, 112, 111, 100, 101, 108, 97, 119, 53, 46, 87, 97, 108, 76, 97, 115, 116, 115, 32, 97, 110, 116, 105, 112, 111, 100, 101, 47, 97, 110, 116, 105, 112, 111, 100, 101, 108, 97, 119, 53, 46, 87, 97, 108, 71, 111, 101, 115, 32, 97, 110, 116, 105, 112, 111, 100, 101, 47, 97, 110, 116, 105, 112, 111, 100, 101, 108, 97, 119, 53, 46, 87, 97, 108, 65, 108, 108, 32, 97, 110, 116, 105, 112, 111, 100, 101, 47, 97, 110, 116, 105, 112, 111, 100, 101, 108, 97, 119, 53, 46, 87, 97, 108, 78, 111, 110, 101].map Char.ofNat
set_option maxRecDepth 100000 in
theorem ord_eq : Try.prog.initOrder = String.ofList ordL := by kernel_rfl
theorem ord_list : Try.prog.initOrder.toList = ordL := by rw [ord_eq]; exact String.toList_ofList
theorem P_words : behindMainWord (wordsSigns Try.prog.initOrder.toList) = behindMainWord (wordsSigns ordL) := by rw [ord_list]
theorem P_later : Try.prog.laysLater = false := by kernel_rfl
theorem P_reflect : Try.prog.bearsReflect = false := by kernel_rfl
def ordT : List (List Char) := (behindMainWord (wordsSigns ordL)).tail
def cutW : List Char := [99, 117, 116].map Char.ofNat
theorem P_hd : (behindMainWord (wordsSigns ordL)).head? = some cutW := by kernel_rfl
theorem hd_tl {a : List Char} : ∀ {l : List (List Char)}, l.head? = some a → l = a :: l.tail
  | [], h => by simp at h
  | b :: l, h => by simp at h; rw [h]; rfl
theorem P_w : behindMainWord (wordsSigns ordL) = cutW :: ordT := hd_tl P_hd
theorem P_lifts (r : List (List Char)) : stripLifts liftWords (cutW :: r) = ([], cutW :: r) := by kernel_rfl
theorem w_gc : (cutW == "gc".toList) = false := by kernel_rfl
theorem w_spec : (cutW == "spec".toList) = false := by kernel_rfl
theorem w_carried : (cutW == "carried".toList) = false := by kernel_rfl
theorem w_cut : (cutW == "cut".toList) = true := by kernel_rfl
theorem may_gen (P : Program) (t : List (List Char)) (hl : P.laysLater = false) (hr : P.bearsReflect = false) (hd : P.doorFits [] = true) (h : behindMainWord (wordsSigns P.initOrder.toList) = cutW :: t) : P.mayEnter = true := by
  have e : stripLifts liftWords (cutW :: t) = ([], cutW :: t) := by kernel_rfl
  unfold Program.mayEnter
  rw [h]
  simp only [e, hl, hr, hd]
  simp only [w_gc, w_spec, w_carried, w_cut, List.contains_nil, List.head?_cons, Option.some_beq_some, Bool.not_false, Bool.or_true, Bool.and_true, Bool.true_and, Bool.false_and, Bool.or_false, Bool.false_or]
theorem make_gen (P : Program) (t : List (List Char)) (h : behindMainWord (wordsSigns P.initOrder.toList) = cutW :: t) : P.make = some .cut := by
  unfold Program.make
  rw [h]
  kernel_rfl
theorem final_gen (P : Program) (t : List (List Char)) (h : behindMainWord (wordsSigns P.initOrder.toList) = cutW :: t) : P.liftsFinal = false := by
  have e : stripLifts liftWords (cutW :: t) = ([], cutW :: t) := by kernel_rfl
  have hh : P.headLifts = [] := by
    unfold Program.headLifts
    rw [h, e]
    kernel_rfl
  unfold Program.liftsFinal
  rw [h, hh]
  simp only [List.head?_cons, Option.some_beq_some, w_carried, Bool.false_and, List.contains_nil, Bool.or_false]
theorem P_door : Try.prog.doorFits [] = true := by kernel_rfl
theorem P_cut : behindMainWord (wordsSigns Try.prog.initOrder.toList) = cutW :: ordT := P_words.trans P_w
theorem P_may : Try.prog.mayEnter = true := may_gen _ _ P_later P_reflect P_door P_cut
theorem P_final : Try.prog.liftsFinal = false := final_gen _ _ P_cut
theorem P_make : Try.prog.make = some .cut := make_gen _ _ P_cut
end Go.Proofs.Ytlnkhkkekfjebaa
