/-
  The words, plain models and short walks of mvcc that the claims share (written by bundle.py out of: MvS7). No condition.
-/
import Derived.Test.YtoldelocfmpccaaMvS5H
set_option linter.unusedSimpArgs false
set_option linter.unusedVariables false
namespace Go.Proofs.Ytoldelocfmpccaa
open Go.RowKit

theorem wpList_cutV {P : Program} {t e : TypeId} {size bytes : Nat} {z : Value} (T : SlT P t e size bytes z) {α : Type} {f : α → List Value} {S : Nat → Prop} {l : List α} {w : World} {ops : Array Oper} {rest : List Oper} {o : Oper} {a : Act} {Q : Exit → Act → World → Prop} (hgd : o.guard = none) (x b : Operand)
    (ho : o.op = .slice t x (some b) none none) {A : Option Addr} {n c i : Nat} {I : Int} (hx : a.eval x = .slice A n c) (hb : a.eval b = .int .i64 I) (hI : I = (i : Int)) (hf : ∀ x, (f x).length = size) (h : RowW f size e w S (.slice A n c) l) (hi : i ≤ l.length)
    (hK : ∀ A' n' c', n' = l.length - i → RowW f size e w S (.slice A' n' c') (l.drop i) → wpList P ops Q rest (a.put o.dst (.slice A' n' c')) w) : wpList P ops Q (o :: rest) a w := by
  obtain ⟨ti, h2, h3, h4, h5⟩ := info_parts T.info
  subst hI
  have hn : n = l.length := by
    obtain ⟨A', c', h1, _⟩ := h
    injection h1
  subst hn
  have he : P.elem t = e := by simp [Program.elem, T.und]
  have hr : (Instr.slice t (.slice A l.length c) (some (.int .i64 (i : Int))) none none).run P w = .ok (.slice (if c = i then A else A.map (·.add (i * size))) (l.length - i) (c - i)) w := by
    rw [run_slice_l w t A l.length c (by rw [he]; exact T.und) .i64 (i : Int) (by omega) (by omega), he]
    simp [sizeOf, typeInfo, h2, h4, sliced, Result.andThen]
  have hk := hK _ _ _ rfl (h.cut hf hi)
  refine wpList_plain hgd fun K hK' => ?_
  have hr2 : (Instr.sliceAt t (.slice A l.length c) (some (.int .i64 (i : Int))) none none).run P w = .ok (.slice (if c = i then A else A.map (·.add (i * size))) (l.length - i) (c - i)) w := by
    rw [run_sliceAt_slice w t _ _ _ _ (by rw [he]; exact T.und)]
    exact hr
  unfold Oper.wp
  simp only [execOp, ho, hx, hb, Option.map_some, Option.map_none, Sem.run_bind, Sem.run_pure, hr2, Result.andThen_ok]
  exact hK' _ _ hk
end Go.Proofs.Ytoldelocfmpccaa
