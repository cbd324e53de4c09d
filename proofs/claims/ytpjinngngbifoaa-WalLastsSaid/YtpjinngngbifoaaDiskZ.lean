/-
  The walks of package disk, more: a new disk; the power.
-/
import Derived.Test.YtpjinngngbifoaaDiskY
import Derived.Maps.RangeWalk
set_option linter.unusedSimpArgs false
set_option linter.unusedVariables false
namespace Go.Proofs.Ytpjinngngbifoaa
open Go.RowKit Go.ChangeMaps Go.MapKept

theorem stopIns {w : World} {ops : Array Oper} {rest : List Oper} {o : Oper} {a : Act} {Q : Exit → Act → World → Prop} {t : TypeId} {m x v : Operand}
    (_ho : o.op = .insert t m x v) (h : Hid (wpList Try.prog ops Q (o :: rest) a w)) : wpList Try.prog ops Q (o :: rest) a w := h
theorem run_ins {w : World} {r : Nat} {es : Array MapEntry} {clock : Nat} (hb : w.heap[r]? = some (.map es clock)) (f : Int) (v : Value) (hfn : Instr.findNow (.int .i64) (.int .i64 f) es.toList 0 = some none) :
    (Instr.mapUpdate 72 (.map (some r)) (.int .i64 f) v).run Try.prog w = .ok () (setBlock w r (.map (es.push ⟨.int .i64 f, v, clock⟩) (clock + 1))) := by
  have hk : ∀ e, (Instr.checkKey e 10000 3 (.int .i64 f)).run Try.prog w = .ok () w := fun e => run_checkKey Try.underlying3 (key_int f) e 9999
  have hff : (Instr.findKey 3 (.int .i64 f) es.toList).run Try.prog w = .ok none w := run_findKey Try.underlying3 hfn
  have hg := Go.MapKept.run_getObj_map (P := Try.prog) hb
  have ho := fun o => Go.MapKept.run_setObj_map (P := Try.prog) o hb
  simp [Instr.mapUpdate, run_underlying Try.underlying72, hg, hk, hff, ho, setBlock, Result.andThen]
/-- A new key laid into the map of files, at the operation. -/
theorem wpList_ins {w : World} {ops : Array Oper} {rest : List Oper} {o : Oper} {a : Act} {Q : Exit → Act → World → Prop} (hgd : o.guard = none) (m x v : Operand)
    (hop : o.op = Op.insert 72 m x v ∨ o.op = Op.mapUpdate 72 m x v) (r : Nat) (f : Int) (v' : Value) (hm : a.eval m = .map (some r)) (hx : a.eval x = .int .i64 f) (hv : a.eval v = v')
    {es : Array MapEntry} {clock : Nat} (hb : w.heap[r]? = some (.map es clock)) (hfn : Instr.findNow (.int .i64) (.int .i64 f) es.toList 0 = some none)
    (hK : wpList Try.prog ops Q rest (a.put o.dst undef) (setBlock w r (.map (es.push ⟨.int .i64 f, v', clock⟩) (clock + 1)))) :
    wpList Try.prog ops Q (o :: rest) a w := by
  refine wpList_plain hgd fun K' hK' => ?_
  unfold Oper.wp
  rcases hop with hop | hop <;> simp [execOp, hop, hm, hx, hv, run_ins hb f v' hfn, Result.andThen] <;> exact hK' _ _ hK

def NewPost (w : World) (e : Ending) (w' : World) : Prop := ∃ g r, e = .returned (ptr g) ∧ w.heap.size ≤ g ∧ w.heap.size ≤ r ∧ DiskAt w' g r (fun _ => False) DiskM.new ∧ Same (fun _ => True) w w'
theorem dnew_any (w : World) : Calls Try.prog 12 #[] w (NewPost w) := by
  have hmm := @run_makeMap Try.prog
  go_enter Try.func12, Try.ntmps12
  go_wp2_with (with_reducible refine stopIns rfl ?_)
  unfold Hid
  refine wpList_ins (es := #[]) (clock := 0) rfl (.tmp 1) (.const (.int .i64 0)) (.tmp 2) (.inl rfl) w.heap.size 0 _ rfl rfl rfl (heap_alloc_new w _) rfl ?_
  generalize hW : setBlock _ _ _ = W1
  go_wp2_with (with_reducible refine stopIns rfl ?_)
  unfold Hid
  have hW1 : W1.heap[w.heap.size]? = some (.map #[⟨.int .i64 0, .agg #[.slice none 0 0, .int .i64 0], 0⟩] 1) := by rw [← hW]; exact heap_setBlock _ (by simp)
  have hS1 : Same (fun _ => True) w W1 := hW ▸ ((Same.refl _ _).alloc _).trans' (same_setBlock _ _ _) (fun k hk _ => by show k ≠ w.heap.size; omega)
  have hz1 : w.heap.size + 1 = W1.heap.size := by rw [← hW]; simp [setBlock]
  clear hW
  refine wpList_ins rfl (.tmp 1) (.const (.int .i64 1)) (.tmp 3) (.inl rfl) w.heap.size 1 _ rfl rfl rfl hW1 rfl ?_
  generalize hW2 : setBlock _ _ _ = W2
  have hW2' : W2.heap[w.heap.size]? = some (mapOf false (.slice none 0 0) (.slice none 0 0) 0 0 0 1 2) := by rw [← hW2]; exact heap_setBlock _ (by omega)
  have hS2 : Same (fun _ => True) w W2 := hW2 ▸ hS1.trans' (same_setBlock _ _ _) (fun k hk _ => by show k ≠ w.heap.size; omega)
  have hz2 : w.heap.size + 1 = W2.heap.size := by rw [← hW2]; simpa [setBlock] using hz1
  clear hW2 hW1 hS1 hz1
  go_wp2
  go_ret
  have hnil : ∀ w : World, By w (fun _ => False) (.slice none 0 0) [] := fun w => ⟨none, 0, rfl, by simp, by simp [maxLen], Sl.nil _ _ _ _⟩
  refine ⟨W2.heap.size, w.heap.size, rfl, by omega, Nat.le_refl _, ⟨Row.new _ _ _, by simp, by simp; omega, by omega, fun k h => h.elim, false, _, _, 0, 1, 2, (heap_old hW2').trans rfl, by omega, by omega, by omega, hnil _, hnil _⟩, hS2.alloc _⟩
end Go.Proofs.Ytpjinngngbifoaa
