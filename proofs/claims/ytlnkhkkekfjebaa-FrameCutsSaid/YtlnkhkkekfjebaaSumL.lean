/-
  The laws of layer 2: their walks.
-/
import Derived.Test.YtlnkhkkekfjebaaSumW
import Derived.Test.YtlnkhkkekfjebaaBase2
import Derived.Lib.SlBytesConst
set_option linter.unusedSimpArgs false
set_option linter.unusedVariables false
namespace Go.Proofs.Ytlnkhkkekfjebaa
open Go.RowKit

theorem begun_sum : ofF [[49, 50, 51, 52], [53, 54, 55, 56, 57]] = 3808858755 := by decide +kernel

theorem conv_const (w : World) (C : Array Value) (n c k : Nat) (h : k = w.heap.size) :
    (convert 27 27 (.slice (some ⟨k, 0, none⟩) n c)).run Try.prog (w.alloc (.cells C 5)) = .ok (.slice (some ⟨k, 0, none⟩) n c) (w.alloc (.cells C 5 (C.size, C.size + 1))) := by
  subst h
  exact Lib.run_convert_bytes_const (P := Try.prog) w 27 5 C n c Try.underlying27 Try.underlying5
/-- A constant's row, marked or not, reads as its bytes. -/
theorem By.lit {w : World} {S : Nat → Prop} {g : Nat} {bs : List UInt8} {n c : Nat} {e : TypeId} {fr : Nat × Nat} (h : w.heap[g]? = some (.cells (cs8 bs).toArray e fr)) (hs : S g) (hn : n = bs.length) (hc : n ≤ c) (hm : c ≤ maxLen) :
    By w S (.slice (some ⟨g, 0, none⟩) n c) bs := by
  subst hn
  refine ⟨_, c, rfl, hc, hm, by simp [cs8], fun _ => ⟨_, rfl, hs, fun j u hu => ?_⟩⟩
  have e0 : (⟨g, 0, none⟩ : Addr).add j = ⟨g, j, none⟩ := by unfold Addr.add; split <;> simp_all
  rw [e0, cell_of_row w g j _ e fr h]
  simpa using hu

def TrueP (w : World) (e : Ending) (w' : World) : Prop := e = .returned (.bool true) ∧ Same (fun _ => True) w w'

set_option maxRecDepth 100000 in
set_option maxHeartbeats 400000 in
theorem sumbegun_any (w : World) : Calls Try.prog 26 #[] w (TrueP w) := by
  have kc := conv_const
  go_enter Try.func26, Try.ntmps26
  go_wp2_with (go_at_call 30; refine stopAt ?_)
  unfold Hid
  refine (of_any _ [[49, 50, 51, 52], [53, 54, 55, 56, 57]] (fun _ => True) _ ?_).mono ?_
  · refine ⟨_, _, [.slice (some ⟨w.heap.size, 0, none⟩) 4 4, .slice (some ⟨w.heap.size + 1, 0, none⟩) 5 5], rfl, by simp, by simp [maxLen], ⟨rfl, fun _ => ⟨_, rfl, trivial, fun j u hu => ?_⟩⟩, fun i u x hu hx => ?_⟩
    · have h2 := Row.new ((w.alloc (Obj.cells #[Value.int IntKind.u8 49, Value.int IntKind.u8 50, Value.int IntKind.u8 51, Value.int IntKind.u8 52] 5 (4, 5))).alloc (Obj.cells #[Value.int IntKind.u8 53, Value.int IntKind.u8 54, Value.int IntKind.u8 55, Value.int IntKind.u8 56, Value.int IntKind.u8 57] 5 (5, 6))) 27 [.slice (some ⟨w.heap.size, 0, none⟩) 4 4, .slice (some ⟨w.heap.size + 1, 0, none⟩) 5 5]
      simp only [World.size_alloc] at h2
      have e0 : (⟨w.heap.size + 1 + 1, 0, none⟩ : Addr).add j = ⟨w.heap.size + 1 + 1, j, none⟩ := by unfold Addr.add; split <;> simp_all
      rw [e0]
      exact (h2.cell j).trans hu
    · match i, hu, hx with
      | 0, hu, hx =>
        simp at hu hx
        subst hu hx
        exact By.lit (n := 4) (c := 4) (fr := (4, 5)) (e := 5) (heap_old (heap_old (heap_now rfl))) trivial rfl (by omega) (by simp [maxLen])
      | 1, hu, hx =>
        simp at hu hx
        subst hu hx
        exact By.lit (n := 5) (c := 5) (fr := (5, 6)) (e := 5) (heap_old (heap_now (by simp))) trivial rfl (by omega) (by simp [maxLen])
      | i + 2, hu, _ => simp at hu
  · rintro e w' ⟨rfl, rfl⟩
    rw [begun_sum]
    go_wp2
    go_ret
    exact ⟨rfl, (((Same.refl _ _).alloc _).alloc _).alloc _⟩
end Go.Proofs.Ytlnkhkkekfjebaa
