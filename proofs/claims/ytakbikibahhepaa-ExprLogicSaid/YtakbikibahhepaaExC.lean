/-
  Readings of the laws' arguments: values, rows, trees, tables.
-/
import Derived.Test.YtakbikibahhepaaExW12
import Derived.Test.YtakbikibahhepaaCod
import Derived.OpenShut
set_option linter.unusedSimpArgs false
set_option linter.unusedVariables false
namespace Go.Proofs.Ytakbikibahhepaa
open Go.RowKit Go.ChangeShapes Go.WideShapes Go.ChangeAt

def cI : Codec Try.prog 3 Int := cInt .i64 Try.underlying3 (by kernel_rfl)
def cJ : Codec Try.prog 2 Int := cInt .i64 Try.underlying2 (by kernel_rfl)
def cO : Codec Try.prog 4 Bool := cBool Try.underlying4 (by kernel_rfl)
def cS : Codec Try.prog 9 (List UInt8) := cStr Try.underlying9 (by kernel_rfl)
set_option maxRecDepth 100000 in
def cVal : Codec Try.prog 23 Val :=
  cStruct (fcons 0 1 cI (fcons 1 1 cJ (fcons 2 1 cS fnil))) (fun x => ⟨x.1, x.2.1, x.2.2.1⟩) Try.underlying23
theorem cVal_cells : Try.prog.cellsOf 23 = 3 := by kernel_rfl
theorem wf_i64B {n : Int} (h : (Lit.int .i64 n).wf = true) : i64B n = true := by
  have := i64_of_wf h
  simpa [i64B] using this
theorem cVal_ok {w : World} {S : Nat → Prop} {vs : List Value} {t : Val} (h : cVal.ok w S vs t) : vs = valCs t ∧ i64B t.n = true ∧ t.s.length ≤ maxLen := by
  obtain ⟨hlen, ⟨x0, x1, x2, x3⟩, hx, ⟨h0, k0⟩, ⟨h1, k1⟩, ⟨h2, k2⟩, -⟩ := h
  have hlen : vs.length = 3 := hlen.trans (by kernel_rfl)
  match vs, hlen with
  | [a0, a1, a2], _ =>
    obtain rfl := (List.cons.inj h0).1
    obtain rfl := (List.cons.inj h1).1
    obtain rfl := (List.cons.inj h2).1
    subst hx
    exact ⟨rfl, wf_i64B k1, k2⟩
theorem agg_of {v : Value} {l : List Value} (h : v.cells.toList = l) (hl : 2 ≤ l.length) : v = .agg l.toArray := by
  cases v <;> first
    | (simp [Value.cells] at h; subst h; simp at hl; done)
    | (simp [Value.cells] at h; subst h; simp)
set_option maxRecDepth 100000 in
theorem open_val {H : Type} {enc : TypeId × Value → H} {W : World} {base : Nat} {v : Value} {d : DataW H} {ps : List MemPlace} (hval : Value.okWide Try.prog W .any base 23 v)
    (h : DataW.Trod enc Try.prog W 0 (fun _ => true) true 23 v d ps) : ∃ t : Val, v = valV t ∧ i64B t.n = true ∧ t.s.length ≤ maxLen := by
  obtain ⟨t, ht⟩ := cVal.arg h
  obtain ⟨h1, h2, h3⟩ := cVal_ok ht
  exact ⟨t, agg_of h1 (by simp [valCs]), h2, h3⟩
theorem SlOf.row {P : Program} {e : TypeId} {α : Type} {C : Codec P e α} {f : α → List Value} {n : Nat} {w : World} {S : Nat → Prop} {v : Value} {xs : List α} (hf : ∀ x, (f x).length = n) (hn : 0 < n) (hce : P.cellsOf e = n)
    (hok : ∀ us x, C.ok w S us x → us = f x) (h : SlOf C w S v xs) : RowR f n w S v xs := by
  obtain ⟨A, c, rfl, h2, h3, h4⟩ := h
  refine ⟨A, c, rfl, h2, h3, flat_len f n hf xs, fun h0 => ?_⟩
  have hl : 0 < xs.length := Nat.pos_of_ne_zero fun e => by rw [e] at h0; simp at h0
  obtain ⟨ad, us, rfl, hS, _, _⟩ := h4 0 xs[0] (List.getElem?_eq_getElem hl)
  refine ⟨ad, rfl, hS, fun j u hu => ?_⟩
  have hj : j < xs.length * n := by
    have := (List.getElem?_eq_some_iff.1 hu).1
    rwa [flat_len f n hf xs] at this
  have hi : j / n < xs.length := Nat.div_lt_of_lt_mul (by rw [Nat.mul_comm]; exact hj)
  have hr : j % n < n := Nat.mod_lt _ hn
  have hjd : j / n * n + j % n = j := Nat.div_add_mod' j n
  obtain ⟨ad', us', e1, _, hc, hk⟩ := h4 (j / n) xs[j / n] (List.getElem?_eq_getElem hi)
  injection e1 with e1
  subst e1
  have := hok _ _ hk
  subst this
  have e2 := flat_at f n hf xs (j / n) (j % n) hi hr
  rw [hjd] at e2
  rw [e2] at hu
  have := hc (j % n) u hu
  rwa [hce, hjd] at this
set_option maxRecDepth 100000 in
theorem open_row {H : Type} {enc : TypeId × Value → H} {W : World} {base : Nat} {v : Value} {d : DataW H} {ps : List MemPlace} (hval : Value.okWide Try.prog W .any base 40 v)
    (h : DataW.Trod enc Try.prog W 0 (fun _ => true) true 40 v d ps) : ∃ row, RowR valCs 3 W (· < W.heap.size) v row ∧ (∀ x ∈ row, i64B x.n = true) ∧ ∀ x ∈ row, x.s.length ≤ maxLen := by
  obtain ⟨a0, len0, cap0, rfl⟩ := okWide_slice Try.underlying40 hval
  obtain ⟨fuel, hf⟩ := h
  obtain ⟨v, l, hv, hby⟩ := SlOf.opens (C := cVal) Try.underlying40 (by rw [cVal_cells]; omega) hf
  simp [Value.cells] at hv
  subst hv
  have each : ∀ x ∈ l, i64B x.n = true ∧ x.s.length ≤ maxLen := fun x hx => by
    obtain ⟨i, hi, rfl⟩ := List.mem_iff_getElem.1 hx
    obtain ⟨_, _, _, _, _, h4⟩ := hby
    obtain ⟨_, us, _, _, _, hk⟩ := h4 i _ (List.getElem?_eq_getElem hi)
    exact (cVal_ok hk).2
  exact ⟨l, SlOf.row valCs_len (by omega) cVal_cells (fun us x hx => (cVal_ok hx).1) hby, fun x hx => (each x hx).1, fun x hx => (each x hx).2⟩
/-- An argument that is not looked at. -/
theorem open_any {P : Program} {H : Type} {enc : TypeId × Value → H} {W : World} {base : Nat} {t : TypeId} {v : Value} {d : DataW H} {ps : List MemPlace} (hval : Value.okWide P W .any base t v)
    (h : DataW.Trod enc P W 0 (fun _ => true) true t v d ps) : ∃ u : Value, u = v := ⟨v, rfl⟩
end Go.Proofs.Ytakbikibahhepaa
