/-
  The opener of a span.
-/
import Derived.Test.YtoldelocfmpccaaQ15
set_option linter.unusedSimpArgs false
set_option linter.unusedVariables false
namespace Go.Proofs.Ytoldelocfmpccaa
open Go.RowKit Go.ChangeShapes Go.WideShapes Go.ChangeAt

set_option maxRecDepth 100000 in
def cSpan : Codec Try.prog 53 (List UInt8 × List UInt8) :=
  cStruct (fcons 0 1 cS (fcons 1 1 cS fnil)) (fun x => (x.1, x.2.1)) Try.underlying53
def spanCs (x : List UInt8 × List UInt8) : List Value := [.string (str x.1), .string (str x.2)]
theorem cSpan_ok {w : World} {S : Nat → Prop} {vs : List Value} {t : List UInt8 × List UInt8} (h : cSpan.ok w S vs t) : vs = spanCs t ∧ t.1.length ≤ maxLen ∧ t.2.length ≤ maxLen := by
  obtain ⟨hlen, ⟨x0, x1, x2⟩, hx, ⟨h0, k0⟩, ⟨h1, k1⟩, -⟩ := h
  have hlen : vs.length = 2 := hlen.trans (by kernel_rfl)
  match vs, hlen with
  | [a0, a1], _ =>
    obtain rfl := (List.cons.inj h0).1
    obtain rfl := (List.cons.inj h1).1
    subst hx
    exact ⟨rfl, k0, k1⟩
set_option maxRecDepth 100000 in
theorem open_span {H : Type} {enc : TypeId × Value → H} {W : World} {base : Nat} {v : Value} {d : DataW H} {ps : List MemPlace} (hval : Value.okWide Try.prog W .any base 53 v)
    (h : DataW.Trod enc Try.prog W 0 (fun _ => true) true 53 v d ps) : ∃ lo hi : List UInt8, v = .agg #[.string (str lo), .string (str hi)] ∧ lo.length ≤ maxLen ∧ hi.length ≤ maxLen := by
  obtain ⟨t, ht⟩ := cSpan.arg h
  obtain ⟨h1, h2, h3⟩ := cSpan_ok ht
  exact ⟨t.1, t.2, agg_of h1 (by simp [spanCs]), h2, h3⟩
end Go.Proofs.Ytoldelocfmpccaa
