/-
  The opener of tables.
-/
import Derived.Test.YtakbikibahhepaaExC2
set_option linter.unusedSimpArgs false
set_option linter.unusedVariables false
namespace Go.Proofs.Ytakbikibahhepaa
open Go.RowKit Go.ChangeShapes Go.WideShapes Go.ChangeAt

/-- A slice that is not looked into. -/
def cAny {P : Program} {t e : TypeId} (ht : P.underlying t = some (.slice e)) (hc : P.cellsOf t = 1) : Codec P t Value where
  ok _ _ vs x := vs = [x] ∧ ∃ a n c, x = .slice a n c
  keep _ h := h
  size h := by rw [h.1, hc]; rfl
  opens h := by
    rcases DataW.trod_slice ht h with ⟨h0, _⟩ | ⟨a, len, cap, elems, rest, n, _, h0, _⟩
    · exact ⟨_, h0, _, _, _, rfl⟩
    · exact ⟨_, h0, _, _, _, rfl⟩
def cIs : Codec Try.prog 28 Value := cAny Try.underlying28 (by kernel_rfl)
set_option maxRecDepth 100000 in
def cClm : Codec Try.prog 57 Clm :=
  cStruct (fcons 0 1 cS (fcons 1 1 cI (fcons 2 1 cO fnil))) (fun x => ⟨x.1, x.2.1, x.2.2.1⟩) Try.underlying57
theorem cClm_cells : Try.prog.cellsOf 57 = 3 := by kernel_rfl
def cCols : Codec Try.prog 27 (List Clm) := cSlice cClm Try.underlying27 (by rw [cClm_cells]; omega) (by kernel_rfl)
structure ZoneT where
  v1 : Value
  v2 : Value
  v3 : Value
  elect : Int
  commit : Int
  survive : Int
set_option maxRecDepth 100000 in
def cZone : Codec Try.prog 30 ZoneT :=
  cStruct (fcons 0 1 cIs (fcons 1 1 cIs (fcons 2 1 cIs (fcons 3 1 cI (fcons 4 1 cI (fcons 5 1 cI fnil)))))) (fun x => ⟨x.1, x.2.1, x.2.2.1, x.2.2.2.1, x.2.2.2.2.1, x.2.2.2.2.2.1⟩) Try.underlying30
set_option maxRecDepth 100000 in
def cTab : Codec Try.prog 32 (TabT × List Clm) :=
  cStruct (fcons 0 1 cS (fcons 1 1 cCols (fcons 2 1 cI (fcons 3 1 cI (fcons 4 1 cI (fcons 5 6 cZone fnil)))))) (fun x => (⟨x.1, x.2.2.1, x.2.2.2.1, x.2.2.2.2.1, x.2.2.2.2.2.1.v1, x.2.2.2.2.2.1.v2, x.2.2.2.2.2.1.v3, x.2.2.2.2.2.1.elect, x.2.2.2.2.2.1.commit, x.2.2.2.2.2.1.survive⟩, x.2.1)) Try.underlying32
theorem cClm_ok {w : World} {S : Nat → Prop} {vs : List Value} {t : Clm} (h : cClm.ok w S vs t) : vs = colCs t := by
  obtain ⟨hlen, ⟨x0, x1, x2, x3⟩, hx, ⟨h0, k0⟩, ⟨h1, k1⟩, h2, -⟩ := h
  have hlen : vs.length = 3 := hlen.trans (by kernel_rfl)
  match vs, hlen with
  | [a0, a1, a2], _ =>
    obtain rfl := (List.cons.inj h0).1
    obtain rfl := (List.cons.inj h1).1
    obtain rfl := (List.cons.inj h2).1
    subst hx
    rfl
theorem cZone_ok {w : World} {S : Nat → Prop} {vs : List Value} {t : ZoneT} (h : cZone.ok w S vs t) : vs = [t.v1, t.v2, t.v3, .int .i64 t.elect, .int .i64 t.commit, .int .i64 t.survive] ∧ (∃ a n c, t.v1 = .slice a n c) ∧ (∃ a n c, t.v2 = .slice a n c) ∧ ∃ a n c, t.v3 = .slice a n c := by
  obtain ⟨hlen, ⟨x0, x1, x2, x3, x4, x5, x6⟩, hx, ⟨h0, k0⟩, ⟨h1, k1⟩, ⟨h2, k2⟩, ⟨h3, -⟩, ⟨h4, -⟩, ⟨h5, -⟩, -⟩ := h
  have hlen : vs.length = 6 := hlen.trans (by kernel_rfl)
  match vs, hlen with
  | [a0, a1, a2, a3, a4, a5], _ =>
    obtain rfl := (List.cons.inj h0).1
    obtain rfl := (List.cons.inj h1).1
    obtain rfl := (List.cons.inj h2).1
    obtain rfl := (List.cons.inj h3).1
    obtain rfl := (List.cons.inj h4).1
    obtain rfl := (List.cons.inj h5).1
    subst hx
    exact ⟨rfl, k0, k1, k2⟩
set_option maxRecDepth 100000 in
theorem open_tab {H : Type} {enc : TypeId × Value → H} {W : World} {base : Nat} {v : Value} {d : DataW H} {ps : List MemPlace} (hval : Value.okWide Try.prog W .any base 32 v)
    (h : DataW.Trod enc Try.prog W 0 (fun _ => true) true 32 v d ps) : ∃ u t cols, v = tabV u t ∧ TabR W (fun _ => True) u t cols := by
  obtain ⟨⟨t, cols⟩, hlen, ⟨x0, x1, x2, x3, x4, x5, x6⟩, hx, ⟨h0, k0⟩, ⟨u, h1, k1⟩, ⟨h2, -⟩, ⟨h3, -⟩, ⟨h4, -⟩, h5, -⟩ := cTab.arg h
  have hlen : v.cells.toList.length = 11 := hlen.trans (by kernel_rfl)
  obtain ⟨e5, ⟨a1, n1, c1, e1⟩, ⟨a2, n2, c2, e2⟩, ⟨a3, n3, c3, e3⟩⟩ := cZone_ok h5
  obtain ⟨vs, hvs⟩ : ∃ vs, v.cells.toList = vs := ⟨_, rfl⟩
  rw [hvs] at hlen h0 h1 h2 h3 h4 h5 e5
  match vs, hlen with
  | [b0, b1, b2, b3, b4, b5, b6, b7, b8, b9, b10], _ =>
    have e5 : [b5, b6, b7, b8, b9, b10] = [x5.v1, x5.v2, x5.v3, .int .i64 x5.elect, .int .i64 x5.commit, .int .i64 x5.survive] := e5
    obtain rfl := (List.cons.inj h0).1
    obtain rfl := (List.cons.inj h1).1
    obtain rfl := (List.cons.inj h2).1
    obtain rfl := (List.cons.inj h3).1
    obtain rfl := (List.cons.inj h4).1
    simp only [List.cons.injEq, and_true] at e5
    obtain ⟨rfl, rfl, rfl, rfl, rfl, rfl⟩ := e5
    obtain ⟨ht, hcs⟩ := Prod.mk.inj hx
    refine ⟨b1, t, cols, ?_, ?_, ?_⟩
    · rw [agg_of hvs (by simp), ht]
    · have := (SlOf.row colCs_len (by omega) cClm_cells (fun us x hx => cClm_ok hx) k1)
      rw [← hcs] at this
      exact this.mono (by omega) (fun _ _ _ => trivial)
    · rw [ht]
      exact ⟨a1, n1, c1, a2, n2, c2, a3, n3, c3, e1, e2, e3⟩
end Go.Proofs.Ytakbikibahhepaa
