/-
  The opener of cells.
-/
import Derived.Test.YtoldelocfmpccaaMvSpW
set_option linter.unusedSimpArgs false
set_option linter.unusedVariables false
namespace Go.Proofs.Ytoldelocfmpccaa
open Go.RowKit Go.ChangeShapes Go.WideShapes Go.ChangeAt

theorem SlOf.row {P : Program} {e : TypeId} {α : Type} {C : Codec P e α} {f : α → List Value} {n : Nat} {w : World} {S : Nat → Prop} {v : Value} {xs : List α} (hf : ∀ x, (f x).length = n) (hn : 0 < n) (hce : P.cellsOf e = n)
    (hok : ∀ us x, C.ok w S us x → us = f x) (h : SlOf C w S v xs) : RowR f n w S v xs := by
  obtain ⟨A, c, rfl, h2, h3, h4⟩ := h
  refine ⟨A, c, rfl, h2, h3, flat_len f n hf xs, fun h0 => ?_⟩
  have hl : 0 < xs.length := Nat.pos_of_ne_zero fun e => by rw [e] at h0; simp at h0
  obtain ⟨ad, us, rfl, hS, _, _⟩ := h4 0 xs[0] (List.getElem?_eq_getElem hl)
  refine ⟨ad, rfl, hS, fun j u hu => ?_⟩
  have hj : j < xs.length * n := by
    have := (List.getElem?_eq_some_iff.1 hu).1
    rwa [flat_len f n hf xs] at this
  have hi : j / n < xs.length := Nat.div_lt_of_lt_mul (by rw [Nat.mul_comm]; exact hj)
  have hr : j % n < n := Nat.mod_lt _ hn
  have hjd : j / n * n + j % n = j := Nat.div_add_mod' j n
  obtain ⟨ad', us', e1, _, hc, hk⟩ := h4 (j / n) xs[j / n] (List.getElem?_eq_getElem hi)
  injection e1 with e1
  subst e1
  have := hok _ _ hk
  subst this
  have e2 := flat_at f n hf xs (j / n) (j % n) hi hr
  rw [hjd] at e2
  rw [e2] at hu
  have := hc (j % n) u hu
  rwa [hce, hjd] at this
set_option maxRecDepth 100000 in
def cVer : Codec Try.prog 69 Ver :=
  cStruct (fcons 0 2 cSt (fcons 2 1 cO (fcons 3 1 cS fnil))) (fun x => ⟨x.1, x.2.1, x.2.2.1⟩) Try.underlying69
theorem cVer_cells : Try.prog.cellsOf 69 = 4 := by kernel_rfl
def cVers : Codec Try.prog 62 (List Ver) := cSlice cVer Try.underlying62 (by rw [cVer_cells]; omega) (by kernel_rfl)
set_option maxRecDepth 100000 in
def cCel : Codec Try.prog 64 Cel :=
  cStruct (fcons 0 1 cS (fcons 1 1 cVers (fcons 2 1 cO (fcons 3 9 cLk fnil)))) (fun x => ⟨x.1, x.2.1, x.2.2.1, x.2.2.2.1⟩) Try.underlying64
theorem cCel_cells : Try.prog.cellsOf 64 = 12 := by kernel_rfl
section
variable {w : World} {S : Nat → Prop} {vs : List Value}
theorem cLk_ok2 {t : Lck} (h : cLk.ok w S vs t) : vs = lckCs t ∧ t.data.length ≤ maxLen := by
  refine ⟨cLk_ok h, ?_⟩
  obtain ⟨hlen, ⟨x0, x1, x2, x3, x4, x5⟩, hx, h0, h1, h2, h3, ⟨h4, k4⟩, -⟩ := h
  rw [hx]
  exact k4
theorem cVer_ok {t : Ver} (h : cVer.ok w S vs t) : vs = verCs t ∧ t.data.length ≤ maxLen := by
  obtain ⟨hlen, ⟨x0, x1, x2, x3⟩, hx, h0, h1, ⟨h2, k2⟩, -⟩ := h
  have hlen : vs.length = 4 := hlen.trans (by kernel_rfl)
  match vs, hlen with
  | [a0, a1, a2, a3], _ =>
    have e0 : [a0, a1] = stCs x0 := cSt_ok h0
    obtain rfl := (List.cons.inj h1).1
    obtain rfl := (List.cons.inj h2).1
    simp only [stCs, List.cons.injEq, and_true] at e0
    obtain ⟨rfl, rfl⟩ := e0
    subst hx
    exact ⟨rfl, k2⟩
theorem cCel_ok {t : Cel} (h : cCel.ok w S vs t) : ∃ u, vs = celCs (u, t) ∧ SlOf cVer w S u t.vers ∧ t.key.length ≤ maxLen ∧ t.lock.data.length ≤ maxLen := by
  obtain ⟨hlen, ⟨x0, x1, x2, x3, x4⟩, hx, ⟨h0, k0⟩, ⟨u, h1, k1⟩, h2, h3, -⟩ := h
  have hlen : vs.length = 12 := hlen.trans (by kernel_rfl)
  match vs, hlen with
  | [a0, a1, a2, a3, a4, a5, a6, a7, a8, a9, a10, a11], _ =>
    obtain ⟨e3, k3⟩ := cLk_ok2 h3
    have e3 : [a3, a4, a5, a6, a7, a8, a9, a10, a11] = lckCs x3 := e3
    obtain rfl := (List.cons.inj h0).1
    obtain rfl := (List.cons.inj h1).1
    obtain rfl := (List.cons.inj h2).1
    simp only [lckCs, List.cons.injEq, and_true] at e3
    obtain ⟨rfl, rfl, rfl, rfl, rfl, rfl, rfl, rfl, rfl⟩ := e3
    subst hx
    exact ⟨_, rfl, k1, k0, k3⟩
end
/-- Cells whose strings are no longer than may be. -/
def CelL (cs : List Cel) : Prop := ∀ c ∈ cs, c.key.length ≤ maxLen ∧ c.lock.data.length ≤ maxLen ∧ ∀ v ∈ c.vers, v.data.length ≤ maxLen
theorem cels_read {w : World} {S : Nat → Prop} {v : Value} {cs : List Cel} (h : SlOf cCel w S v cs) : CelR w S v cs ∧ CelL cs := by
  have h' := h
  obtain ⟨A, c, rfl, h2, h3, h4⟩ := h
  have each : ∀ i, i < cs.length → ∃ u : Value, ∃ h : i < cs.length, (∃ ad, A = some ad ∧ S ad.block ∧ ∀ j x, (celCs (u, cs[i]))[j]? = some x → w.cell? (ad.add (i * 12 + j)) = some x) ∧ SlOf cVer w S u cs[i].vers ∧ cs[i].key.length ≤ maxLen ∧ cs[i].lock.data.length ≤ maxLen := by
    intro i hi
    obtain ⟨ad, us, e1, e2, e3, e4⟩ := h4 i cs[i] (List.getElem?_eq_getElem hi)
    obtain ⟨u, rfl, k1, k2, k3⟩ := cCel_ok e4
    rw [cCel_cells] at e3
    exact ⟨u, hi, ⟨ad, e1, e2, e3⟩, k1, k2, k3⟩
  haveI : Inhabited Value := ⟨undef⟩
  obtain ⟨F, hF⟩ := Go.Deep.choose_lt each
  have hver : ∀ u (l : List Ver), SlOf cVer w S u l → VerR w S u l := fun u l hl => hl.row verCs_len (by omega) cVer_cells fun us x hx => (cVer_ok hx).1
  refine ⟨⟨(List.range cs.length).map F, by simp, ?_, fun i hi hi' => ?_⟩, fun x hx => ?_⟩
  · have hz : (((List.range cs.length).map F).zip cs).length = cs.length := by simp
    refine ⟨A, c, by rw [hz], by rw [hz]; exact h2, h3, ?_, fun h0 => ?_⟩
    · rw [flat_len celCs 12 celCs_len, hz]
    · rw [hz] at h0
      have hl : 0 < cs.length := by omega
      obtain ⟨_, ⟨ad, e1, e2, _⟩, _⟩ := hF 0 hl
      refine ⟨ad, e1, e2, fun j u hu => ?_⟩
      have hj : j < cs.length * 12 := by
        have := (List.getElem?_eq_some_iff.1 hu).1
        rwa [flat_len celCs 12 celCs_len, hz] at this
      have hi : j / 12 < cs.length := by omega
      obtain ⟨_, ⟨ad', e1', _, hc⟩, _⟩ := hF (j / 12) hi
      rw [e1] at e1'
      injection e1' with e1'
      subst e1'
      have hjd : j / 12 * 12 + j % 12 = j := by omega
      have e3 := flat_at celCs 12 celCs_len (((List.range cs.length).map F).zip cs) (j / 12) (j % 12) (by omega) (by omega)
      rw [hjd, hu] at e3
      have e4 : (((List.range cs.length).map F).zip cs)[j / 12]'(by omega) = (F (j / 12), cs[j / 12]) := by simp
      rw [e4] at e3
      have := hc (j % 12) u e3.symm
      rwa [hjd] at this
  · obtain ⟨_, _, hv, _⟩ := hF i hi
    have e : ((List.range cs.length).map F)[i] = F i := by simp
    rw [e]
    exact hver _ _ hv
  · obtain ⟨i, hi, rfl⟩ := List.mem_iff_getElem.1 hx
    obtain ⟨_, _, hv, k2, k3⟩ := hF i hi
    refine ⟨k2, k3, fun y hy => ?_⟩
    obtain ⟨j, hj, rfl⟩ := List.mem_iff_getElem.1 hy
    obtain ⟨_, _, _, _, _, h4⟩ := hv
    obtain ⟨_, us, _, _, _, hk⟩ := h4 j _ (List.getElem?_eq_getElem hj)
    exact (cVer_ok hk).2
set_option maxRecDepth 100000 in
theorem open_cels {H : Type} {enc : TypeId × Value → H} {W : World} {base : Nat} {v : Value} {d : DataW H} {ps : List MemPlace} (hval : Value.okWide Try.prog W .any base 33 v)
    (h : DataW.Trod enc Try.prog W 0 (fun _ => true) true 33 v d ps) : ∃ cs, CelR W (· < W.heap.size) v cs ∧ CelL cs := by
  obtain ⟨a0, len0, cap0, rfl⟩ := okWide_slice Try.underlying33 hval
  obtain ⟨fuel, hf⟩ := h
  obtain ⟨v, l, hv, hby⟩ := SlOf.opens (C := cCel) Try.underlying33 (by rw [cCel_cells]; omega) hf
  simp [Value.cells] at hv
  subst hv
  exact ⟨l, cels_read hby⟩
end Go.Proofs.Ytoldelocfmpccaa
