/-
  The opener of trees.
-/
import Derived.Test.YtakbikibahhepaaExC
set_option linter.unusedSimpArgs false
set_option linter.unusedVariables false
namespace Go.Proofs.Ytakbikibahhepaa
open Go.RowKit Go.ChangeShapes Go.WideShapes Go.ChangeAt

theorem ex_cells : Try.prog.cellsOf 26 = 6 := by kernel_rfl
set_option maxRecDepth 100000 in
theorem ex_opens {H : Type} {enc : TypeId × Value → H} {W : World} : ∀ (fuel : Nat) (cs : List Value) (x : DataW H × List MemPlace), DataW.trod enc Try.prog W 0 (fun _ => true) true fuel 26 cs = some x →
    ∃ u e, cs = exCs u e ∧ ExR W (· < W.heap.size) u e ∧ ExI e := by
  intro fuel
  induction fuel using Nat.strongRecOn with
  | ind fuel ih =>
    intro cs x h
    obtain ⟨xs, n, rfl, _, hlen, hxl, hf⟩ := DataW.trod_struct Try.underlying26 h
    have hlen : cs.length = 6 := hlen.trans ex_cells
    have hxl : xs.length = 4 := hxl
    match cs, hlen with
    | [a0, a1, a2, a3, a4, a5], _ =>
      have f0 := hf 0 _ rfl
      have f1 := hf 1 _ rfl
      have f2 := hf 2 _ rfl
      have f3 := hf 3 _ rfl
      rw [List.getElem?_eq_getElem (by omega)] at f0 f1 f2 f3
      have f0 : DataW.trod enc Try.prog W 0 (fun _ => true) true n 3 [a0] = some xs[0] := f0
      have f1 : DataW.trod enc Try.prog W 0 (fun _ => true) true n 9 [a1] = some xs[1] := f1
      have f2 : DataW.trod enc Try.prog W 0 (fun _ => true) true n 23 [a2, a3, a4] = some xs[2] := f2
      have f3 : DataW.trod enc Try.prog W 0 (fun _ => true) true n 24 [a5] = some xs[3] := f3
      obtain ⟨k, hk, -⟩ := cI.opens f0
      obtain ⟨s, hs, -⟩ := cS.opens f1
      obtain ⟨v, hv⟩ := cVal.opens f2
      obtain ⟨hv, hvi, -⟩ := cVal_ok hv
      simp only [valCs, List.cons.injEq, and_true] at hk hs hv
      obtain ⟨rfl, rfl, rfl⟩ := hv
      subst hk hs
      rcases DataW.trod_slice Try.underlying24 f3 with ⟨h0, -⟩ | ⟨a, len, cap, elems, rest, n', rfl, h0, -, -, hl, hm, hel, heach, -, -⟩
      · simp only [List.cons.injEq, and_true] at h0
        subst h0
        exact ⟨.slice none 0 0, .mk k s v [], rfl, .mk k s v [] [] none 0 rfl (Nat.le_refl _) (by simp [maxLen]) (by simpa using Sl.nil W _ 6 none) (fun i u e h => by simp at h), .mk hvi (fun a ha => by cases ha)⟩
      · simp only [List.cons.injEq, and_true] at h0
        subst h0
        have each : ∀ i, i < len → ∃ p : Value × Ex, (∀ j y, (exCs p.1 p.2)[j]? = some y → W.cell? (a.add (i * 6 + j)) = some y) ∧ ExR W (· < W.heap.size) p.1 p.2 ∧ ExI p.2 := by
          intro i hi
          have hb := heach i hi
          rw [List.getElem?_eq_getElem (by omega), ex_cells] at hb
          obtain ⟨cs', hcs, htr⟩ := Option.bind_eq_some_iff.1 hb
          obtain ⟨u, e, rfl, hr, hi'⟩ := ih n' (by omega) cs' _ htr
          obtain ⟨_, hlen', hat⟩ := World.cells?_some hcs
          refine ⟨(u, e), fun j y hy => ?_, hr, hi'⟩
          have hj : j < 6 := by
            have := (List.getElem?_eq_some_iff.1 hy).1
            simpa [exCs] using this
          rw [← add_of_add, hat j hj]
          exact hy
        rcases Nat.eq_zero_or_pos len with h0 | h0
        · subst h0
          exact ⟨.slice (some a) 0 cap, .mk k s v [], rfl, .mk k s v [] [] (some a) cap rfl (by simp) hm (by simpa using Sl.nil W _ 6 (some a)) (fun i u e h => by simp at h), .mk hvi (fun a ha => by cases ha)⟩
        obtain ⟨p0, hp0⟩ := each 0 h0
        haveI : Inhabited (Value × Ex) := ⟨p0⟩
        obtain ⟨F, hF⟩ := Go.Deep.choose_lt each
        have hab : a.block < W.heap.size := by
          have := World.block_lt_of_cell? W _ ((hF 0 h0).1 0 _ rfl)
          rw [block_of_add] at this
          exact this
        obtain ⟨us, hus⟩ : ∃ us, us = (List.range len).map fun i => (F i).1 := ⟨_, rfl⟩
        obtain ⟨l, hll⟩ : ∃ l, l = (List.range len).map fun i => (F i).2 := ⟨_, rfl⟩
        have hul : us.length = len := by rw [hus]; simp
        have hl' : l.length = len := by rw [hll]; simp
        have hz : (us.zip l).length = len := by simp [hul, hl']
        have hget : ∀ i (h : i < len), us[i]? = some (F i).1 ∧ l[i]? = some (F i).2 := fun i h => by rw [hus, hll]; simp [h]
        have hfl : ((us.zip l).flatMap fun p => exCs p.1 p.2).length = len * 6 := by
          rw [flat_len (fun p : Value × Ex => exCs p.1 p.2) 6 (fun _ => rfl), hz]
        refine ⟨.slice (some a) len cap, .mk k s v l, rfl, ?_, .mk hvi fun b hb => ?_⟩
        · have hr : ExR W (· < W.heap.size) (.slice (some a) l.length cap) (.mk k s v l) := by
            refine .mk k s v l us (some a) cap (by omega) (by omega) hm ⟨by rw [hfl, hl'], fun _ => ⟨a, rfl, hab, fun j y hy => ?_⟩⟩ (fun i u e h1 h2 => ?_)
            · have hj : j < len * 6 := by
                have := (List.getElem?_eq_some_iff.1 hy).1
                rwa [hfl] at this
              have hi : j / 6 < len := by omega
              have hjd : j / 6 * 6 + j % 6 = j := by omega
              have e3 := flat_at6 (us.zip l) (j / 6) (j % 6) (by omega) (by omega)
              rw [hjd, hy] at e3
              have e4 : (us.zip l)[j / 6]'(by omega) = F (j / 6) := by
                have h1 := (hget (j / 6) hi).1
                have h2 := (hget (j / 6) hi).2
                rw [List.getElem?_eq_getElem (by omega)] at h1 h2
                injection h1 with h1
                injection h2 with h2
                rw [List.getElem_zip, h1, h2]
              rw [e4] at e3
              have := (hF (j / 6) hi).1 (j % 6) y e3.symm
              rwa [hjd] at this
            · have hi : i < len := by
                have := (List.getElem?_eq_some_iff.1 h1).1
                omega
              obtain ⟨g1, g2⟩ := hget i hi
              rw [g1] at h1
              rw [g2] at h2
              injection h1 with h1
              injection h2 with h2
              subst h1 h2
              exact (hF i hi).2.1
          rw [hl'] at hr
          exact hr
        · obtain ⟨i, hi, rfl⟩ := List.mem_iff_getElem.1 hb
          have hi' : i < len := by omega
          have h2 := (hget i hi').2
          rw [List.getElem?_eq_getElem hi] at h2
          injection h2 with h2
          rw [h2]
          exact (hF i hi').2.2
set_option maxRecDepth 100000 in
theorem open_ex {H : Type} {enc : TypeId × Value → H} {W : World} {base : Nat} {v : Value} {d : DataW H} {ps : List MemPlace} (hval : Value.okWide Try.prog W .any base 26 v)
    (h : DataW.Trod enc Try.prog W 0 (fun _ => true) true 26 v d ps) : ∃ u e, v = exV u e ∧ ExR W (fun _ => True) u e ∧ ExI e := by
  obtain ⟨fuel, hf⟩ := h
  obtain ⟨u, e, h1, h2, h3⟩ := ex_opens fuel _ _ hf
  exact ⟨u, e, agg_of h1 (by simp [exCs]), h2.mono (fun _ _ _ => trivial), h3⟩
theorem open_rowT {H : Type} {enc : TypeId × Value → H} {W : World} {base : Nat} {v : Value} {d : DataW H} {ps : List MemPlace} (hval : Value.okWide Try.prog W .any base 40 v)
    (h : DataW.Trod enc Try.prog W 0 (fun _ => true) true 40 v d ps) : ∃ row, RowR valCs 3 W (fun _ => True) v row ∧ (∀ x ∈ row, i64B x.n = true) ∧ ∀ x ∈ row, x.s.length ≤ maxLen := by
  obtain ⟨row, h1, h2⟩ := open_row hval h
  exact ⟨row, h1.mono (by omega) (fun _ _ _ => trivial), h2⟩
end Go.Proofs.Ytakbikibahhepaa
