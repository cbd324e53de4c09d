/-
  Words, plain models, laws and walks that the claims of this layer share (joined by shake.py). No condition.
-/
import Derived.Test.YtdfojghhpdkpfaaGreatDoorA4
set_option linter.unusedSimpArgs false
set_option linter.unusedVariables false
namespace Go.Proofs.YtdfojghhpdkpfaaGreatDoor
open Go.RowKit
theorem cmp_results {W : World} {k : Nat} {u : Value} {d : Dp} (R : Row W k 155 (dpCs u d)) {tmps : Array Value} (h1 : tmps.getD 2 undef = .pointer (some ⟨k, 0, none⟩)) :
    (results Tryz.f149 tmps).run Tryz.prog W = .ok (dpV u d) W := by
  have d0 : W.cell? ⟨k, 0, none⟩ = some (.int .i64 d.e.kind) := R.cell 0
  have d1 : W.cell? ⟨k, 1, none⟩ = some (.string (str d.e.s)) := R.cell 1
  have d2 : W.cell? ⟨k, 2, none⟩ = some (.int .i64 d.e.v.kind) := R.cell 2
  have d3 : W.cell? ⟨k, 3, none⟩ = some (.int .i64 d.e.v.n) := R.cell 3
  have d4 : W.cell? ⟨k, 4, none⟩ = some (.string (str d.e.v.s)) := R.cell 4
  have d5 : W.cell? ⟨k, 5, none⟩ = some u := R.cell 5
  have d6 : W.cell? ⟨k, 6, none⟩ = some (.int .i64 d.n) := R.cell 6
  simp at h1
  simp [results, Tryz.results149, h1, go_sem, d0, d1, d2, d3, d4, d5, d6]
set_option maxRecDepth 100000 in
set_option maxHeartbeats 8000000 in
theorem cmp_any (g t o : Nat) (fr : Rl → List PT → PR Dp) (hR : RuleC g t o (.func (.func 150) #[pV g] #[]) (fr .sum)) (h16 : ∀ l, Shal (fr .sum l)) (l : List PT) (w : World) (h : PS w g t l o) : Calls Tryz.prog 149 #[pV g] w (DoP g t o (stepT fr .cmp l) (DpG w.heap.size) w) := by
  obtain ⟨F, hF⟩ : ∃ F, F = fr .sum := ⟨_, rfl⟩
  obtain ⟨X, hX⟩ : ∃ X, X = stepT fr .cmp l := ⟨_, rfl⟩
  rw [← hX]
  simp only [stepT] at hX
  rw [← hF] at hR h16 hX
  clear hF
  obtain ⟨l3, l4, l5⟩ := h.lt3
  have HL3 := Lib.hid h.lt3
  have HR := Lib.hid hR
  have H16 := Lib.hid h16
  have HX := Lib.hid hX
  have r0 := Row.new w 155 zdp
  have hS1 := ((Same.refl (fun _ => True) w).alloc (.cells zdp.toArray 155))
  have hz1 : (w.alloc (.cells zdp.toArray 155)).heap.size = w.heap.size + 1 := by simp
  have hp1 := h.keep hS1
  clear h hR h16 hX
  have hmf : ∀ (fn : Fn) (first cap : Array Value) (w : World), (Instr.makeFunc fn first cap).run Tryz.prog w = .ok (.func fn first cap) w := fun _ _ _ _ => rfl
  go_enter Tryz.func149, Tryz.ntmps149
  go_wp2_with (go_at_call 128; refine stopAt ?_)
  unfold Hid
  simp only [zdp] at r0 hS1 hz1 hp1
  revert r0 hS1 hz1 hp1
  generalize w.alloc _ = w0
  intro r0 hS1 hz1 hp1
  refine (HR.out l w0 hp1).mono ?_
  intro e w1 h1
  cases hx : F l with
  | error p =>
    rw [hx] at h1
    obtain ⟨rfl, hS2⟩ := h1
    have hq : DoP g t o X (DpG w.heap.size) w (.panicked [{ v := failV p.1 p.2, recovered := false }]) w1 := by
      rw [HX.out, hx]
      exact DoP.err ⟨rfl, hS2⟩ hS1
    exact ⟨rfl, hq⟩
  | ok q =>
    obtain ⟨d, l'⟩ := q
    have hd16 := H16.out l d l' hx
    have hX1 := HX.out
    rw [hx, thenT_ok] at hX1
    rw [hx] at h1
    obtain ⟨v, rfl, ⟨u, rfl, hex⟩, hp2, hS2⟩ := h1
    obtain ⟨Au, cu, rfl, -, -⟩ := hex.toL.form
    generalize d.e.args.length = nu at *
    have hz2 := hS2.size
    have HSw := Lib.hid ((hS1.mono (S' := fun q => q ≠ g) fun _ _ _ => trivial).trans hS2)
    have HRR : Hid (Row w1 w.heap.size 155 zdp) := Lib.hid (r0.keep hS2 (by omega))
    obtain ⟨off, c, hrow, hc, hm, hpos, t0, t1, t2, t3⟩ := hp2.open_
    unfold maxLen at hm
    have b0 := hrow.cell 0
    simp only [List.getElem?_cons_zero] at b0
    have hl0 : (0 : Int) < (l'.length : Int) := by omega
    obtain ⟨tk, htk⟩ : ∃ tk, tk = hdT l' := ⟨_, rfl⟩
    rw [← htk] at t0 t1 t2 t3 hX1
    obtain ⟨m3, m4, m5⟩ := hp2.lt3
    have HX1 := Lib.hid hX1
    have HP := Lib.hid hp2
    have HE := Lib.hid hex
    have Htk := Lib.hid htk
    clear hX1 hp2 hex hS1 hS2 r0 hp1 hrow htk HX hx
    have rd := (Row.new w1 155 (dpCs (.slice Au nu cu) d)).keep ((Same.refl (fun _ => True) _).alloc (.cells (tokCs tk).toArray 75)) trivial
    have rt := Row.new (w1.alloc (.cells (dpCs (.slice Au nu cu) d).toArray 155)) 75 (tokCs tk)
    rw [World.size_alloc] at rt
    have hS3 := ((Same.refl (fun _ => True) w1).alloc (.cells (dpCs (.slice Au nu cu) d).toArray 155)).alloc (.cells (tokCs tk).toArray 75)
    have hz3 : ((w1.alloc (.cells (dpCs (.slice Au nu cu) d).toArray 155)).alloc (.cells (tokCs tk).toArray 75)).heap.size = w1.heap.size + 2 := by simp
    have hss := StrR.new ((w1.alloc (.cells (dpCs (.slice Au nu cu) d).toArray 155)).alloc (.cells (tokCs tk).toArray 75)) g (by omega) [[61], [60, 62], [60], [60, 61], [62], [62, 61]] (by simp [maxLen])
    have hS4 := (Same.refl (fun _ => True) ((w1.alloc (.cells (dpCs (.slice Au nu cu) d).toArray 155)).alloc (.cells (tokCs tk).toArray 75))).alloc (.cells (strCs [[61], [60, 62], [60], [60, 61], [62], [62, 61]]).toArray 9)
    have hz4 : (((w1.alloc (.cells (dpCs (.slice Au nu cu) d).toArray 155)).alloc (.cells (tokCs tk).toArray 75)).alloc (.cells (strCs [[61], [60, 62], [60], [60, 61], [62], [62, 61]]).toArray 9)).heap.size = w1.heap.size + 3 := by simp
    rw [hz3] at hss
    have rd := rd.keep hS4 trivial
    have rt := rt.keep hS4 trivial
    have hS4 := hS3.trans hS4
    clear hS3 hz3
    simp only [List.length_cons, List.length_nil, Nat.zero_add, Nat.reduceAdd] at hss
    go_wp2_with (go_at_call 38; refine stopAt ?_)
    unfold Hid
    simp only [dpCs, tokCs, strCs, List.map_cons, List.map_nil, show str [61] = ⟨#[61]⟩ from rfl, show str [60, 62] = ⟨#[60, 62]⟩ from rfl, show str [60] = ⟨#[60]⟩ from rfl, show str [60, 61] = ⟨#[60, 61]⟩ from rfl, show str [62] = ⟨#[62]⟩ from rfl, show str [62, 61] = ⟨#[62, 61]⟩ from rfl] at rd rt hS4 hz4 hss
    revert rd rt hS4 hz4 hss
    generalize ((w1.alloc _).alloc _).alloc _ = w3
    intro rd rt hS4 hz4 hss
    have hpb := HP.out.keep hS4
    refine (begins_any g t l' o cmpsT _ _ w3 hpb (show StrR _ _ _ cmpsT from hss)).mono ?_
    rintro e w4 ⟨rfl, hS5⟩
    obtain ⟨gd, hgd⟩ : ∃ gd, gd = w1.heap.size := ⟨_, rfl⟩
    rw [← hgd] at rd rt hz4 ⊢
    have hS6 := hS4.trans hS5
    have hz6 := hS5.size
    have HRD := Lib.hid (rd.keep hS5 trivial)
    have HRT := Lib.hid (rt.keep hS5 trivial)
    have HRR := Lib.hid (HRR.out.keep hS6 trivial)
    have HP := Lib.hid (HP.out.keep hS6)
    have HE := Lib.hid ((HE.out.mono (S' := fun q => w.heap.size + 1 ≤ q ∧ q ≠ gd) fun q hq (h : w0.heap.size ≤ q) => ⟨by omega, by omega⟩).keepAll hS6)
    have HSw := Lib.hid (HSw.out.trans (hS6.mono (S' := fun q => q ≠ g) fun _ _ _ => trivial))
    have hgw : w.heap.size + 1 ≤ gd := by omega
    have hgg : g < gd ∧ t < gd ∧ 1 < gd := by omega
    clear rd rt hS4 hss hpb hS5 hS6 hgd b0 t0 t1 t2 t3 hc hm hpos hl0 m3 m4 m5
    cases hq : beginsT cmpsT l'
    · have hX1 := HX1.out
      rw [hq, if_neg (by simp)] at hX1
      have HX1 := Lib.hid hX1
      clear hX1 hq
      go_wp2_with (go_at_call 37; refine stopAt ?_)
      unfold Hid
      refine (take_any g t l' o wIS w4 HP.out).mono ?_
      rintro e w5 ⟨rfl, hp5, hS5⟩
      have hS5z := hS5.size
      have HRD := Lib.hid (HRD.out.keep hS5 (by omega))
      have HRT := Lib.hid (HRT.out.keep hS5 (by omega))
      have HRR := Lib.hid (HRR.out.keep hS5 (by omega))
      have HE := Lib.hid (HE.out.keep (hS5.mono (S' := fun q => w.heap.size + 1 ≤ q ∧ q ≠ gd) fun q _ h => by have := h.1; omega))
      have HSw := Lib.hid (HSw.out.trans hS5)
      clear hS5 HP
      cases hq : isT wIS l'
      · rw [hq, if_neg (by simp)] at hp5
        have hX1 := HX1.out
        rw [hq, if_neg (by simp)] at hX1
        have HX1 := Lib.hid hX1
        have HPx := Lib.hid hp5
        have HRx := HRR
        have HEx := Lib.hid (HE.out.mono (S' := fun q => w.heap.size + 1 ≤ q) fun q _ h => h.1)
        have HSx := HSw
        clear hX1 hq hp5
        have hyr := HRD.out
        have y0 := hyr.cell 0
        have y1 := hyr.cell 1
        have y2 := hyr.cell 2
        have y3 := hyr.cell 3
        have y4 := hyr.cell 4
        have y5 := hyr.cell 5
        have y6 := hyr.cell 6
        simp only [dpCs, List.getElem?_cons_zero, List.getElem?_cons_succ] at y0 y1 y2 y3 y4 y5 y6
        clear hyr
        obtain ⟨hD, hG, hB, hC⟩ := fin_dp (u := .slice Au nu cu) (d := d) HPx.out HL3.out HRx.out HEx.out HSx.out
        have HD := Lib.hid hD
        have HG := Lib.hid hG
        have HB := Lib.hid hB
        have HC := Lib.hid hC
        clear hD hG hB hC
        have rr := HRx.out
        have q0 := rr.cell 0
        have q1 := rr.cell 1
        have q2 := rr.cell 2
        have q3 := rr.cell 3
        have q4 := rr.cell 4
        have q5 := rr.cell 5
        have q6 := rr.cell 6
        simp only [dpCs, zdp, List.getElem?_cons_zero, List.getElem?_cons_succ] at q0 q1 q2 q3 q4 q5 q6
        have x0 := rr.frozen 0
        have x1 := rr.frozen 1
        have x2 := rr.frozen 2
        have x3 := rr.frozen 3
        have x4 := rr.frozen 4
        have x5 := rr.frozen 5
        have x6 := rr.frozen 6
        have zr := rr.lt
        clear rr
        go_wp2
        refine bodyPost_ret (cmp_results (u := .slice Au nu cu) (d := d) (show Row _ _ _ (dpCs (.slice Au nu cu) d) from HD.out) rfl) rfl ?_
        rw [HX1.out]
        exact ⟨_, rfl, HG.out, HB.out, HC.out⟩
      · rw [hq, if_pos rfl] at hp5
        have hX1 := HX1.out
        rw [hq, if_pos rfl] at hX1
        have HX1 := Lib.hid hX1
        have HP := Lib.hid hp5
        clear hX1 hq hp5
        go_wp2_with (go_at_call 37; refine stopAt ?_)
        unfold Hid
        refine (take_any g t l'.tail o wNOT w5 HP.out).mono ?_
        rintro e w6 ⟨rfl, hp6, hS6⟩
        have hS6z := hS6.size
        have HRD := Lib.hid (HRD.out.keep hS6 (by omega))
        have HRT := Lib.hid (HRT.out.keep hS6 (by omega))
        have HRR := Lib.hid (HRR.out.keep hS6 (by omega))
        have HE := Lib.hid (HE.out.keep (hS6.mono (S' := fun q => w.heap.size + 1 ≤ q ∧ q ≠ gd) fun q _ h => by have := h.1; omega))
        have HSw := Lib.hid (HSw.out.trans hS6)
        clear hS6 HP
        cases hq : isT wNOT l'.tail
        · rw [hq, if_neg (by simp)] at hp6
          have hX1 := HX1.out
          rw [hq, if_neg (by simp)] at hX1
          have HX1 := Lib.hid hX1
          have HP := Lib.hid hp6
          clear hX1 hq hp6
          have hss := StrR.new w6 g (by omega) [wNULL] (by simp [maxLen])
          have hS7 := (Same.refl (fun _ => True) w6).alloc (.cells (strCs [wNULL]).toArray 9)
          have hz7 : (w6.alloc (.cells (strCs [wNULL]).toArray 9)).heap.size = w6.heap.size + 1 := by simp
          simp only [List.length_cons, List.length_nil, Nat.zero_add, Nat.reduceAdd] at hss
          go_wp2_with (go_at_call 40; refine stopAt ?_)
          unfold Hid
          simp only [strCs, List.map_cons, List.map_nil, wNULL, str] at hS7 hz7 hss
          revert hS7 hz7 hss
          generalize w6.alloc _ = w7
          intro hS7 hz7 hss
          have hp7 := HP.out.keep hS7
          have hS7 := hS7.mono (S' := fun q => q ≠ g) fun _ _ _ => trivial
          have hS7z := hS7.size
          have HRD := Lib.hid (HRD.out.keep hS7 (by omega))
          have HRT := Lib.hid (HRT.out.keep hS7 (by omega))
          have HRR := Lib.hid (HRR.out.keep hS7 (by omega))
          have HE := Lib.hid (HE.out.keep (hS7.mono (S' := fun q => w.heap.size + 1 ≤ q ∧ q ≠ gd) fun q _ h => by have := h.1; omega))
          have HSw := Lib.hid (HSw.out.trans hS7)
          refine (must_any g t l'.tail o [wNULL] _ w7 hp7 hss).mono ?_
          intro e w8 h8
          clear hss hp7 hS7
          cases hm : mustT [wNULL] l'.tail with
          | error p =>
            rw [hm] at h8
            obtain ⟨rfl, hS8⟩ := h8
            have hq : DoP g t o X (DpG w.heap.size) w (.panicked [{ v := failV p.1 p.2, recovered := false }]) w8 := by
              rw [HX1.out, hm]
              exact DoP.err ⟨rfl, hS8⟩ HSw.out fun _ h => h
            exact ⟨rfl, hq⟩
          | ok q =>
            obtain ⟨⟨⟩, l2⟩ := q
            rw [hm] at h8
            obtain ⟨v, rfl, rfl, hp8, hS8⟩ := h8
            have hX2 := HX1.out
            rw [hm, thenT_ok] at hX2
            have HX2 := Lib.hid hX2
            have HP := Lib.hid hp8
            have hS8z := hS8.size
            have HRD := Lib.hid (HRD.out.keep hS8 (by omega))
            have HRT := Lib.hid (HRT.out.keep hS8 (by omega))
            have HRR := Lib.hid (HRR.out.keep hS8 (by omega))
            have HE := Lib.hid (HE.out.keep (hS8.mono (S' := fun q => w.heap.size + 1 ≤ q ∧ q ≠ gd) fun q _ h => by have := h.1; omega))
            have HSw := Lib.hid (HSw.out.trans hS8)
            clear hX2 hp8 hS8 hm HX1
            have hEd : ExR w8 (fun q => w.heap.size + 1 ≤ q ∧ q ≠ gd) (.slice Au nu cu) d.e := HE.out
            have hDR := DpR.one hEd ⟨by omega, by omega⟩
            have hS9 := (Same.refl (fun _ => True) w8).alloc (.cells (dpCs (.slice Au nu cu) d).toArray 155)
            have hz9 : (w8.alloc (.cells (dpCs (.slice Au nu cu) d).toArray 155)).heap.size = w8.heap.size + 1 := by simp
            clear hEd
            have hyr := HRD.out
            have y0 := hyr.cell 0
            have y1 := hyr.cell 1
            have y2 := hyr.cell 2
            have y3 := hyr.cell 3
            have y4 := hyr.cell 4
            have y5 := hyr.cell 5
            have y6 := hyr.cell 6
            simp only [dpCs, List.getElem?_cons_zero, List.getElem?_cons_succ] at y0 y1 y2 y3 y4 y5 y6
            clear hyr
            have hkr := HRT.out
            have k0 := hkr.cell 0
            have k1 := hkr.cell 1
            have k2 := hkr.cell 2
            have k3 := hkr.cell 3
            simp only [tokCs, List.getElem?_cons_zero, List.getElem?_cons_succ] at k0 k1 k2 k3
            clear hkr
            go_wp2_with (go_at_call 142; refine stopAt ?_)
            unfold Hid
            simp only [dpCs] at hS9 hz9 hDR
            revert hS9 hz9 hDR
            generalize w8.alloc _ = w9
            intro hDR hS9 hz9
            have hp9 := HP.out.keep hS9
            have hS9 := hS9.mono (S' := fun q => q ≠ g) fun _ _ _ => trivial
            have hS9z := hS9.size
            have HRD := Lib.hid (HRD.out.keep hS9 (by omega))
            have HRT := Lib.hid (HRT.out.keep hS9 (by omega))
            have HRR := Lib.hid (HRR.out.keep hS9 (by omega))
            have HE := Lib.hid (HE.out.keep (hS9.mono (S' := fun q => w.heap.size + 1 ≤ q ∧ q ≠ gd) fun q _ h => by have := h.1; omega))
            have HSw := Lib.hid (HSw.out.trans hS9)
            refine (op_any tk wISNULL _ [d] _ w9 hDR (by simp) (fun d' h => by simp only [List.mem_cons, List.not_mem_nil, or_false] at h; subst h; omega)).mono ?_
            intro e wa ⟨hA1, hA2, hSa⟩
            clear hDR hS9
            have hpa := hp9.keep hSa
            have hSa := hSa.mono (S' := fun q => q ≠ g) fun _ _ _ => trivial
            have hSaz := hSa.size
            have HRD := Lib.hid (HRD.out.keep hSa (by omega))
            have HRT := Lib.hid (HRT.out.keep hSa (by omega))
            have HRR := Lib.hid (HRR.out.keep hSa (by omega))
            have HE := Lib.hid (HE.out.keep (hSa.mono (S' := fun q => w.heap.size + 1 ≤ q ∧ q ≠ gd) fun q _ h => by have := h.1; omega))
            have HSw := Lib.hid (HSw.out.trans hSa)
            by_cases hdp : 16 < deepOf [d] + 1
            · obtain rfl := hA1 hdp
              have hq : DoP g t o X (DpG w.heap.size) w (.panicked [{ v := failV tk.1 3, recovered := false }]) wa := by
                rw [HX2.out]
                unfold opT
                rw [if_pos hdp]
                exact DoP.err ⟨rfl, Same.refl _ _⟩ HSw.out fun _ h => h
              exact ⟨rfl, hq⟩
            · obtain ⟨u3, rfl, hex3⟩ := hA2 hdp
              obtain ⟨A3, c3, rfl, -, -⟩ := hex3.toL.form
              have hX3 := HX2.out
              rw [opT_ok (by omega)] at hX3
              obtain ⟨D3, hD3⟩ : ∃ D3, D3 = opD wISNULL [d] := ⟨_, rfl⟩
              rw [← hD3] at hex3 hX3 ⊢
              generalize D3.e.args.length = n3 at *
              have HX3 := Lib.hid hX3
              have HPx := Lib.hid hpa
              have HRx := HRR
              have HEx := Lib.hid (hex3.mono (S' := fun q => w.heap.size + 1 ≤ q) fun q _ h => by have h : (w.heap.size + 1 ≤ q ∧ q ≠ gd) ∨ w9.heap.size ≤ q := h; omega)
              have HSx := HSw
              clear hX3 hpa hex3 hSa hA1 hA2 hdp hD3 HX2
              obtain ⟨hD, hG, hB, hC⟩ := fin_dp (u := .slice A3 n3 c3) (d := D3) HPx.out HL3.out HRx.out HEx.out HSx.out
              have HD := Lib.hid hD
              have HG := Lib.hid hG
              have HB := Lib.hid hB
              have HC := Lib.hid hC
              clear hD hG hB hC
              have rr := HRx.out
              have q0 := rr.cell 0
              have q1 := rr.cell 1
              have q2 := rr.cell 2
              have q3 := rr.cell 3
              have q4 := rr.cell 4
              have q5 := rr.cell 5
              have q6 := rr.cell 6
              simp only [dpCs, zdp, List.getElem?_cons_zero, List.getElem?_cons_succ] at q0 q1 q2 q3 q4 q5 q6
              have x0 := rr.frozen 0
              have x1 := rr.frozen 1
              have x2 := rr.frozen 2
              have x3 := rr.frozen 3
              have x4 := rr.frozen 4
              have x5 := rr.frozen 5
              have x6 := rr.frozen 6
              have zr := rr.lt
              clear rr
              go_wp2
              refine bodyPost_ret (cmp_results (u := .slice A3 n3 c3) (d := D3) (show Row _ _ _ (dpCs (.slice A3 n3 c3) D3) from HD.out) rfl) rfl ?_
              rw [HX3.out]
              exact ⟨_, rfl, HG.out, HB.out, HC.out⟩
        · rw [hq, if_pos rfl] at hp6
          have hX1 := HX1.out
          rw [hq, if_pos rfl] at hX1
          have HX1 := Lib.hid hX1
          have HP := Lib.hid hp6
          clear hX1 hq hp6
          have hss := StrR.new w6 g (by omega) [wNULL] (by simp [maxLen])
          have hS7 := (Same.refl (fun _ => True) w6).alloc (.cells (strCs [wNULL]).toArray 9)
          have hz7 : (w6.alloc (.cells (strCs [wNULL]).toArray 9)).heap.size = w6.heap.size + 1 := by simp
          simp only [List.length_cons, List.length_nil, Nat.zero_add, Nat.reduceAdd] at hss
          go_wp2_with (go_at_call 40; refine stopAt ?_)
          unfold Hid
          simp only [strCs, List.map_cons, List.map_nil, wNULL, str] at hS7 hz7 hss
          revert hS7 hz7 hss
          generalize w6.alloc _ = w7
          intro hS7 hz7 hss
          have hp7 := HP.out.keep hS7
          have hS7 := hS7.mono (S' := fun q => q ≠ g) fun _ _ _ => trivial
          have hS7z := hS7.size
          have HRD := Lib.hid (HRD.out.keep hS7 (by omega))
          have HRT := Lib.hid (HRT.out.keep hS7 (by omega))
          have HRR := Lib.hid (HRR.out.keep hS7 (by omega))
          have HE := Lib.hid (HE.out.keep (hS7.mono (S' := fun q => w.heap.size + 1 ≤ q ∧ q ≠ gd) fun q _ h => by have := h.1; omega))
          have HSw := Lib.hid (HSw.out.trans hS7)
          refine (must_any g t l'.tail.tail o [wNULL] _ w7 hp7 hss).mono ?_
          intro e w8 h8
          clear hss hp7 hS7
          cases hm : mustT [wNULL] l'.tail.tail with
          | error p =>
            rw [hm] at h8
            obtain ⟨rfl, hS8⟩ := h8
            have hq : DoP g t o X (DpG w.heap.size) w (.panicked [{ v := failV p.1 p.2, recovered := false }]) w8 := by
              rw [HX1.out, hm]
              exact DoP.err ⟨rfl, hS8⟩ HSw.out fun _ h => h
            exact ⟨rfl, hq⟩
          | ok q =>
            obtain ⟨⟨⟩, l2⟩ := q
            rw [hm] at h8
            obtain ⟨v, rfl, rfl, hp8, hS8⟩ := h8
            have hX2 := HX1.out
            rw [hm, thenT_ok] at hX2
            have HX2 := Lib.hid hX2
            have HP := Lib.hid hp8
            have hS8z := hS8.size
            have HRD := Lib.hid (HRD.out.keep hS8 (by omega))
            have HRT := Lib.hid (HRT.out.keep hS8 (by omega))
            have HRR := Lib.hid (HRR.out.keep hS8 (by omega))
            have HE := Lib.hid (HE.out.keep (hS8.mono (S' := fun q => w.heap.size + 1 ≤ q ∧ q ≠ gd) fun q _ h => by have := h.1; omega))
            have HSw := Lib.hid (HSw.out.trans hS8)
            clear hX2 hp8 hS8 hm HX1
            have hEd : ExR w8 (fun q => w.heap.size + 1 ≤ q ∧ q ≠ gd) (.slice Au nu cu) d.e := HE.out
            have hDR := DpR.one hEd ⟨by omega, by omega⟩
            have hS9 := (Same.refl (fun _ => True) w8).alloc (.cells (dpCs (.slice Au nu cu) d).toArray 155)
            have hz9 : (w8.alloc (.cells (dpCs (.slice Au nu cu) d).toArray 155)).heap.size = w8.heap.size + 1 := by simp
            clear hEd
            have hyr := HRD.out
            have y0 := hyr.cell 0
            have y1 := hyr.cell 1
            have y2 := hyr.cell 2
            have y3 := hyr.cell 3
            have y4 := hyr.cell 4
            have y5 := hyr.cell 5
            have y6 := hyr.cell 6
            simp only [dpCs, List.getElem?_cons_zero, List.getElem?_cons_succ] at y0 y1 y2 y3 y4 y5 y6
            clear hyr
            have hkr := HRT.out
            have k0 := hkr.cell 0
            have k1 := hkr.cell 1
            have k2 := hkr.cell 2
            have k3 := hkr.cell 3
            simp only [tokCs, List.getElem?_cons_zero, List.getElem?_cons_succ] at k0 k1 k2 k3
            clear hkr
            go_wp2_with (go_at_call 142; refine stopAt ?_)
            unfold Hid
            simp only [dpCs] at hS9 hz9 hDR
            revert hS9 hz9 hDR
            generalize w8.alloc _ = w9
            intro hDR hS9 hz9
            have hp9 := HP.out.keep hS9
            have hS9 := hS9.mono (S' := fun q => q ≠ g) fun _ _ _ => trivial
            have hS9z := hS9.size
            have HRD := Lib.hid (HRD.out.keep hS9 (by omega))
            have HRT := Lib.hid (HRT.out.keep hS9 (by omega))
            have HRR := Lib.hid (HRR.out.keep hS9 (by omega))
            have HE := Lib.hid (HE.out.keep (hS9.mono (S' := fun q => w.heap.size + 1 ≤ q ∧ q ≠ gd) fun q _ h => by have := h.1; omega))
            have HSw := Lib.hid (HSw.out.trans hS9)
            refine (op_any tk wNOTNULL _ [d] _ w9 hDR (by simp) (fun d' h => by simp only [List.mem_cons, List.not_mem_nil, or_false] at h; subst h; omega)).mono ?_
            intro e wa ⟨hA1, hA2, hSa⟩
            clear hDR hS9
            have hpa := hp9.keep hSa
            have hSa := hSa.mono (S' := fun q => q ≠ g) fun _ _ _ => trivial
            have hSaz := hSa.size
            have HRD := Lib.hid (HRD.out.keep hSa (by omega))
            have HRT := Lib.hid (HRT.out.keep hSa (by omega))
            have HRR := Lib.hid (HRR.out.keep hSa (by omega))
            have HE := Lib.hid (HE.out.keep (hSa.mono (S' := fun q => w.heap.size + 1 ≤ q ∧ q ≠ gd) fun q _ h => by have := h.1; omega))
            have HSw := Lib.hid (HSw.out.trans hSa)
            by_cases hdp : 16 < deepOf [d] + 1
            · obtain rfl := hA1 hdp
              have hq : DoP g t o X (DpG w.heap.size) w (.panicked [{ v := failV tk.1 3, recovered := false }]) wa := by
                rw [HX2.out]
                unfold opT
                rw [if_pos hdp]
                exact DoP.err ⟨rfl, Same.refl _ _⟩ HSw.out fun _ h => h
              exact ⟨rfl, hq⟩
            · obtain ⟨u3, rfl, hex3⟩ := hA2 hdp
              obtain ⟨A3, c3, rfl, -, -⟩ := hex3.toL.form
              have hX3 := HX2.out
              rw [opT_ok (by omega)] at hX3
              obtain ⟨D3, hD3⟩ : ∃ D3, D3 = opD wNOTNULL [d] := ⟨_, rfl⟩
              rw [← hD3] at hex3 hX3 ⊢
              generalize D3.e.args.length = n3 at *
              have HX3 := Lib.hid hX3
              have HPx := Lib.hid hpa
              have HRx := HRR
              have HEx := Lib.hid (hex3.mono (S' := fun q => w.heap.size + 1 ≤ q) fun q _ h => by have h : (w.heap.size + 1 ≤ q ∧ q ≠ gd) ∨ w9.heap.size ≤ q := h; omega)
              have HSx := HSw
              clear hX3 hpa hex3 hSa hA1 hA2 hdp hD3 HX2
              obtain ⟨hD, hG, hB, hC⟩ := fin_dp (u := .slice A3 n3 c3) (d := D3) HPx.out HL3.out HRx.out HEx.out HSx.out
              have HD := Lib.hid hD
              have HG := Lib.hid hG
              have HB := Lib.hid hB
              have HC := Lib.hid hC
              clear hD hG hB hC
              have rr := HRx.out
              have q0 := rr.cell 0
              have q1 := rr.cell 1
              have q2 := rr.cell 2
              have q3 := rr.cell 3
              have q4 := rr.cell 4
              have q5 := rr.cell 5
              have q6 := rr.cell 6
              simp only [dpCs, zdp, List.getElem?_cons_zero, List.getElem?_cons_succ] at q0 q1 q2 q3 q4 q5 q6
              have x0 := rr.frozen 0
              have x1 := rr.frozen 1
              have x2 := rr.frozen 2
              have x3 := rr.frozen 3
              have x4 := rr.frozen 4
              have x5 := rr.frozen 5
              have x6 := rr.frozen 6
              have zr := rr.lt
              clear rr
              go_wp2
              refine bodyPost_ret (cmp_results (u := .slice A3 n3 c3) (d := D3) (show Row _ _ _ (dpCs (.slice A3 n3 c3) D3) from HD.out) rfl) rfl ?_
              rw [HX3.out]
              exact ⟨_, rfl, HG.out, HB.out, HC.out⟩
    · have hX1 := HX1.out
      rw [hq, if_pos rfl] at hX1
      have HX0 := Lib.hid hX1
      have Hkd := Lib.hid (begins_kind hq)
      clear hX1 hq HX1
      obtain ⟨off, c, hrow, hc, hm, hl, hl2, hc1, t0, t1, t2, t3, HN⟩ := PS.step HP.out Hkd.out
      unfold maxLen at hm
      have b0 := hrow.cell 0
      simp only [List.getElem?_cons_zero] at b0
      have f0 := hrow.frozen 0
      have hl0 : (0 : Int) < (l'.length : Int) := by omega
      clear hrow
      have hSg : Same (fun q => q ≠ g) w4 (w4.setCell ⟨g, 0, none⟩ (.slice (some ⟨t, off + 4, none⟩) (l'.length - 1) (c - 1))) := (Same.refl _ _).setCell (fun _ h => h rfl) _
      have hzg := size_set w4 ⟨g, 0, none⟩ (.slice (some ⟨t, off + 4, none⟩) (l'.length - 1) (c - 1))
      have hrd := HRD.out.keep hSg (by omega)
      have hrt := HRT.out.keep hSg (by omega)
      have hrr := HRR.out.keep hSg (by omega)
      have hEg := HE.out.keep (hSg.mono (S' := fun q => w.heap.size + 1 ≤ q ∧ q ≠ gd) fun q _ h => by have := h.1; omega)
      have hSg := HSw.out.trans hSg
      have HN := Lib.hid HN
      have Hrd := Lib.hid hrd
      have Hrt := Lib.hid hrt
      have Hrr := Lib.hid hrr
      have HEg := Lib.hid hEg
      have HSg := Lib.hid hSg
      clear hrd hrt hrr hEg hSg HRD HRT HRR HE HSw HP
      go_upto_region 5 with (fail)
      revert HN Hrd Hrt Hrr HEg HSg hzg
      generalize w4.setCell _ _ = w5
      intro hzg HN Hrd Hrt Hrr HEg HSg
      have HPw : Hid (PS w5 g t l'.tail o) := Lib.hid HN.out
      have HRw := Hrr
      have HSw := HSg
      have hyr := Hrd.out
      have hkr := Hrt.out
      have y0 := hyr.cell 0
      have y1 := hyr.cell 1
      have y2 := hyr.cell 2
      have y3 := hyr.cell 3
      have y4 := hyr.cell 4
      have y5 := hyr.cell 5
      have y6 := hyr.cell 6
      simp only [dpCs, List.getElem?_cons_zero, List.getElem?_cons_succ] at y0 y1 y2 y3 y4 y5 y6
      have k0 := hkr.cell 0
      have k1 := hkr.cell 1
      have k2 := hkr.cell 2
      have k3 := hkr.cell 3
      simp only [tokCs, List.getElem?_cons_zero, List.getElem?_cons_succ] at k0 k1 k2 k3
      have htok : TR g w.heap.size (gd + 1) := ⟨by omega, by omega⟩
      have hdin : TR g w.heap.size gd := ⟨by omega, by omega⟩
      have HEd : Hid (∀ wc, Same (TR g w.heap.size) w5 wc → ExR wc (fun q => w.heap.size + 1 ≤ q ∧ q ≠ w.heap.size) (.slice Au nu cu) d.e) := Lib.hid fun wc hs => (HEg.out.keep (hs.mono fun q _ h => ⟨by have := h.1; omega, by have := h.1; omega⟩)).mono fun q _ h => ⟨h.1, by have := h.1; omega⟩
      clear hyr hkr HN Hrd Hrt Hrr HEg HSg t0 t1 t2 t3 b0 f0
      obtain ⟨x, hxe⟩ : ∃ x, x = F l'.tail := ⟨_, rfl⟩
      have Hxe := Lib.hid hxe
      have hgB : g < w.heap.size + 1 := by omega
      have HXr : Hid (∀ p, x = .error p → X = .error p) := Lib.hid fun p hp => by rw [HX0.out, ← hxe, hp]; rfl
      have HXo : Hid (x = .ok (valT x, leftT x) → 16 < deepOf [d, valT x] + 1 → X = .error (tk.1, 3)) := Lib.hid fun hp hd => by
        rw [HX0.out, ← hxe]
        conv => lhs; rw [hp]
        rw [thenT_ok]
        unfold opT
        rw [if_pos hd]
      have HXk : Hid (x = .ok (valT x, leftT x) → deepOf [d, valT x] ≤ 15 → X = .ok (opD tk.2.s [d, valT x], leftT x)) := Lib.hid fun hp hd => by
        rw [HX0.out, ← hxe]
        conv => lhs; rw [hp]
        rw [thenT_ok, opT_ok hd]
      have HD16 : Hid (x = .ok (valT x, leftT x) → ∀ d' ∈ [d, valT x], d'.n ≤ 1000000) := Lib.hid fun hp d' hd' => by
        have := H16.out l'.tail (valT x) (leftT x) (hxe.symm.trans hp)
        simp only [List.mem_cons, List.not_mem_nil, or_false] at hd'
        rcases hd' with rfl | rfl <;> omega
      have HST : Hid (RegS g t o w.heap.size (w.heap.size + 1) l'.tail (leftT x) zdp (opD tk.2.s [d, valT x]) (x = .ok (valT x, leftT x) ∧ deepOf [d, valT x] ≤ 15) false false w5.drew) := Lib.hid (RegS.keep (W := w5) ⟨HPw.out, fun _ => HRw.out, fun h => by cases h⟩ (Same.refl _ _).drew)
      have HS3 := HSw
      clear hxe
      refine wp_region_full_lit (T := TR g (w.heap.size)) (L := [some (.eq (tokV4 tk)), some (.eq (.pointer (some ⟨gd + 1, 2, none⟩))), some (.eq (.string (str tk.2.s))), some (.eq (dpV (.slice Au nu cu) d)), some (.eq (pV g)), some (.eq (pV g)), some (.eq (.func (.func 150) #[pV g] #[])), some (RuS g (w.heap.size) (w.heap.size + 1) hgB x), some (SlS g (w.heap.size) (w.heap.size + 1) hgB [d, valT x] (x = .ok (valT x, leftT x))), some (OpS g (w.heap.size) (w.heap.size + 1) hgB (opD tk.2.s [d, valT x]) (x = .ok (valT x, leftT x) ∧ deepOf [d, valT x] ≤ 15)), none]) (fun f _ W => RegS g t o (w.heap.size) (w.heap.size + 1) l'.tail (leftT x) (zdp) (opD tk.2.s [d, valT x]) (x = .ok (valT x, leftT x) ∧ deepOf [d, valT x] ≤ 15) (f 7) (f 10) W) (by kernel_rfl) (by kernel_rfl) (by rfl) rfl ?_ ?_ ?_
      · exact HST.out
      · refine ⟨?_, ?_, ?_, ?_, ?_, ?_, ?_, ?_, ?_, ?_, ?_, trivial⟩
        · intro ac wc f hs hst hni hwt hdn hd hz hf hw K hK
          generalize hU : valF _ ac = U at hst hK
          have e0 : ac.eval (.tmp 4) = (.pointer (some ⟨gd + 1, 0, none⟩)) := hf 4 rfl
          have m0 : wc.cell? ⟨gd + 1, 0, none⟩ = some (.int .i64 tk.2.kind) := hs.cell (p := ⟨gd + 1, 0, none⟩) htok k0
          have m1 : wc.cell? ⟨gd + 1, 1, none⟩ = some (.int .i64 tk.1) := hs.cell (p := ⟨gd + 1, 1, none⟩) htok k1
          have m2 : wc.cell? ⟨gd + 1, 2, none⟩ = some (.string (str tk.2.s)) := hs.cell (p := ⟨gd + 1, 2, none⟩) htok k2
          have m3 : wc.cell? ⟨gd + 1, 3, none⟩ = some (.int .i64 tk.2.n) := hs.cell (p := ⟨gd + 1, 3, none⟩) htok k3
          clear hd hz hf hw
          simp only [Region.wanted, if_true, Oper.wp, execOp, resolve, List.map_toArray, List.map_cons, List.map_nil, Option.map_some, Option.map_none, e0]
          go_simp
          exact hK _ _ (fun _ => rfl) (Same.refl _ _) hst
        · intro ac wc f hs hst hni hwt hdn hd hz hf hw K hK
          generalize hU : valF _ ac = U at hst hK
          have e0 : ac.eval (.tmp 4) = (.pointer (some ⟨gd + 1, 0, none⟩)) := hf 4 rfl
          clear hd hz hf hw
          simp only [Region.wanted, if_true, Oper.wp, execOp, resolve, List.map_toArray, List.map_cons, List.map_nil, Option.map_some, Option.map_none, e0]
          go_simp
          exact hK _ _ (fun _ => rfl) (Same.refl _ _) hst
        · intro ac wc f hs hst hni hwt hdn hd hz hf hw K hK
          generalize hU : valF _ ac = U at hst hK
          have e0 : ac.eval (.tmp 29) = (.pointer (some ⟨gd + 1, 2, none⟩)) := hw 1 rfl
          have m0 : wc.cell? ⟨gd + 1, 2, none⟩ = some (.string (str tk.2.s)) := hs.cell (p := ⟨gd + 1, 2, none⟩) htok k2
          clear hd hz hf hw
          simp only [Region.wanted, if_true, Oper.wp, execOp, resolve, List.map_toArray, List.map_cons, List.map_nil, Option.map_some, Option.map_none, e0]
          go_simp
          exact hK _ _ (fun _ => rfl) (Same.refl _ _) hst
        · intro ac wc f hs hst hni hwt hdn hd hz hf hw K hK
          generalize hU : valF _ ac = U at hst hK
          have e0 : ac.eval (.tmp 3) = (.pointer (some ⟨gd, 0, none⟩)) := hf 3 rfl
          have m0 : wc.cell? ⟨gd, 0, none⟩ = some (.int .i64 d.e.kind) := hs.cell (p := ⟨gd, 0, none⟩) hdin y0
          have m1 : wc.cell? ⟨gd, 1, none⟩ = some (.string (str d.e.s)) := hs.cell (p := ⟨gd, 1, none⟩) hdin y1
          have m2 : wc.cell? ⟨gd, 2, none⟩ = some (.int .i64 d.e.v.kind) := hs.cell (p := ⟨gd, 2, none⟩) hdin y2
          have m3 : wc.cell? ⟨gd, 3, none⟩ = some (.int .i64 d.e.v.n) := hs.cell (p := ⟨gd, 3, none⟩) hdin y3
          have m4 : wc.cell? ⟨gd, 4, none⟩ = some (.string (str d.e.v.s)) := hs.cell (p := ⟨gd, 4, none⟩) hdin y4
          have m5 : wc.cell? ⟨gd, 5, none⟩ = some (.slice Au nu cu) := hs.cell (p := ⟨gd, 5, none⟩) hdin y5
          have m6 : wc.cell? ⟨gd, 6, none⟩ = some (.int .i64 d.n) := hs.cell (p := ⟨gd, 6, none⟩) hdin y6
          clear hd hz hf hw
          simp only [Region.wanted, if_true, Oper.wp, execOp, resolve, List.map_toArray, List.map_cons, List.map_nil, Option.map_some, Option.map_none, e0]
          go_simp
          exact hK _ _ (fun _ => rfl) (Same.refl _ _) hst
        · intro ac wc f hs hst hni hwt hdn hd hz hf hw K hK
          generalize hU : valF _ ac = U at hst hK
          have e0 : ac.eval (.tmp 0) = (pV g) := hf 0 rfl
          clear hd hz hf hw
          simp only [Region.wanted, if_true, Oper.wp, execOp, resolve, List.map_toArray, List.map_cons, List.map_nil, Option.map_some, Option.map_none, e0]
          go_simp
          exact hK _ _ (fun _ => rfl) (Same.refl _ _) hst
        · intro ac wc f hs hst hni hwt hdn hd hz hf hw K hK
          generalize hU : valF _ ac = U at hst hK
          have e0 : ac.eval (.tmp 0) = (pV g) := hf 0 rfl
          clear hd hz hf hw
          simp only [Region.wanted, if_true, Oper.wp, execOp, resolve, List.map_toArray, List.map_cons, List.map_nil, Option.map_some, Option.map_none, e0]
          go_simp
          exact hK _ _ (fun _ => rfl) (Same.refl _ _) hst
        · intro ac wc f hs hst hni hwt hdn hd hz hf hw K hK
          generalize hU : valF _ ac = U at hst hK
          have e0 : ac.eval (.tmp 33) = (pV g) := hw 5 rfl
          clear hd hz hf hw
          simp only [Region.wanted, if_true, Oper.wp, execOp, resolve, List.map_toArray, List.map_cons, List.map_nil, Option.map_some, Option.map_none, e0]
          go_simp
          exact hK _ _ (fun _ => rfl) (Same.refl _ _) hst
        · intro ac wc f hs hst hni hwt hdn hd hz hf hw K hK
          generalize hU : valF _ ac = U at hst hK
          have e0 : ac.eval (.tmp 32) = (pV g) := hw 4 rfl
          have e1 : ac.eval (.tmp 34) = (.func (.func 150) #[pV g] #[]) := hw 6 rfl
          have Hdf := Lib.hid (show ac.defers = [] from hd)
          have h9 : f 10 = false := by
            cases h : f 10 with
            | false => rfl
            | true => (have h8 := hdn 10 9 rfl h; have h7 := hdn 9 8 rfl h8; have h6 := hdn 8 7 rfl h7; rw [hni] at h6; cases h6)
          have hps : PS wc g t l'.tail o := by
            have := hst.1
            rw [hni] at this
            exact this
          have hrd := hst.2.1 h9
          clear hd hz hf hw
          simp only [Region.wanted, if_true, Oper.wp, execOp, resolve, List.map_toArray, List.map_cons, List.map_nil, Option.map_some, Option.map_none, e0, e1]
          go_simp
          refine (HR.out l'.tail wc hps).mono ?_
          intro e wd h1
          cases hx : F l'.tail with
          | error p =>
            rw [hx] at h1
            obtain ⟨rfl, hSp⟩ := h1
            have hq : DoP g t o X (DpG w.heap.size) w (.panicked [{ v := failV p.1 p.2, recovered := false }]) wd := by
              rw [HXr.out p (Hxe.out.trans hx)]
              exact DoP.err ⟨rfl, hSp⟩ (HS3.out.trans' hs fun q hq h => ⟨h, by omega⟩) fun _ h => h
            exact ⟨Hdf.out, hq⟩
          | ok q =>
            rw [hx] at h1
            obtain ⟨v', rfl, ⟨u2, rfl, hex2⟩, hp2, hS2⟩ := h1
            have hxx : x = .ok (valT x, leftT x) := by rw [Hxe.out, hx]; rfl
            have hx1 : valT x = q.1 := by rw [Hxe.out, hx]; rfl
            have hx2 : leftT x = q.2 := by rw [Hxe.out, hx]; rfl
            have hzc := hs.size
            refine hK _ _ (fun _ => ⟨u2, by rw [hx1], by rw [hx1]; exact hex2.mono fun k hk (h : wc.heap.size ≤ k) => ⟨by omega, by omega⟩, hxx⟩) (hS2.mono fun k hk h => h.1) ⟨?_, ?_, ?_⟩
            · show PS wd g t (leftT x) o
              rw [hx2]
              exact hp2
            · intro _
              exact hrd.keep hS2 (by omega)
            · intro h
              have h : f 10 = true := h
              rw [h9] at h
              cases h
        · intro ac wc f hs hst hni hwt hdn hd hz hf hw K hK
          generalize hU : valF _ ac = U at hst hK
          have e0 : ac.eval (.tmp 31) = (dpV (.slice Au nu cu) d) := hw 3 rfl
          have p1 : (RuS g (w.heap.size) (w.heap.size + 1) hgB x : SPT (TR g (w.heap.size))).p (ac.eval (.tmp 35)) wc := hw 7 rfl
          obtain ⟨u1, e1⟩ : ∃ u, ac.eval (.tmp 35) = u := ⟨_, rfl⟩
          have v1 : U 7 = u1 := by rw [← hU]; exact e1
          rw [e1] at p1
          obtain ⟨u2, rfl, hex2, hxx⟩ := p1
          obtain ⟨A2, c2, rfl, -, -⟩ := hex2.toL.form
          have Hxx := Lib.hid hxx
          clear hxx
          have Hex2 := Lib.hid hex2
          clear hex2
          clear hd hz hf hw
          simp only [Region.wanted, if_true, Oper.wp, execOp, resolve, List.map_toArray, List.map_cons, List.map_nil, Option.map_some, Option.map_none, e0, e1]
          go_simp
          have hzc := hs.size
          have hex2 := Hex2.out
          have hxx := Hxx.out
          exact hK _ _ (fun _ => ⟨DpR.two (HEd.out wc hs) hex2 ⟨by omega, by omega⟩, hxx⟩) ((Same.refl _ _).alloc _) (RegS.keep hst ((Same.refl _ _).alloc _))
        · intro ac wc f hs hst hni hwt hdn hd hz hf hw K hK
          generalize hU : valF _ ac = U at hst hK
          have e0 : ac.eval (.tmp 28) = (tokV4 tk) := hw 0 rfl
          have e1 : ac.eval (.tmp 30) = (.string (str tk.2.s)) := hw 2 rfl
          have p2 : (SlS g (w.heap.size) (w.heap.size + 1) hgB [d, valT x] (x = .ok (valT x, leftT x)) : SPT (TR g (w.heap.size))).p (ac.eval (.tmp 36)) wc := hw 8 rfl
          obtain ⟨u2, e2⟩ : ∃ u, ac.eval (.tmp 36) = u := ⟨_, rfl⟩
          have v2 : U 8 = u2 := by rw [← hU]; exact e2
          rw [e2] at p2
          have Hdf := Lib.hid (show ac.defers = [] from hd)
          have HSB := Lib.hid p2
          clear p2
          clear hd hz hf hw
          simp only [Region.wanted, if_true, Oper.wp, execOp, resolve, List.map_toArray, List.map_cons, List.map_nil, Option.map_some, Option.map_none, e0, e1, e2]
          go_simp
          obtain ⟨hsb, hxx⟩ := HSB.out
          refine (op_any tk tk.2.s _ [d, valT x] _ wc hsb (by simp) (HD16.out hxx)).mono ?_
          intro e wd ⟨hA1, hA2, hS2⟩
          have hzc := hs.size
          by_cases hdp : 16 < deepOf [d, valT x] + 1
          · obtain rfl := hA1 hdp
            have hq : DoP g t o X (DpG w.heap.size) w (.panicked [{ v := failV tk.1 3, recovered := false }]) wd := by
              rw [HXo.out hxx hdp]
              exact DoP.err ⟨rfl, hS2.mono fun _ _ _ => trivial⟩ (HS3.out.trans' hs fun q hq h => ⟨h, by omega⟩) fun _ h => h
            exact ⟨Hdf.out, hq⟩
          · obtain ⟨u3, rfl, hex3⟩ := hA2 hdp
            exact hK _ _ (fun _ => ⟨u3, rfl, hex3.mono fun k hk h => h.elim id fun h => ⟨by omega, by omega⟩, hxx, by omega⟩) (hS2.mono fun _ _ _ => trivial) (RegS.keep hst hS2)
        · intro ac wc f hs hst hni hwt hdn hd hz hf hw K hK
          generalize hU : valF _ ac = U at hst hK
          have e0 : ac.eval (.tmp 2) = (.pointer (some ⟨w.heap.size, 0, none⟩)) := hf 2 rfl
          have p1 : (OpS g (w.heap.size) (w.heap.size + 1) hgB (opD tk.2.s [d, valT x]) (x = .ok (valT x, leftT x) ∧ deepOf [d, valT x] ≤ 15) : SPT (TR g (w.heap.size))).p (ac.eval (.tmp 37)) wc := hw 9 rfl
          obtain ⟨u1, e1⟩ : ∃ u, ac.eval (.tmp 37) = u := ⟨_, rfl⟩
          have v1 : U 9 = u1 := by rw [← hU]; exact e1
          rw [e1] at p1
          obtain ⟨u3, rfl, hex3, hok⟩ := p1
          have Hok := Lib.hid hok
          clear hok
          obtain ⟨A3, c3, rfl, -, -⟩ := hex3.toL.form
          generalize (opD tk.2.s [d, valT x]).e.args.length = n3 at *
          have hr_ := hst.2.1 hni
          have m0 := hr_.cell 0
          have m1 := hr_.cell 1
          have m2 := hr_.cell 2
          have m3 := hr_.cell 3
          have m4 := hr_.cell 4
          have m5 := hr_.cell 5
          have m6 := hr_.cell 6
          simp only [dpCs, zdp, List.getElem?_cons_zero, List.getElem?_cons_succ] at m0 m1 m2 m3 m4 m5 m6
          have n0_ := hr_.frozen 0
          have n1_ := hr_.frozen 1
          have n2_ := hr_.frozen 2
          have n3_ := hr_.frozen 3
          have n4_ := hr_.frozen 4
          have n5_ := hr_.frozen 5
          have n6_ := hr_.frozen 6
          have zr := hr_.lt
          clear hd hz hf hw
          simp only [Region.wanted, if_true, Oper.wp, execOp, resolve, List.map_toArray, List.map_cons, List.map_nil, Option.map_some, Option.map_none, e0, e1]
          go_simp
          have hss : Same (fun q => q ≠ w.heap.size) wc (setsW wc (w.heap.size) 0 (dpCs (.slice A3 n3 c3) (opD tk.2.s [d, valT x]))) := Same.sets (fun h => h rfl) _ 0 (Same.refl _ _)
          have hA := hst.1.keepB hss (by omega) (by omega) (by omega)
          have hB := hr_.sets (dpCs (.slice A3 n3 c3) (opD tk.2.s [d, valT x])) 0
          have hC := hex3.keep (hss.mono (S' := fun q => w.heap.size + 1 ≤ q ∧ q ≠ w.heap.size) fun k _ h => h.2)
          have hD := hss.mono (S' := TR g (w.heap.size)) fun k _ h => h.2
          refine hK undef _ (fun h => (by cases h)) ?_ ⟨?_, ?_, ?_⟩
          · exact hD
          · exact hA
          · exact fun h => (by cases h)
          · exact fun _ => ⟨Hok.out, .slice A3 n3 c3, hB, hC⟩
      · intro vs wR f hvl hvp hsR hst hfR
        rcases vs with _ | ⟨z0, _ | ⟨z1, _ | ⟨z2, _ | ⟨z3, _ | ⟨z4, _ | ⟨z5, _ | ⟨z6, _ | ⟨z7, _ | ⟨z8, _ | ⟨z9, _ | ⟨z10, _ | ⟨zz, zr⟩⟩⟩⟩⟩⟩⟩⟩⟩⟩⟩⟩
        rotate_right 1
        · simp at hvl
        · simp at hvl
        · simp at hvl
        · simp at hvl
        · simp at hvl
        · simp at hvl
        · simp at hvl
        · simp at hvl
        · simp at hvl
        · simp at hvl
        · simp at hvl
        · simp at hvl
        · obtain rfl : z0 = (tokV4 tk) := hvp 0 (by simp)
          obtain rfl : z1 = (.pointer (some ⟨gd + 1, 2, none⟩)) := hvp 1 (by simp)
          obtain rfl : z2 = (.string (str tk.2.s)) := hvp 2 (by simp)
          obtain rfl : z3 = (dpV (.slice Au nu cu) d) := hvp 3 (by simp)
          obtain rfl : z4 = (pV g) := hvp 4 (by simp)
          obtain rfl : z5 = (pV g) := hvp 5 (by simp)
          obtain rfl : z6 = (.func (.func 150) #[pV g] #[]) := hvp 6 (by simp)
          have hru : (RuS g (w.heap.size) (w.heap.size + 1) hgB x : SPT (TR g (w.heap.size))).p z7 wR := hvp 7 (by simp)
          have hsb : (SlS g (w.heap.size) (w.heap.size + 1) hgB [d, valT x] (x = .ok (valT x, leftT x)) : SPT (TR g (w.heap.size))).p z8 wR := hvp 8 (by simp)
          have hpo : (OpS g (w.heap.size) (w.heap.size + 1) hgB (opD tk.2.s [d, valT x]) (x = .ok (valT x, leftT x) ∧ deepOf [d, valT x] ≤ 15) : SPT (TR g (w.heap.size))).p z9 wR := hvp 9 (by simp)
          clear hvl hvp
          simp only [putAll, Act.put, List.setIfInBounds_toArray, List.set_cons_succ, List.set_cons_zero, List.take_succ_cons, List.take_zero, List.drop_succ_cons, List.drop_zero]
          clear hru hsb hpo
          have hst := hst
          rw [hfR 7, hfR 10] at hst
          obtain ⟨hpR, -, hnew⟩ := hst
          obtain ⟨⟨hxx, hdo⟩, u3, hrN, hexN⟩ := hnew rfl
          have hpR : PS wR g t (leftT x) o := hpR
          have HSe := Lib.hid (HSw.out.trans' hsR fun q hq h => ⟨h, by omega⟩)
          have HPe := Lib.hid hpR
          have HRe := Lib.hid hrN
          have HEe := Lib.hid (hexN.mono (S' := fun q => w.heap.size ≤ q) fun q _ h => by have := h.1; omega)
          have HXe := Lib.hid (HXk.out hxx hdo)
          clear hpR hnew hxx hdo hrN hexN
          go_wp2
          refine bodyPost_ret (cmp_results (show Row _ _ _ (dpCs u3 _) from HRe.out) rfl) rfl ?_
          rw [HXe.out]
          exact ⟨_, rfl, ⟨_, rfl, HEe.out⟩, HPe.out, HSe.out⟩
def zval : List Value := [.int .i64 0, .int .i64 0, .string ⟨#[]⟩]
theorem ExR.lf (w : World) (S : Nat → Prop) (k : Int) (s : List UInt8) (v : Val) : ExR w S (.slice none 0 0) (.mk k s v []) := .mk k s v [] [] none 0 rfl (Nat.le_refl _) (by simp [maxLen]) (by simpa using Sl.nil w S 6 none) (fun i u e h => by simp at h)
theorem no_kind {a : Nat} {b : Nat} (h : ¬ a = b) : ((a : Int) == (b : Int)) = false := by simpa using fun h' : (a : Int) = b => h (by omega)
theorem unary_results {W : World} {k : Nat} {u : Value} {d : Dp} (R : Row W k 155 (dpCs u d)) {tmps : Array Value} (h1 : tmps.getD 2 undef = .pointer (some ⟨k, 0, none⟩)) :
    (results Tryz.f152 tmps).run Tryz.prog W = .ok (dpV u d) W := by
  have d0 : W.cell? ⟨k, 0, none⟩ = some (.int .i64 d.e.kind) := R.cell 0
  have d1 : W.cell? ⟨k, 1, none⟩ = some (.string (str d.e.s)) := R.cell 1
  have d2 : W.cell? ⟨k, 2, none⟩ = some (.int .i64 d.e.v.kind) := R.cell 2
  have d3 : W.cell? ⟨k, 3, none⟩ = some (.int .i64 d.e.v.n) := R.cell 3
  have d4 : W.cell? ⟨k, 4, none⟩ = some (.string (str d.e.v.s)) := R.cell 4
  have d5 : W.cell? ⟨k, 5, none⟩ = some u := R.cell 5
  have d6 : W.cell? ⟨k, 6, none⟩ = some (.int .i64 d.n) := R.cell 6
  simp at h1
  simp [results, Tryz.results152, h1, go_sem, d0, d1, d2, d3, d4, d5, d6]
set_option maxRecDepth 100000 in
set_option maxHeartbeats 8000000 in
theorem unary_any (g t o : Nat) (fr : Rl → List PT → PR Dp) (hR : RuleC g t o (.func (.func 152) #[pV g] #[]) (fr .unary)) (hC : RuleC g t o (.func (.func 129) #[pV g] #[]) (fr .or)) (h16 : ∀ l, Shal (fr .unary l)) (l' : List PT) (w : World) (h : PS w g t l' o) : Calls Tryz.prog 152 #[pV g] w (DoP g t o (stepT fr .unary l') (DpG w.heap.size) w) := by
  obtain ⟨F, hF⟩ : ∃ F, F = fr .unary := ⟨_, rfl⟩
  obtain ⟨G, hG⟩ : ∃ G, G = fr .or := ⟨_, rfl⟩
  obtain ⟨X, hX⟩ : ∃ X, X = stepT fr .unary l' := ⟨_, rfl⟩
  rw [← hX]
  simp only [stepT] at hX
  rw [← hF] at hR h16 hX
  rw [← hG] at hC hX
  clear hF hG
  obtain ⟨l3, l4, l5⟩ := h.lt3
  have HL3 := Lib.hid h.lt3
  have HR := Lib.hid hR
  have HC := Lib.hid hC
  have H16 := Lib.hid h16
  obtain ⟨off, c, hrow, hc, hm, hpos, t0, t1, t2, t3⟩ := h.open_
  unfold maxLen at hm
  have b0 := hrow.cell 0
  simp only [List.getElem?_cons_zero] at b0
  have hl0 : (0 : Int) < (l'.length : Int) := by omega
  obtain ⟨tk, htk⟩ : ∃ tk, tk = hdT l' := ⟨_, rfl⟩
  rw [← htk] at t0 t1 t2 t3
  have r0 := ((Row.new w 155 zdp).keep ((Same.refl (fun _ => True) _).alloc (.cells (tokCs tk).toArray 75)) trivial).keep ((Same.refl (fun _ => True) _).alloc (.cells zval.toArray 31)) trivial
  have r1 := (Row.new (w.alloc (.cells zdp.toArray 155)) 75 (tokCs tk)).keep ((Same.refl (fun _ => True) _).alloc (.cells zval.toArray 31)) trivial
  have r2 := Row.new ((w.alloc (.cells zdp.toArray 155)).alloc (.cells (tokCs tk).toArray 75)) 31 zval
  have hS1 := ((((Same.refl (fun _ => True) w).alloc (.cells zdp.toArray 155)).alloc (.cells (tokCs tk).toArray 75)).alloc (.cells zval.toArray 31))
  have hz1 : (((w.alloc (.cells zdp.toArray 155)).alloc (.cells (tokCs tk).toArray 75)).alloc (.cells zval.toArray 31)).heap.size = w.heap.size + 3 := by simp
  rw [World.size_alloc] at r1
  rw [World.size_alloc, World.size_alloc] at r2
  have HPw := Lib.hid (h.keep hS1)
  rw [← htk] at hX
  have Htk := Lib.hid htk
  have HX1 := Lib.hid hX
  have HRR := Lib.hid r0
  have HRT := Lib.hid r1
  have HRV : Hid (Row _ (w.heap.size + 1 + 1) _ _) := Lib.hid r2
  have HSw := Lib.hid (hS1.mono (S' := fun q => q ≠ g) fun _ _ _ => trivial)
  have hgg : g < w.heap.size ∧ t < w.heap.size ∧ 1 < w.heap.size := ⟨l3, l4, l5⟩
  clear h htk hR hC h16 hrow hX r0 r1 r2 hS1
  have hmf : ∀ (fn : Fn) (first cap : Array Value) (w : World), (Instr.makeFunc fn first cap).run Tryz.prog w = .ok (.func fn first cap) w := fun _ _ _ _ => rfl
  go_enter Tryz.func152, Tryz.ntmps152
  go_upto_region 4 with (fail)
  simp only [zdp, tokCs, zval] at HRR HRT HRV HSw HPw hz1
  revert HRR HRT HRV HSw HPw hz1
  generalize ((w.alloc _).alloc _).alloc _ = w1
  intro hz1 HPw HRR HRT HRV HSw
  trace_state
  go_wp2_with (go_at_call 37; refine stopAt ?_)
  unfold Hid
  refine (take_any g t l' o [45] w1 HPw.out).mono ?_
  rintro e w2 ⟨rfl, hp, hS⟩
  have hSz := hS.size
  have HRR := Lib.hid (HRR.out.keep hS (by omega))
  have HRT := Lib.hid (HRT.out.keep hS (by omega))
  have HRV := Lib.hid (HRV.out.keep hS (by omega))
  have HSw := Lib.hid (HSw.out.trans hS)
  clear hS HPw
  cases hq : isT [45] l'
  · rw [hq, if_neg (by simp)] at hp
    have hX1 := HX1.out
    rw [hq, if_neg (by simp)] at hX1
    have HX1 := Lib.hid hX1
    have HPw := Lib.hid hp
    clear hX1 hq hp
    go_wp2_with (go_at_call 37; refine stopAt ?_)
    unfold Hid
    refine (take_any g t l' o [40] w2 HPw.out).mono ?_
    rintro e w3 ⟨rfl, hp, hS⟩
    have hSz := hS.size
    have HRR := Lib.hid (HRR.out.keep hS (by omega))
    have HRT := Lib.hid (HRT.out.keep hS (by omega))
    have HRV := Lib.hid (HRV.out.keep hS (by omega))
    have HSw := Lib.hid (HSw.out.trans hS)
    clear hS HPw
    cases hq : isT [40] l'
    · rw [hq, if_neg (by simp)] at hp
      have hX1 := HX1.out
      rw [hq, if_neg (by simp)] at hX1
      have HX1 := Lib.hid hX1
      have HPw := Lib.hid hp
      clear hX1 hq hp
      clear t0 t1 t2 t3 b0
      by_cases hk2 : tk.2.kind = 2
      · have hX1 := HX1.out
        rw [if_pos hk2] at hX1
        have HX0 := Lib.hid hX1
        have Hkd : Hid ((hdT l').2.kind ≠ 0) := Lib.hid (by rw [← Htk.out]; omega)
        have hkr := HRT.out
        have k0 := hkr.cell 0
        have k1 := hkr.cell 1
        have k2 := hkr.cell 2
        have k3 := hkr.cell 3
        simp only [List.getElem?_cons_zero, List.getElem?_cons_succ] at k0 k1 k2 k3
        clear hkr
        rw [hk2] at k0
        clear hX1 HX1 k1 k2
        have rv_ := HRV.out
        have v0 := rv_.cell 0
        have v1 := rv_.cell 1
        have v2 := rv_.cell 2
        simp only [List.getElem?_cons_zero, List.getElem?_cons_succ] at v0 v1 v2
        have v3 := rv_.frozen 0
        have v4 := rv_.frozen 1
        have v5 := rv_.frozen 2
        have v6 := rv_.lt
        clear rv_
        have hS : Same (fun q => q ≠ w.heap.size + 1 + 1) w3 (((w3.setCell ⟨w.heap.size + 1 + 1, 0, none⟩ (.int .i64 2)).setCell ⟨w.heap.size + 1 + 1, 1, none⟩ (.int .i64 tk.2.n)).setCell ⟨w.heap.size + 1 + 1, 2, none⟩ (.string ⟨#[]⟩)) := Same.sets (fun h => h rfl) [(.int .i64 2), (.int .i64 tk.2.n), (.string ⟨#[]⟩)] 0 (Same.refl _ _)
        have hp := HPw.out.keepB hS (by omega) (by omega) (by omega)
        have rV : Row (((w3.setCell ⟨w.heap.size + 1 + 1, 0, none⟩ (.int .i64 2)).setCell ⟨w.heap.size + 1 + 1, 1, none⟩ (.int .i64 tk.2.n)).setCell ⟨w.heap.size + 1 + 1, 2, none⟩ (.string ⟨#[]⟩)) (w.heap.size + 1 + 1) 31 [(.int .i64 2), (.int .i64 tk.2.n), (.string ⟨#[]⟩)] := HRV.out.sets [(.int .i64 2), (.int .i64 tk.2.n), (.string ⟨#[]⟩)] 0
        have rR := HRR.out.keep hS (by omega)
        have hSs : Same (fun q => q ≠ g) w (((w3.setCell ⟨w.heap.size + 1 + 1, 0, none⟩ (.int .i64 2)).setCell ⟨w.heap.size + 1 + 1, 1, none⟩ (.int .i64 tk.2.n)).setCell ⟨w.heap.size + 1 + 1, 2, none⟩ (.string ⟨#[]⟩)) := Same.sets' (by omega) [(.int .i64 2), (.int .i64 tk.2.n), (.string ⟨#[]⟩)] 0 HSw.out
        have hz := hS.size
        go_upto_region 19 with (fail)
        clear v0 v1 v2 v3 v4 v5 v6
        revert hS hp rV rR hSs hz
        generalize ((w3.setCell _ _).setCell _ _).setCell _ _ = wy
        intro hS hp rV rR hSs hz
        obtain ⟨off, c, hrow, hc, hm, hl, hl2, hc1, t0, t1, t2, t3, HN⟩ := PS.step hp Hkd.out
        unfold maxLen at hm
        have b0 := hrow.cell 0
        simp only [List.getElem?_cons_zero] at b0
        have f0 := hrow.frozen 0
        have hl0 : (0 : Int) < (l'.length : Int) := by omega
        clear hrow
        have hSg : Same (fun q => q ≠ g) wy (wy.setCell ⟨g, 0, none⟩ (.slice (some ⟨t, off + 4, none⟩) (l'.length - 1) (c - 1))) := (Same.refl _ _).setCell (fun _ h => h rfl) _
        have hzg := size_set wy ⟨g, 0, none⟩ (.slice (some ⟨t, off + 4, none⟩) (l'.length - 1) (c - 1))
        have rV := rV.keep hSg (by omega)
        have rR := rR.keep hSg (by omega)
        have hSs := hSs.trans hSg
        have HN := Lib.hid HN
        have HV := Lib.hid rV
        have HRR := Lib.hid rR
        have HSs := Lib.hid hSs
        clear rV rR hSs hSg hp HRV HSw HPw HRT
        go_upto_region 20 with (fail)
        revert HN HV HRR HSs hzg
        generalize wy.setCell _ _ = wz
        intro hzg HN HV HRR HSs
        have rv_ := HV.out
        have v0 := rv_.cell 0
        have v1 := rv_.cell 1
        have v2 := rv_.cell 2
        simp only [List.getElem?_cons_zero, List.getElem?_cons_succ] at v0 v1 v2
        clear rv_ t0 t1 t2 t3 b0 f0
        have HPx : Hid (PS wz g t l'.tail o) := Lib.hid HN.out
        have HRx := HRR
        have HEx : Hid (ExR wz (fun q => w.heap.size + 1 ≤ q) (.slice none 0 0) (leafV ⟨2, tk.2.n, []⟩).e) := Lib.hid (ExR.lf _ _ _ _ _)
        have HSx := HSs
        obtain ⟨hD, hG, hB, hC⟩ := fin_dp (u := .slice none 0 0) (d := ((leafV ⟨2, tk.2.n, []⟩))) HPx.out HL3.out HRx.out HEx.out HSx.out
        have HD := Lib.hid hD
        have HG := Lib.hid hG
        have HB := Lib.hid hB
        have HC := Lib.hid hC
        clear hD hG hB hC
        have rr := HRx.out
        have q0 := rr.cell 0
        have q1 := rr.cell 1
        have q2 := rr.cell 2
        have q3 := rr.cell 3
        have q4 := rr.cell 4
        have q5 := rr.cell 5
        have q6 := rr.cell 6
        simp only [dpCs, zdp, List.getElem?_cons_zero, List.getElem?_cons_succ] at q0 q1 q2 q3 q4 q5 q6
        have x0 := rr.frozen 0
        have x1 := rr.frozen 1
        have x2 := rr.frozen 2
        have x3 := rr.frozen 3
        have x4 := rr.frozen 4
        have x5 := rr.frozen 5
        have x6 := rr.frozen 6
        have zr := rr.lt
        clear rr
        go_wp2
        refine bodyPost_ret (unary_results (u := .slice none 0 0) (d := ((leafV ⟨2, tk.2.n, []⟩))) (show Row _ _ _ (dpCs (.slice none 0 0) (leafV ⟨2, tk.2.n, []⟩)) from HD.out) rfl) rfl ?_
        rw [HX0.out]
        exact ⟨_, rfl, HG.out, HB.out, HC.out⟩
      by_cases hk3 : tk.2.kind = 3
      · have hX1 := HX1.out
        rw [if_neg hk2, if_pos hk3] at hX1
        have HX0 := Lib.hid hX1
        have Hkd : Hid ((hdT l').2.kind ≠ 0) := Lib.hid (by rw [← Htk.out]; omega)
        have hkr := HRT.out
        have k0 := hkr.cell 0
        have k1 := hkr.cell 1
        have k2 := hkr.cell 2
        have k3 := hkr.cell 3
        simp only [List.getElem?_cons_zero, List.getElem?_cons_succ] at k0 k1 k2 k3
        clear hkr
        rw [hk3] at k0
        clear hX1 HX1 k1
        have rv_ := HRV.out
        have v0 := rv_.cell 0
        have v1 := rv_.cell 1
        have v2 := rv_.cell 2
        simp only [List.getElem?_cons_zero, List.getElem?_cons_succ] at v0 v1 v2
        have v3 := rv_.frozen 0
        have v4 := rv_.frozen 1
        have v5 := rv_.frozen 2
        have v6 := rv_.lt
        clear rv_
        have hS : Same (fun q => q ≠ w.heap.size + 1 + 1) w3 (((w3.setCell ⟨w.heap.size + 1 + 1, 0, none⟩ (.int .i64 3)).setCell ⟨w.heap.size + 1 + 1, 1, none⟩ (.int .i64 0)).setCell ⟨w.heap.size + 1 + 1, 2, none⟩ (.string (str tk.2.s))) := Same.sets (fun h => h rfl) [(.int .i64 3), (.int .i64 0), (.string (str tk.2.s))] 0 (Same.refl _ _)
        have hp := HPw.out.keepB hS (by omega) (by omega) (by omega)
        have rV : Row (((w3.setCell ⟨w.heap.size + 1 + 1, 0, none⟩ (.int .i64 3)).setCell ⟨w.heap.size + 1 + 1, 1, none⟩ (.int .i64 0)).setCell ⟨w.heap.size + 1 + 1, 2, none⟩ (.string (str tk.2.s))) (w.heap.size + 1 + 1) 31 [(.int .i64 3), (.int .i64 0), (.string (str tk.2.s))] := HRV.out.sets [(.int .i64 3), (.int .i64 0), (.string (str tk.2.s))] 0
        have rR := HRR.out.keep hS (by omega)
        have hSs : Same (fun q => q ≠ g) w (((w3.setCell ⟨w.heap.size + 1 + 1, 0, none⟩ (.int .i64 3)).setCell ⟨w.heap.size + 1 + 1, 1, none⟩ (.int .i64 0)).setCell ⟨w.heap.size + 1 + 1, 2, none⟩ (.string (str tk.2.s))) := Same.sets' (by omega) [(.int .i64 3), (.int .i64 0), (.string (str tk.2.s))] 0 HSw.out
        have hz := hS.size
        go_upto_region 19 with (fail)
        clear v0 v1 v2 v3 v4 v5 v6
        revert hS hp rV rR hSs hz
        generalize ((w3.setCell _ _).setCell _ _).setCell _ _ = wy
        intro hS hp rV rR hSs hz
        obtain ⟨off, c, hrow, hc, hm, hl, hl2, hc1, t0, t1, t2, t3, HN⟩ := PS.step hp Hkd.out
        unfold maxLen at hm
        have b0 := hrow.cell 0
        simp only [List.getElem?_cons_zero] at b0
        have f0 := hrow.frozen 0
        have hl0 : (0 : Int) < (l'.length : Int) := by omega
        clear hrow
        have hSg : Same (fun q => q ≠ g) wy (wy.setCell ⟨g, 0, none⟩ (.slice (some ⟨t, off + 4, none⟩) (l'.length - 1) (c - 1))) := (Same.refl _ _).setCell (fun _ h => h rfl) _
        have hzg := size_set wy ⟨g, 0, none⟩ (.slice (some ⟨t, off + 4, none⟩) (l'.length - 1) (c - 1))
        have rV := rV.keep hSg (by omega)
        have rR := rR.keep hSg (by omega)
        have hSs := hSs.trans hSg
        have HN := Lib.hid HN
        have HV := Lib.hid rV
        have HRR := Lib.hid rR
        have HSs := Lib.hid hSs
        clear rV rR hSs hSg hp HRV HSw HPw HRT
        go_upto_region 20 with (fail)
        revert HN HV HRR HSs hzg
        generalize wy.setCell _ _ = wz
        intro hzg HN HV HRR HSs
        have rv_ := HV.out
        have v0 := rv_.cell 0
        have v1 := rv_.cell 1
        have v2 := rv_.cell 2
        simp only [List.getElem?_cons_zero, List.getElem?_cons_succ] at v0 v1 v2
        clear rv_ t0 t1 t2 t3 b0 f0
        have HPx : Hid (PS wz g t l'.tail o) := Lib.hid HN.out
        have HRx := HRR
        have HEx : Hid (ExR wz (fun q => w.heap.size + 1 ≤ q) (.slice none 0 0) (leafV ⟨3, 0, tk.2.s⟩).e) := Lib.hid (ExR.lf _ _ _ _ _)
        have HSx := HSs
        obtain ⟨hD, hG, hB, hC⟩ := fin_dp (u := .slice none 0 0) (d := ((leafV ⟨3, 0, tk.2.s⟩))) HPx.out HL3.out HRx.out HEx.out HSx.out
        have HD := Lib.hid hD
        have HG := Lib.hid hG
        have HB := Lib.hid hB
        have HC := Lib.hid hC
        clear hD hG hB hC
        have rr := HRx.out
        have q0 := rr.cell 0
        have q1 := rr.cell 1
        have q2 := rr.cell 2
        have q3 := rr.cell 3
        have q4 := rr.cell 4
        have q5 := rr.cell 5
        have q6 := rr.cell 6
        simp only [dpCs, zdp, List.getElem?_cons_zero, List.getElem?_cons_succ] at q0 q1 q2 q3 q4 q5 q6
        have x0 := rr.frozen 0
        have x1 := rr.frozen 1
        have x2 := rr.frozen 2
        have x3 := rr.frozen 3
        have x4 := rr.frozen 4
        have x5 := rr.frozen 5
        have x6 := rr.frozen 6
        have zr := rr.lt
        clear rr
        go_wp2
        refine bodyPost_ret (unary_results (u := .slice none 0 0) (d := ((leafV ⟨3, 0, tk.2.s⟩))) (show Row _ _ _ (dpCs (.slice none 0 0) (leafV ⟨3, 0, tk.2.s⟩)) from HD.out) rfl) rfl ?_
        rw [HX0.out]
        exact ⟨_, rfl, HG.out, HB.out, HC.out⟩
      have hX1 := HX1.out
      rw [if_neg hk2, if_neg hk3] at hX1
      have HX1 := Lib.hid hX1
      have hkr := HRT.out
      have k0 := hkr.cell 0
      have k1 := hkr.cell 1
      have k2 := hkr.cell 2
      have k3 := hkr.cell 3
      simp only [List.getElem?_cons_zero, List.getElem?_cons_succ] at k0 k1 k2 k3
      clear hkr
      have e2 : ((tk.2.kind : Int) == 2) = false := no_kind hk2
      have e3 : ((tk.2.kind : Int) == 3) = false := no_kind hk3
      clear hX1 hk2 hk3
      go_wp2_with (go_at_call 86; refine stopAt ?_)
      unfold Hid
      refine (is_any g t l' o wTRUE w3 HPw.out).mono ?_
      rintro e w6 ⟨rfl, hS⟩
      have hp := HPw.out.keep hS
      have hS := hS.mono (S' := fun q => q ≠ g) fun _ _ _ => trivial
      have hSz := hS.size
      have HRR := Lib.hid (HRR.out.keep hS (by omega))
      have HRT := Lib.hid (HRT.out.keep hS (by omega))
      have HRV := Lib.hid (HRV.out.keep hS (by omega))
      have HSw := Lib.hid (HSw.out.trans hS)
      clear hS HPw
      have HPw := Lib.hid hp
      clear hp
      cases hq : isT wTRUE l'
      · have hX1 := HX1.out
        rw [hq, if_neg (by simp)] at hX1
        have HX1 := Lib.hid hX1
        clear hX1 hq
        go_wp2_with (go_at_call 86; refine stopAt ?_)
        unfold Hid
        refine (is_any g t l' o wFALSE w6 HPw.out).mono ?_
        rintro e w7 ⟨rfl, hS⟩
        have hp := HPw.out.keep hS
        have hS := hS.mono (S' := fun q => q ≠ g) fun _ _ _ => trivial
        have hSz := hS.size
        have HRR := Lib.hid (HRR.out.keep hS (by omega))
        have HRT := Lib.hid (HRT.out.keep hS (by omega))
        have HRV := Lib.hid (HRV.out.keep hS (by omega))
        have HSw := Lib.hid (HSw.out.trans hS)
        clear hS HPw
        have HPw := Lib.hid hp
        clear hp
        cases hq : isT wFALSE l'
        · have hX1 := HX1.out
          rw [hq, if_neg (by simp)] at hX1
          have HX1 := Lib.hid hX1
          clear hX1 hq
          go_wp2_with (go_at_call 86; refine stopAt ?_)
          unfold Hid
          refine (is_any g t l' o wNULL w7 HPw.out).mono ?_
          rintro e w8 ⟨rfl, hS⟩
          have hp := HPw.out.keep hS
          have hS := hS.mono (S' := fun q => q ≠ g) fun _ _ _ => trivial
          have hSz := hS.size
          have HRR := Lib.hid (HRR.out.keep hS (by omega))
          have HRT := Lib.hid (HRT.out.keep hS (by omega))
          have HRV := Lib.hid (HRV.out.keep hS (by omega))
          have HSw := Lib.hid (HSw.out.trans hS)
          clear hS HPw
          have HPw := Lib.hid hp
          clear hp
          cases hq : isT wNULL l'
          · have hX1 := HX1.out
            rw [hq, if_neg (by simp)] at hX1
            have HX1 := Lib.hid hX1
            clear hX1 hq
            go_wp2_with (go_at_call 84; refine stopAt ?_)
            unfold Hid
            refine (name_any g t l' o w8 HPw.out).mono ?_
            intro e w9 h9
            cases hx : nameT l' with
            | error p =>
              rw [hx] at h9
              obtain ⟨rfl, hS9⟩ := h9
              have hq : DoP g t o X (DpG w.heap.size) w (.panicked [{ v := failV p.1 p.2, recovered := false }]) w9 := by
                rw [HX1.out, hx]
                exact DoP.err ⟨rfl, hS9⟩ HSw.out fun _ h => h
              exact ⟨rfl, hq⟩
            | ok q =>
              obtain ⟨nm, l2⟩ := q
              rw [hx] at h9
              obtain ⟨v, rfl, rfl, hp9, hS9⟩ := h9
              have hX2 := HX1.out
              rw [hx, thenT_ok] at hX2
              have HX2 := Lib.hid hX2
              have HPx := Lib.hid hp9
              have HRx := Lib.hid (HRR.out.keep hS9 (by omega))
              have HEx : Hid (ExR w9 (fun q => w.heap.size + 1 ≤ q) (.slice none 0 0) (Ex.mk 2 nm .zero [])) := Lib.hid (ExR.lf _ _ _ _ _)
              have HSx := Lib.hid (HSw.out.trans hS9)
              clear hx hX2 hp9 hS9
              obtain ⟨hD, hG, hB, hC⟩ := fin_dp (u := .slice none 0 0) (d := ⟨.mk 2 nm .zero [], 1⟩) HPx.out HL3.out HRx.out HEx.out HSx.out
              have HD := Lib.hid hD
              have HG := Lib.hid hG
              have HB := Lib.hid hB
              have HC := Lib.hid hC
              clear hD hG hB hC
              have rr := HRx.out
              have q0 := rr.cell 0
              have q1 := rr.cell 1
              have q2 := rr.cell 2
              have q3 := rr.cell 3
              have q4 := rr.cell 4
              have q5 := rr.cell 5
              have q6 := rr.cell 6
              simp only [dpCs, zdp, List.getElem?_cons_zero, List.getElem?_cons_succ] at q0 q1 q2 q3 q4 q5 q6
              have x0 := rr.frozen 0
              have x1 := rr.frozen 1
              have x2 := rr.frozen 2
              have x3 := rr.frozen 3
              have x4 := rr.frozen 4
              have x5 := rr.frozen 5
              have x6 := rr.frozen 6
              have zr := rr.lt
              clear rr
              go_wp2
              refine bodyPost_ret (unary_results (u := .slice none 0 0) (d := ⟨.mk 2 nm .zero [], 1⟩) (show Row _ _ _ (dpCs (.slice none 0 0) ⟨.mk 2 nm .zero [], 1⟩) from HD.out) rfl) rfl ?_
              rw [HX2.out]
              exact ⟨_, rfl, HG.out, HB.out, HC.out⟩
          · have hX1 := HX1.out
            rw [hq, if_pos rfl] at hX1
            have HX0 := Lib.hid hX1
            have Hkd := Lib.hid (isT_kind hq)
            clear hX1 hq HX1
            have hp := HPw.out
            have rV := HRV.out
            have rR := HRR.out
            have hSs := HSw.out
            obtain ⟨off, c, hrow, hc, hm, hl, hl2, hc1, t0, t1, t2, t3, HN⟩ := PS.step hp Hkd.out
            unfold maxLen at hm
            have b0 := hrow.cell 0
            simp only [List.getElem?_cons_zero] at b0
            have f0 := hrow.frozen 0
            have hl0 : (0 : Int) < (l'.length : Int) := by omega
            clear hrow
            have hSg : Same (fun q => q ≠ g) w8 (w8.setCell ⟨g, 0, none⟩ (.slice (some ⟨t, off + 4, none⟩) (l'.length - 1) (c - 1))) := (Same.refl _ _).setCell (fun _ h => h rfl) _
            have hzg := size_set w8 ⟨g, 0, none⟩ (.slice (some ⟨t, off + 4, none⟩) (l'.length - 1) (c - 1))
            have rV := rV.keep hSg (by omega)
            have rR := rR.keep hSg (by omega)
            have hSs := hSs.trans hSg
            have HN := Lib.hid HN
            have HV := Lib.hid rV
            have HRR := Lib.hid rR
            have HSs := Lib.hid hSs
            clear rV rR hSs hSg hp HRV HSw HPw HRT
            go_upto_region 20 with (fail)
            revert HN HV HRR HSs hzg
            generalize w8.setCell _ _ = wz
            intro hzg HN HV HRR HSs
            have rv_ := HV.out
            have v0 := rv_.cell 0
            have v1 := rv_.cell 1
            have v2 := rv_.cell 2
            simp only [List.getElem?_cons_zero, List.getElem?_cons_succ] at v0 v1 v2
            clear rv_ t0 t1 t2 t3 b0 f0
            have HPx : Hid (PS wz g t l'.tail o) := Lib.hid HN.out
            have HRx := HRR
            have HEx : Hid (ExR wz (fun q => w.heap.size + 1 ≤ q) (.slice none 0 0) (leafV ⟨0, 0, []⟩).e) := Lib.hid (ExR.lf _ _ _ _ _)
            have HSx := HSs
            obtain ⟨hD, hG, hB, hC⟩ := fin_dp (u := .slice none 0 0) (d := ((leafV ⟨0, 0, []⟩))) HPx.out HL3.out HRx.out HEx.out HSx.out
            have HD := Lib.hid hD
            have HG := Lib.hid hG
            have HB := Lib.hid hB
            have HC := Lib.hid hC
            clear hD hG hB hC
            have rr := HRx.out
            have q0 := rr.cell 0
            have q1 := rr.cell 1
            have q2 := rr.cell 2
            have q3 := rr.cell 3
            have q4 := rr.cell 4
            have q5 := rr.cell 5
            have q6 := rr.cell 6
            simp only [dpCs, zdp, List.getElem?_cons_zero, List.getElem?_cons_succ] at q0 q1 q2 q3 q4 q5 q6
            have x0 := rr.frozen 0
            have x1 := rr.frozen 1
            have x2 := rr.frozen 2
            have x3 := rr.frozen 3
            have x4 := rr.frozen 4
            have x5 := rr.frozen 5
            have x6 := rr.frozen 6
            have zr := rr.lt
            clear rr
            go_wp2
            refine bodyPost_ret (unary_results (u := .slice none 0 0) (d := ((leafV ⟨0, 0, []⟩))) (show Row _ _ _ (dpCs (.slice none 0 0) (leafV ⟨0, 0, []⟩)) from HD.out) rfl) rfl ?_
            rw [HX0.out]
            exact ⟨_, rfl, HG.out, HB.out, HC.out⟩
        · have hX1 := HX1.out
          rw [hq, if_pos rfl] at hX1
          have HX0 := Lib.hid hX1
          have Hkd := Lib.hid (isT_kind hq)
          clear hX1 hq HX1
          have rv_ := HRV.out
          have v0 := rv_.cell 0
          have v1 := rv_.cell 1
          have v2 := rv_.cell 2
          simp only [List.getElem?_cons_zero, List.getElem?_cons_succ] at v0 v1 v2
          have v3 := rv_.frozen 0
          have v4 := rv_.frozen 1
          have v5 := rv_.frozen 2
          have v6 := rv_.lt
          clear rv_
          have hS : Same (fun q => q ≠ w.heap.size + 1 + 1) w7 (((w7.setCell ⟨w.heap.size + 1 + 1, 0, none⟩ (.int .i64 1)).setCell ⟨w.heap.size + 1 + 1, 1, none⟩ (.int .i64 0)).setCell ⟨w.heap.size + 1 + 1, 2, none⟩ (.string ⟨#[]⟩)) := Same.sets (fun h => h rfl) [(.int .i64 1), (.int .i64 0), (.string ⟨#[]⟩)] 0 (Same.refl _ _)
          have hp := HPw.out.keepB hS (by omega) (by omega) (by omega)
          have rV : Row (((w7.setCell ⟨w.heap.size + 1 + 1, 0, none⟩ (.int .i64 1)).setCell ⟨w.heap.size + 1 + 1, 1, none⟩ (.int .i64 0)).setCell ⟨w.heap.size + 1 + 1, 2, none⟩ (.string ⟨#[]⟩)) (w.heap.size + 1 + 1) 31 [(.int .i64 1), (.int .i64 0), (.string ⟨#[]⟩)] := HRV.out.sets [(.int .i64 1), (.int .i64 0), (.string ⟨#[]⟩)] 0
          have rR := HRR.out.keep hS (by omega)
          have hSs : Same (fun q => q ≠ g) w (((w7.setCell ⟨w.heap.size + 1 + 1, 0, none⟩ (.int .i64 1)).setCell ⟨w.heap.size + 1 + 1, 1, none⟩ (.int .i64 0)).setCell ⟨w.heap.size + 1 + 1, 2, none⟩ (.string ⟨#[]⟩)) := Same.sets' (by omega) [(.int .i64 1), (.int .i64 0), (.string ⟨#[]⟩)] 0 HSw.out
          have hz := hS.size
          have hkr := HRT.out
          have k0 := hkr.cell 0
          have k1 := hkr.cell 1
          have k2 := hkr.cell 2
          have k3 := hkr.cell 3
          simp only [List.getElem?_cons_zero, List.getElem?_cons_succ] at k0 k1 k2 k3
          clear hkr
          go_upto_region 19 with (fail)
          clear v0 v1 v2 v3 v4 v5 v6
          revert hS hp rV rR hSs hz
          generalize ((w7.setCell _ _).setCell _ _).setCell _ _ = wy
          intro hS hp rV rR hSs hz
          obtain ⟨off, c, hrow, hc, hm, hl, hl2, hc1, t0, t1, t2, t3, HN⟩ := PS.step hp Hkd.out
          unfold maxLen at hm
          have b0 := hrow.cell 0
          simp only [List.getElem?_cons_zero] at b0
          have f0 := hrow.frozen 0
          have hl0 : (0 : Int) < (l'.length : Int) := by omega
          clear hrow
          have hSg : Same (fun q => q ≠ g) wy (wy.setCell ⟨g, 0, none⟩ (.slice (some ⟨t, off + 4, none⟩) (l'.length - 1) (c - 1))) := (Same.refl _ _).setCell (fun _ h => h rfl) _
          have hzg := size_set wy ⟨g, 0, none⟩ (.slice (some ⟨t, off + 4, none⟩) (l'.length - 1) (c - 1))
          have rV := rV.keep hSg (by omega)
          have rR := rR.keep hSg (by omega)
          have hSs := hSs.trans hSg
          have HN := Lib.hid HN
          have HV := Lib.hid rV
          have HRR := Lib.hid rR
          have HSs := Lib.hid hSs
          clear rV rR hSs hSg hp HRV HSw HPw HRT
          go_upto_region 20 with (fail)
          revert HN HV HRR HSs hzg
          generalize wy.setCell _ _ = wz
          intro hzg HN HV HRR HSs
          have rv_ := HV.out
          have v0 := rv_.cell 0
          have v1 := rv_.cell 1
          have v2 := rv_.cell 2
          simp only [List.getElem?_cons_zero, List.getElem?_cons_succ] at v0 v1 v2
          clear rv_ t0 t1 t2 t3 b0 f0
          have HPx : Hid (PS wz g t l'.tail o) := Lib.hid HN.out
          have HRx := HRR
          have HEx : Hid (ExR wz (fun q => w.heap.size + 1 ≤ q) (.slice none 0 0) (leafV ⟨1, 0, []⟩).e) := Lib.hid (ExR.lf _ _ _ _ _)
          have HSx := HSs
          obtain ⟨hD, hG, hB, hC⟩ := fin_dp (u := .slice none 0 0) (d := ((leafV ⟨1, 0, []⟩))) HPx.out HL3.out HRx.out HEx.out HSx.out
          have HD := Lib.hid hD
          have HG := Lib.hid hG
          have HB := Lib.hid hB
          have HC := Lib.hid hC
          clear hD hG hB hC
          have rr := HRx.out
          have q0 := rr.cell 0
          have q1 := rr.cell 1
          have q2 := rr.cell 2
          have q3 := rr.cell 3
          have q4 := rr.cell 4
          have q5 := rr.cell 5
          have q6 := rr.cell 6
          simp only [dpCs, zdp, List.getElem?_cons_zero, List.getElem?_cons_succ] at q0 q1 q2 q3 q4 q5 q6
          have x0 := rr.frozen 0
          have x1 := rr.frozen 1
          have x2 := rr.frozen 2
          have x3 := rr.frozen 3
          have x4 := rr.frozen 4
          have x5 := rr.frozen 5
          have x6 := rr.frozen 6
          have zr := rr.lt
          clear rr
          go_wp2
          refine bodyPost_ret (unary_results (u := .slice none 0 0) (d := ((leafV ⟨1, 0, []⟩))) (show Row _ _ _ (dpCs (.slice none 0 0) (leafV ⟨1, 0, []⟩)) from HD.out) rfl) rfl ?_
          rw [HX0.out]
          exact ⟨_, rfl, HG.out, HB.out, HC.out⟩
      · have hX1 := HX1.out
        rw [hq, if_pos rfl] at hX1
        have HX0 := Lib.hid hX1
        have Hkd := Lib.hid (isT_kind hq)
        clear hX1 hq HX1
        have rv_ := HRV.out
        have v0 := rv_.cell 0
        have v1 := rv_.cell 1
        have v2 := rv_.cell 2
        simp only [List.getElem?_cons_zero, List.getElem?_cons_succ] at v0 v1 v2
        have v3 := rv_.frozen 0
        have v4 := rv_.frozen 1
        have v5 := rv_.frozen 2
        have v6 := rv_.lt
        clear rv_
        have hS : Same (fun q => q ≠ w.heap.size + 1 + 1) w6 (((w6.setCell ⟨w.heap.size + 1 + 1, 0, none⟩ (.int .i64 1)).setCell ⟨w.heap.size + 1 + 1, 1, none⟩ (.int .i64 1)).setCell ⟨w.heap.size + 1 + 1, 2, none⟩ (.string ⟨#[]⟩)) := Same.sets (fun h => h rfl) [(.int .i64 1), (.int .i64 1), (.string ⟨#[]⟩)] 0 (Same.refl _ _)
        have hp := HPw.out.keepB hS (by omega) (by omega) (by omega)
        have rV : Row (((w6.setCell ⟨w.heap.size + 1 + 1, 0, none⟩ (.int .i64 1)).setCell ⟨w.heap.size + 1 + 1, 1, none⟩ (.int .i64 1)).setCell ⟨w.heap.size + 1 + 1, 2, none⟩ (.string ⟨#[]⟩)) (w.heap.size + 1 + 1) 31 [(.int .i64 1), (.int .i64 1), (.string ⟨#[]⟩)] := HRV.out.sets [(.int .i64 1), (.int .i64 1), (.string ⟨#[]⟩)] 0
        have rR := HRR.out.keep hS (by omega)
        have hSs : Same (fun q => q ≠ g) w (((w6.setCell ⟨w.heap.size + 1 + 1, 0, none⟩ (.int .i64 1)).setCell ⟨w.heap.size + 1 + 1, 1, none⟩ (.int .i64 1)).setCell ⟨w.heap.size + 1 + 1, 2, none⟩ (.string ⟨#[]⟩)) := Same.sets' (by omega) [(.int .i64 1), (.int .i64 1), (.string ⟨#[]⟩)] 0 HSw.out
        have hz := hS.size
        have hkr := HRT.out
        have k0 := hkr.cell 0
        have k1 := hkr.cell 1
        have k2 := hkr.cell 2
        have k3 := hkr.cell 3
        simp only [List.getElem?_cons_zero, List.getElem?_cons_succ] at k0 k1 k2 k3
        clear hkr
        go_upto_region 19 with (fail)
        clear v0 v1 v2 v3 v4 v5 v6
        revert hS hp rV rR hSs hz
        generalize ((w6.setCell _ _).setCell _ _).setCell _ _ = wy
        intro hS hp rV rR hSs hz
        obtain ⟨off, c, hrow, hc, hm, hl, hl2, hc1, t0, t1, t2, t3, HN⟩ := PS.step hp Hkd.out
        unfold maxLen at hm
        have b0 := hrow.cell 0
        simp only [List.getElem?_cons_zero] at b0
        have f0 := hrow.frozen 0
        have hl0 : (0 : Int) < (l'.length : Int) := by omega
        clear hrow
        have hSg : Same (fun q => q ≠ g) wy (wy.setCell ⟨g, 0, none⟩ (.slice (some ⟨t, off + 4, none⟩) (l'.length - 1) (c - 1))) := (Same.refl _ _).setCell (fun _ h => h rfl) _
        have hzg := size_set wy ⟨g, 0, none⟩ (.slice (some ⟨t, off + 4, none⟩) (l'.length - 1) (c - 1))
        have rV := rV.keep hSg (by omega)
        have rR := rR.keep hSg (by omega)
        have hSs := hSs.trans hSg
        have HN := Lib.hid HN
        have HV := Lib.hid rV
        have HRR := Lib.hid rR
        have HSs := Lib.hid hSs
        clear rV rR hSs hSg hp HRV HSw HPw HRT
        go_upto_region 20 with (fail)
        revert HN HV HRR HSs hzg
        generalize wy.setCell _ _ = wz
        intro hzg HN HV HRR HSs
        have rv_ := HV.out
        have v0 := rv_.cell 0
        have v1 := rv_.cell 1
        have v2 := rv_.cell 2
        simp only [List.getElem?_cons_zero, List.getElem?_cons_succ] at v0 v1 v2
        clear rv_ t0 t1 t2 t3 b0 f0
        have HPx : Hid (PS wz g t l'.tail o) := Lib.hid HN.out
        have HRx := HRR
        have HEx : Hid (ExR wz (fun q => w.heap.size + 1 ≤ q) (.slice none 0 0) (leafV ⟨1, 1, []⟩).e) := Lib.hid (ExR.lf _ _ _ _ _)
        have HSx := HSs
        obtain ⟨hD, hG, hB, hC⟩ := fin_dp (u := .slice none 0 0) (d := ((leafV ⟨1, 1, []⟩))) HPx.out HL3.out HRx.out HEx.out HSx.out
        have HD := Lib.hid hD
        have HG := Lib.hid hG
        have HB := Lib.hid hB
        have HC := Lib.hid hC
        clear hD hG hB hC
        have rr := HRx.out
        have q0 := rr.cell 0
        have q1 := rr.cell 1
        have q2 := rr.cell 2
        have q3 := rr.cell 3
        have q4 := rr.cell 4
        have q5 := rr.cell 5
        have q6 := rr.cell 6
        simp only [dpCs, zdp, List.getElem?_cons_zero, List.getElem?_cons_succ] at q0 q1 q2 q3 q4 q5 q6
        have x0 := rr.frozen 0
        have x1 := rr.frozen 1
        have x2 := rr.frozen 2
        have x3 := rr.frozen 3
        have x4 := rr.frozen 4
        have x5 := rr.frozen 5
        have x6 := rr.frozen 6
        have zr := rr.lt
        clear rr
        go_wp2
        refine bodyPost_ret (unary_results (u := .slice none 0 0) (d := ((leafV ⟨1, 1, []⟩))) (show Row _ _ _ (dpCs (.slice none 0 0) (leafV ⟨1, 1, []⟩)) from HD.out) rfl) rfl ?_
        rw [HX0.out]
        exact ⟨_, rfl, HG.out, HB.out, HC.out⟩
    · rw [hq, if_pos rfl] at hp
      have hX1 := HX1.out
      rw [hq, if_pos rfl] at hX1
      have HX0 := Lib.hid hX1
      have HPw := Lib.hid hp
      clear hX1 hq hp HX1
      go_wp2_with (go_at_call 128; refine stopAt ?_)
      unfold Hid
      refine (HC.out l'.tail w3 HPw.out).mono ?_
      intro e w4 h4
      cases hx : G l'.tail with
      | error p =>
        rw [hx] at h4
        obtain ⟨rfl, hS4⟩ := h4
        have hq : DoP g t o X (DpG w.heap.size) w (.panicked [{ v := failV p.1 p.2, recovered := false }]) w4 := by
          rw [HX0.out, hx]
          exact DoP.err ⟨rfl, hS4⟩ HSw.out fun _ h => h
        exact ⟨rfl, hq⟩
      | ok q =>
        obtain ⟨d, l1⟩ := q
        rw [hx] at h4
        obtain ⟨v, rfl, ⟨u, rfl, hex⟩, hp4, hS4⟩ := h4
        obtain ⟨Au, cu, rfl, -, -⟩ := hex.toL.form
        have hX1 := HX0.out
        rw [hx, thenT_ok] at hX1
        have HX1 := Lib.hid hX1
        generalize d.e.args.length = nu at *
        have hz4 := hS4.size
        have hw3 : w.heap.size + 3 ≤ w3.heap.size := by omega
        have HRR := Lib.hid (HRR.out.keep hS4 (by omega))
        have HSw := Lib.hid (HSw.out.trans hS4)
        have rd := (Row.new w4 155 (dpCs (.slice Au nu cu) d)).keep ((Same.refl (fun _ => True) _).alloc (.cells (strCs [[41]]).toArray 9)) trivial
        have hS5 := ((Same.refl (fun _ => True) w4).alloc (.cells (dpCs (.slice Au nu cu) d).toArray 155)).alloc (.cells (strCs [[41]]).toArray 9)
        have hss := StrR.new (w4.alloc (.cells (dpCs (.slice Au nu cu) d).toArray 155)) g (by simp; omega) [[41]] (by simp [maxLen])
        have hz5 : ((w4.alloc (.cells (dpCs (.slice Au nu cu) d).toArray 155)).alloc (.cells (strCs [[41]]).toArray 9)).heap.size = w4.heap.size + 2 := by simp
        simp only [List.length_cons, List.length_nil, Nat.zero_add, Nat.reduceAdd, World.size_alloc] at hss
        have HP4 := Lib.hid hp4
        have HE4 := Lib.hid hex
        clear hx hX1 hp4 hex hS4
        go_wp2_with (go_at_call 40; refine stopAt ?_)
        unfold Hid
        simp only [dpCs, strCs, List.map_cons, List.map_nil, show str [41] = ⟨#[41]⟩ from rfl] at rd hS5 hz5 hss
        revert rd hS5 hz5 hss
        generalize (w4.alloc _).alloc _ = w5
        intro rd hS5 hz5 hss
        have hp5 := HP4.out.keep hS5
        have HRR := Lib.hid (HRR.out.keep hS5 trivial)
        have HSw := Lib.hid (HSw.out.trans (hS5.mono (S' := fun q => q ≠ g) fun _ _ _ => trivial))
        have HE5 := Lib.hid (HE4.out.keepAll hS5)
        refine (must_any g t l1 o [[41]] _ w5 hp5 hss).mono ?_
        intro e w6 h6
        clear hss hp5 hS5
        cases hm : mustT [[41]] l1 with
        | error p =>
          rw [hm] at h6
          obtain ⟨rfl, hS6⟩ := h6
          have hq : DoP g t o X (DpG w.heap.size) w (.panicked [{ v := failV p.1 p.2, recovered := false }]) w6 := by
            rw [HX1.out, hm]
            exact DoP.err ⟨rfl, hS6⟩ HSw.out fun _ h => h
          exact ⟨rfl, hq⟩
        | ok q =>
          obtain ⟨⟨⟩, l2⟩ := q
          rw [hm] at h6
          obtain ⟨v, rfl, rfl, hp6, hS6⟩ := h6
          have hX2 := HX1.out
          rw [hm, thenT_ok] at hX2
          have HX2 := Lib.hid hX2
          have hyr := rd.keep hS6 (by omega)
          have y0 := hyr.cell 0
          have y1 := hyr.cell 1
          have y2 := hyr.cell 2
          have y3 := hyr.cell 3
          have y4 := hyr.cell 4
          have y5 := hyr.cell 5
          have y6 := hyr.cell 6
          simp only [List.getElem?_cons_zero, List.getElem?_cons_succ] at y0 y1 y2 y3 y4 y5 y6
          have HPx := Lib.hid hp6
          have HRx := Lib.hid (HRR.out.keep hS6 (by omega))
          have HEx := Lib.hid ((HE5.out.keep (hS6.mono fun q _ h => by have h : w3.heap.size ≤ q := h; omega)).mono (S' := fun q => w.heap.size + 1 ≤ q) fun q _ h => by have h : w3.heap.size ≤ q := h; omega)
          have HSx := Lib.hid (HSw.out.trans hS6)
          clear hm hX2 hyr hp6 hS6 rd
          obtain ⟨hD, hG, hB, hC⟩ := fin_dp (u := .slice Au nu cu) (d := d) HPx.out HL3.out HRx.out HEx.out HSx.out
          have HD := Lib.hid hD
          have HG := Lib.hid hG
          have HB := Lib.hid hB
          have HC := Lib.hid hC
          clear hD hG hB hC
          have rr := HRx.out
          have q0 := rr.cell 0
          have q1 := rr.cell 1
          have q2 := rr.cell 2
          have q3 := rr.cell 3
          have q4 := rr.cell 4
          have q5 := rr.cell 5
          have q6 := rr.cell 6
          simp only [dpCs, zdp, List.getElem?_cons_zero, List.getElem?_cons_succ] at q0 q1 q2 q3 q4 q5 q6
          have x0 := rr.frozen 0
          have x1 := rr.frozen 1
          have x2 := rr.frozen 2
          have x3 := rr.frozen 3
          have x4 := rr.frozen 4
          have x5 := rr.frozen 5
          have x6 := rr.frozen 6
          have zr := rr.lt
          clear rr
          go_wp2
          refine bodyPost_ret (unary_results (u := .slice Au nu cu) (d := d) (show Row _ _ _ (dpCs (.slice Au nu cu) d) from HD.out) rfl) rfl ?_
          rw [HX2.out]
          exact ⟨_, rfl, HG.out, HB.out, HC.out⟩
  · rw [hq, if_pos rfl] at hp
    have hX1 := HX1.out
    rw [hq, if_pos rfl] at hX1
    have HX0 := Lib.hid hX1
    have HPw := Lib.hid hp
    clear hX1 hq hp HX1
    have htok : TR g w.heap.size (w.heap.size + 1) := ⟨by omega, by omega⟩
    have HRw := HRR
    have hkr := HRT.out
    have k0 := hkr.cell 0
    have k1 := hkr.cell 1
    have k2 := hkr.cell 2
    have k3 := hkr.cell 3
    simp only [List.getElem?_cons_zero, List.getElem?_cons_succ] at k0 k1 k2 k3
    clear hkr
    go_upto_region 5 with (fail)
    obtain ⟨x, hxe⟩ : ∃ x, x = F l'.tail := ⟨_, rfl⟩
    have Hxe := Lib.hid hxe
    have hgB : g < w.heap.size + 1 := by omega
    have HXr : Hid (∀ p, x = .error p → X = .error p) := Lib.hid fun p hp => by rw [HX0.out, ← hxe, hp]; rfl
    have HXo : Hid (x = .ok (valT x, leftT x) → 16 < deepOf [valT x] + 1 → X = .error (tk.1, 3)) := Lib.hid fun hp hd => by
      rw [HX0.out, ← hxe]
      conv => lhs; rw [hp]
      rw [thenT_ok]
      unfold opT
      rw [if_pos hd]
    have HXk : Hid (x = .ok (valT x, leftT x) → deepOf [valT x] ≤ 15 → X = .ok (opD wNEG [valT x], leftT x)) := Lib.hid fun hp hd => by
      rw [HX0.out, ← hxe]
      conv => lhs; rw [hp]
      rw [thenT_ok, opT_ok hd]
    have HD16 : Hid (x = .ok (valT x, leftT x) → ∀ d' ∈ [valT x], d'.n ≤ 1000000) := Lib.hid fun hp d' hd' => by
      have := H16.out l'.tail (valT x) (leftT x) (hxe.symm.trans hp)
      simp only [List.mem_cons, List.not_mem_nil, or_false] at hd'
      subst hd'; omega
    have HST : Hid (RegS g t o w.heap.size (w.heap.size + 1) l'.tail (leftT x) zdp (opD wNEG [valT x]) (x = .ok (valT x, leftT x) ∧ deepOf [valT x] ≤ 15) false false w2.drew) := Lib.hid (RegS.keep (W := w2) ⟨HPw.out, fun _ => HRw.out, fun h => by cases h⟩ (Same.refl _ _).drew)
    have HS3 := HSw
    clear hxe
    refine wp_region_full_lit (T := TR g (w.heap.size)) (L := [some (.eq (tokV4 tk)), some (.eq (pV g)), some (.eq (pV g)), some (.eq (.func (.func 152) #[pV g] #[])), some (RuS g (w.heap.size) (w.heap.size + 1) hgB x), some (SlS g (w.heap.size) (w.heap.size + 1) hgB [valT x] (x = .ok (valT x, leftT x))), some (OpS g (w.heap.size) (w.heap.size + 1) hgB (opD wNEG [valT x]) (x = .ok (valT x, leftT x) ∧ deepOf [valT x] ≤ 15)), none]) (fun f _ W => RegS g t o (w.heap.size) (w.heap.size + 1) l'.tail (leftT x) (zdp) (opD wNEG [valT x]) (x = .ok (valT x, leftT x) ∧ deepOf [valT x] ≤ 15) (f 4) (f 7) W) (by kernel_rfl) (by kernel_rfl) (by rfl) rfl ?_ ?_ ?_
    · exact HST.out
    · refine ⟨?_, ?_, ?_, ?_, ?_, ?_, ?_, ?_, trivial⟩
      · intro ac wc f hs hst hni hwt hdn hd hz hf hw K hK
        generalize hU : valF _ ac = U at hst hK
        have e0 : ac.eval (.tmp 3) = (.pointer (some ⟨w.heap.size + 1, 0, none⟩)) := hf 3 rfl
        have m0 : wc.cell? ⟨w.heap.size + 1, 0, none⟩ = some (.int .i64 tk.2.kind) := hs.cell (p := ⟨w.heap.size + 1, 0, none⟩) htok k0
        have m1 : wc.cell? ⟨w.heap.size + 1, 1, none⟩ = some (.int .i64 tk.1) := hs.cell (p := ⟨w.heap.size + 1, 1, none⟩) htok k1
        have m2 : wc.cell? ⟨w.heap.size + 1, 2, none⟩ = some (.string (str tk.2.s)) := hs.cell (p := ⟨w.heap.size + 1, 2, none⟩) htok k2
        have m3 : wc.cell? ⟨w.heap.size + 1, 3, none⟩ = some (.int .i64 tk.2.n) := hs.cell (p := ⟨w.heap.size + 1, 3, none⟩) htok k3
        clear hd hz hf hw
        simp only [Region.wanted, if_true, Oper.wp, execOp, resolve, List.map_toArray, List.map_cons, List.map_nil, Option.map_some, Option.map_none, e0]
        go_simp
        exact hK _ _ (fun _ => rfl) (Same.refl _ _) hst
      · intro ac wc f hs hst hni hwt hdn hd hz hf hw K hK
        generalize hU : valF _ ac = U at hst hK
        have e0 : ac.eval (.tmp 0) = (pV g) := hf 0 rfl
        clear hd hz hf hw
        simp only [Region.wanted, if_true, Oper.wp, execOp, resolve, List.map_toArray, List.map_cons, List.map_nil, Option.map_some, Option.map_none, e0]
        go_simp
        exact hK _ _ (fun _ => rfl) (Same.refl _ _) hst
      · intro ac wc f hs hst hni hwt hdn hd hz hf hw K hK
        generalize hU : valF _ ac = U at hst hK
        have e0 : ac.eval (.tmp 0) = (pV g) := hf 0 rfl
        clear hd hz hf hw
        simp only [Region.wanted, if_true, Oper.wp, execOp, resolve, List.map_toArray, List.map_cons, List.map_nil, Option.map_some, Option.map_none, e0]
        go_simp
        exact hK _ _ (fun _ => rfl) (Same.refl _ _) hst
      · intro ac wc f hs hst hni hwt hdn hd hz hf hw K hK
        generalize hU : valF _ ac = U at hst hK
        have e0 : ac.eval (.tmp 22) = (pV g) := hw 2 rfl
        clear hd hz hf hw
        simp only [Region.wanted, if_true, Oper.wp, execOp, resolve, List.map_toArray, List.map_cons, List.map_nil, Option.map_some, Option.map_none, e0]
        go_simp
        exact hK _ _ (fun _ => rfl) (Same.refl _ _) hst
      · intro ac wc f hs hst hni hwt hdn hd hz hf hw K hK
        generalize hU : valF _ ac = U at hst hK
        have e0 : ac.eval (.tmp 21) = (pV g) := hw 1 rfl
        have e1 : ac.eval (.tmp 23) = (.func (.func 152) #[pV g] #[]) := hw 3 rfl
        have Hdf := Lib.hid (show ac.defers = [] from hd)
        have h9 : f 7 = false := by
          cases h : f 7 with
          | false => rfl
          | true => (have h8 := hdn 7 6 rfl h; have h7 := hdn 6 5 rfl h8; have h6 := hdn 5 4 rfl h7; rw [hni] at h6; cases h6)
        have hps : PS wc g t l'.tail o := by
          have := hst.1
          rw [hni] at this
          exact this
        have hrd := hst.2.1 h9
        clear hd hz hf hw
        simp only [Region.wanted, if_true, Oper.wp, execOp, resolve, List.map_toArray, List.map_cons, List.map_nil, Option.map_some, Option.map_none, e0, e1]
        go_simp
        refine (HR.out l'.tail wc hps).mono ?_
        intro e wd h1
        cases hx : F l'.tail with
        | error p =>
          rw [hx] at h1
          obtain ⟨rfl, hSp⟩ := h1
          have hq : DoP g t o X (DpG w.heap.size) w (.panicked [{ v := failV p.1 p.2, recovered := false }]) wd := by
            rw [HXr.out p (Hxe.out.trans hx)]
            exact DoP.err ⟨rfl, hSp⟩ (HS3.out.trans' hs fun q hq h => ⟨h, by omega⟩) fun _ h => h
          exact ⟨Hdf.out, hq⟩
        | ok q =>
          rw [hx] at h1
          obtain ⟨v', rfl, ⟨u2, rfl, hex2⟩, hp2, hS2⟩ := h1
          have hxx : x = .ok (valT x, leftT x) := by rw [Hxe.out, hx]; rfl
          have hx1 : valT x = q.1 := by rw [Hxe.out, hx]; rfl
          have hx2 : leftT x = q.2 := by rw [Hxe.out, hx]; rfl
          have hzc := hs.size
          refine hK _ _ (fun _ => ⟨u2, by rw [hx1], by rw [hx1]; exact hex2.mono fun k hk (h : wc.heap.size ≤ k) => ⟨by omega, by omega⟩, hxx⟩) (hS2.mono fun k hk h => h.1) ⟨?_, ?_, ?_⟩
          · show PS wd g t (leftT x) o
            rw [hx2]
            exact hp2
          · intro _
            exact hrd.keep hS2 (by omega)
          · intro h
            have h : f 7 = true := h
            rw [h9] at h
            cases h
      · intro ac wc f hs hst hni hwt hdn hd hz hf hw K hK
        generalize hU : valF _ ac = U at hst hK
        have p0 : (RuS g (w.heap.size) (w.heap.size + 1) hgB x : SPT (TR g (w.heap.size))).p (ac.eval (.tmp 24)) wc := hw 4 rfl
        obtain ⟨u0, e0⟩ : ∃ u, ac.eval (.tmp 24) = u := ⟨_, rfl⟩
        have v0 : U 4 = u0 := by rw [← hU]; exact e0
        rw [e0] at p0
        obtain ⟨u2, rfl, hex2, hxx⟩ := p0
        obtain ⟨A2, c2, rfl, -, -⟩ := hex2.toL.form
        have Hxx := Lib.hid hxx
        clear hxx
        have Hex2 := Lib.hid hex2
        clear hex2
        clear hd hz hf hw
        simp only [Region.wanted, if_true, Oper.wp, execOp, resolve, List.map_toArray, List.map_cons, List.map_nil, Option.map_some, Option.map_none, e0]
        go_simp
        have hzc := hs.size
        have hex2 := Hex2.out
        have hxx := Hxx.out
        exact hK _ _ (fun _ => ⟨DpR.one hex2 ⟨by omega, by omega⟩, hxx⟩) ((Same.refl _ _).alloc _) (RegS.keep hst ((Same.refl _ _).alloc _))
      · intro ac wc f hs hst hni hwt hdn hd hz hf hw K hK
        generalize hU : valF _ ac = U at hst hK
        have e0 : ac.eval (.tmp 20) = (tokV4 tk) := hw 0 rfl
        have p1 : (SlS g (w.heap.size) (w.heap.size + 1) hgB [valT x] (x = .ok (valT x, leftT x)) : SPT (TR g (w.heap.size))).p (ac.eval (.tmp 25)) wc := hw 5 rfl
        obtain ⟨u1, e1⟩ : ∃ u, ac.eval (.tmp 25) = u := ⟨_, rfl⟩
        have v1 : U 5 = u1 := by rw [← hU]; exact e1
        rw [e1] at p1
        have Hdf := Lib.hid (show ac.defers = [] from hd)
        have HSB := Lib.hid p1
        clear p1
        clear hd hz hf hw
        simp only [Region.wanted, if_true, Oper.wp, execOp, resolve, List.map_toArray, List.map_cons, List.map_nil, Option.map_some, Option.map_none, e0, e1]
        go_simp
        obtain ⟨hsb, hxx⟩ := HSB.out
        refine (op_any tk wNEG _ [valT x] _ wc hsb (by simp) (HD16.out hxx)).mono ?_
        intro e wd ⟨hA1, hA2, hS2⟩
        have hzc := hs.size
        by_cases hdp : 16 < deepOf [valT x] + 1
        · obtain rfl := hA1 hdp
          have hq : DoP g t o X (DpG w.heap.size) w (.panicked [{ v := failV tk.1 3, recovered := false }]) wd := by
            rw [HXo.out hxx hdp]
            exact DoP.err ⟨rfl, hS2.mono fun _ _ _ => trivial⟩ (HS3.out.trans' hs fun q hq h => ⟨h, by omega⟩) fun _ h => h
          exact ⟨Hdf.out, hq⟩
        · obtain ⟨u3, rfl, hex3⟩ := hA2 hdp
          exact hK _ _ (fun _ => ⟨u3, rfl, hex3.mono fun k hk h => h.elim id fun h => ⟨by omega, by omega⟩, hxx, by omega⟩) (hS2.mono fun _ _ _ => trivial) (RegS.keep hst hS2)
      · intro ac wc f hs hst hni hwt hdn hd hz hf hw K hK
        generalize hU : valF _ ac = U at hst hK
        have e0 : ac.eval (.tmp 2) = (.pointer (some ⟨w.heap.size, 0, none⟩)) := hf 2 rfl
        have p1 : (OpS g (w.heap.size) (w.heap.size + 1) hgB (opD wNEG [valT x]) (x = .ok (valT x, leftT x) ∧ deepOf [valT x] ≤ 15) : SPT (TR g (w.heap.size))).p (ac.eval (.tmp 26)) wc := hw 6 rfl
        obtain ⟨u1, e1⟩ : ∃ u, ac.eval (.tmp 26) = u := ⟨_, rfl⟩
        have v1 : U 6 = u1 := by rw [← hU]; exact e1
        rw [e1] at p1
        obtain ⟨u3, rfl, hex3, hok⟩ := p1
        have Hok := Lib.hid hok
        clear hok
        obtain ⟨A3, c3, rfl, -, -⟩ := hex3.toL.form
        generalize (opD wNEG [valT x]).e.args.length = n3 at *
        have hr_ := hst.2.1 hni
        have m0 := hr_.cell 0
        have m1 := hr_.cell 1
        have m2 := hr_.cell 2
        have m3 := hr_.cell 3
        have m4 := hr_.cell 4
        have m5 := hr_.cell 5
        have m6 := hr_.cell 6
        simp only [dpCs, zdp, List.getElem?_cons_zero, List.getElem?_cons_succ] at m0 m1 m2 m3 m4 m5 m6
        have n0_ := hr_.frozen 0
        have n1_ := hr_.frozen 1
        have n2_ := hr_.frozen 2
        have n3_ := hr_.frozen 3
        have n4_ := hr_.frozen 4
        have n5_ := hr_.frozen 5
        have n6_ := hr_.frozen 6
        have zr := hr_.lt
        clear hd hz hf hw
        simp only [Region.wanted, if_true, Oper.wp, execOp, resolve, List.map_toArray, List.map_cons, List.map_nil, Option.map_some, Option.map_none, e0, e1]
        go_simp
        have hss : Same (fun q => q ≠ w.heap.size) wc (setsW wc (w.heap.size) 0 (dpCs (.slice A3 n3 c3) (opD wNEG [valT x]))) := Same.sets (fun h => h rfl) _ 0 (Same.refl _ _)
        have hA := hst.1.keepB hss (by omega) (by omega) (by omega)
        have hB := hr_.sets (dpCs (.slice A3 n3 c3) (opD wNEG [valT x])) 0
        have hC := hex3.keep (hss.mono (S' := fun q => w.heap.size + 1 ≤ q ∧ q ≠ w.heap.size) fun k _ h => h.2)
        have hD := hss.mono (S' := TR g (w.heap.size)) fun k _ h => h.2
        refine hK undef _ (fun h => (by cases h)) ?_ ⟨?_, ?_, ?_⟩
        · exact hD
        · exact hA
        · exact fun h => (by cases h)
        · exact fun _ => ⟨Hok.out, .slice A3 n3 c3, hB, hC⟩
    · intro vs wR f hvl hvp hsR hst hfR
      rcases vs with _ | ⟨z0, _ | ⟨z1, _ | ⟨z2, _ | ⟨z3, _ | ⟨z4, _ | ⟨z5, _ | ⟨z6, _ | ⟨z7, _ | ⟨zz, zr⟩⟩⟩⟩⟩⟩⟩⟩⟩
      rotate_right 1
      · simp at hvl
      · simp at hvl
      · simp at hvl
      · simp at hvl
      · simp at hvl
      · simp at hvl
      · simp at hvl
      · simp at hvl
      · simp at hvl
      · obtain rfl : z0 = (tokV4 tk) := hvp 0 (by simp)
        obtain rfl : z1 = (pV g) := hvp 1 (by simp)
        obtain rfl : z2 = (pV g) := hvp 2 (by simp)
        obtain rfl : z3 = (.func (.func 152) #[pV g] #[]) := hvp 3 (by simp)
        have hru : (RuS g (w.heap.size) (w.heap.size + 1) hgB x : SPT (TR g (w.heap.size))).p z4 wR := hvp 4 (by simp)
        have hsb : (SlS g (w.heap.size) (w.heap.size + 1) hgB [valT x] (x = .ok (valT x, leftT x)) : SPT (TR g (w.heap.size))).p z5 wR := hvp 5 (by simp)
        have hpo : (OpS g (w.heap.size) (w.heap.size + 1) hgB (opD wNEG [valT x]) (x = .ok (valT x, leftT x) ∧ deepOf [valT x] ≤ 15) : SPT (TR g (w.heap.size))).p z6 wR := hvp 6 (by simp)
        clear hvl hvp
        simp only [putAll, Act.put, List.setIfInBounds_toArray, List.set_cons_succ, List.set_cons_zero, List.take_succ_cons, List.take_zero, List.drop_succ_cons, List.drop_zero]
        clear hru hsb hpo
        have hst := hst
        rw [hfR 4, hfR 7] at hst
        obtain ⟨hpR, -, hnew⟩ := hst
        obtain ⟨⟨hxx, hdo⟩, u3, hrN, hexN⟩ := hnew rfl
        have hpR : PS wR g t (leftT x) o := hpR
        have HSe := Lib.hid (HSw.out.trans' hsR fun q hq h => ⟨h, by omega⟩)
        have HPe := Lib.hid hpR
        have HRe := Lib.hid hrN
        have HEe := Lib.hid (hexN.mono (S' := fun q => w.heap.size ≤ q) fun q _ h => by have := h.1; omega)
        have HXe := Lib.hid (HXk.out hxx hdo)
        clear hpR hnew hxx hdo hrN hexN
        go_wp2
        refine bodyPost_ret (unary_results (show Row _ _ _ (dpCs u3 _) from HRe.out) rfl) rfl ?_
        rw [HXe.out]
        exact ⟨_, rfl, ⟨_, rfl, HEe.out⟩, HPe.out, HSe.out⟩
set_option maxRecDepth 100000 in
set_option maxHeartbeats 2000000 in
/-- Too many are open. -/
theorem rule_full (g t : Nat) (fv : Value) : RuleC g t 200 fv (wrongT 3) := by
  intro l w h
  have hg := h.lt
  obtain ⟨off, c, hrow, -⟩ := h.open_
  have b1 := hrow.cell 1
  simp only [List.getElem?_cons_zero, List.getElem?_cons_succ] at b1
  have f1 := hrow.frozen 1
  rw [show ((200 : Nat) : Int) = 200 from rfl] at b1
  have hp0 := (h.opened (o' := 201) (by omega) (v := .int .i64 201) rfl).keep ((Same.refl (fun _ => True) _).alloc (.cells zdp.toArray 155))
  have hS0 : Same (fun q => q ≠ g) w ((w.setCell ⟨g, 1, none⟩ (.int .i64 201)).alloc (.cells zdp.toArray 155)) := ((Same.refl _ w).setCell (fun _ h => h rfl) _).alloc _
  clear h hrow
  go_enter Tryz.func128, Tryz.ntmps128
  go_wp2_with (go_at_call 39; refine stopAt ?_)
  unfold Hid
  simp only [zdp] at hp0 hS0
  revert hp0 hS0
  generalize (w.setCell _ _).alloc _ = w0
  intro hp0 hS0
  refine (wrong_any g t l 201 3 w0 hp0).mono ?_
  rintro e w1 ⟨rfl, hS1⟩
  have hq : DoP g t 200 (wrongT 3 l) (DpG w.heap.size) w (.panicked [{ v := failV (hdT l).1 3, recovered := false }]) w1 := DoP.err ⟨rfl, hS1⟩ hS0 fun _ h => h
  exact ⟨rfl, hq⟩
theorem call_in {P : Program} {f : FuncId} {fn : Func} (hf : P.funcs[f]? = some fn) (hname : (fn.name == "runtime.NumGoroutine") = false) (hb : fn.body.isNone = false) (args : Array Value) (w : World) : (callFunc f args).run P w = .ok (.enter f args) w := by
  have h1 : fn.name ≠ "runtime.NumGoroutine" := by simpa using hname
  simp only [Option.isNone_eq_false_iff, Option.isSome_iff_exists] at hb
  obtain ⟨c, hb⟩ := hb
  simp [callFunc, hf, h1, hb]
/-- The function of a rule. -/
def ruleF : Rl → FuncId
  | .or => 129
  | .and => 135
  | .not => 143
  | .cmp => 149
  | .sum => 150
  | .prod => 151
  | .unary => 152
theorem ruleF_enter (r : Rl) (args : Array Value) (w : World) : (callFunc (ruleF r) args).run Tryz.prog w = .ok (.enter (ruleF r) args) w := by
  cases r
  · exact call_in Tryz.func129 (by kernel_rfl) (by kernel_rfl) args w
  · exact call_in Tryz.func135 (by kernel_rfl) (by kernel_rfl) args w
  · exact call_in Tryz.func143 (by kernel_rfl) (by kernel_rfl) args w
  · exact call_in Tryz.func149 (by kernel_rfl) (by kernel_rfl) args w
  · exact call_in Tryz.func150 (by kernel_rfl) (by kernel_rfl) args w
  · exact call_in Tryz.func151 (by kernel_rfl) (by kernel_rfl) args w
  · exact call_in Tryz.func152 (by kernel_rfl) (by kernel_rfl) args w
theorem rules_any (g t : Nat) : ∀ (n o : Nat), o + n = 200 → ∀ r, RuleC g t o (.func (.func (ruleF r)) #[pV g] #[]) (ruleT n r)
  | 0, o, h, r => by
    obtain rfl : o = 200 := by omega
    exact rule_full g t _
  | n + 1, o, h, r => by
    have ih := rules_any g t n (o + 1) (by omega)
    have h16 := rule_shal n
    have hfit := rule_fit n
    refine rule_any g t o (by omega) _ (ruleF_enter r) (ruleT (n + 1) r) fun l w hp => ?_
    show Calls _ _ _ _ (DoP g t (o + 1) (stepT (ruleT n) r l) _ _)
    cases r with
    | or => exact or_any g t (o + 1) _ (ih .and) (h16 .and) (hfit .and) l w hp
    | and => exact and_any g t (o + 1) _ (ih .not) (h16 .not) (hfit .not) l w hp
    | not => exact not_any g t (o + 1) _ _ (ih .not) (ih .cmp) (h16 .not) l w hp
    | cmp => exact cmp_any g t (o + 1) _ (ih .sum) (h16 .sum) l w hp
    | sum => exact sum_any g t (o + 1) _ (ih .prod) (h16 .prod) (hfit .prod) l w hp
    | prod => exact prod_any g t (o + 1) _ (ih .unary) (h16 .unary) (hfit .unary) l w hp
    | unary => exact unary_any g t (o + 1) _ (ih .unary) (ih .or) (h16 .unary) l w hp
end Go.Proofs.YtdfojghhpdkpfaaGreatDoor
