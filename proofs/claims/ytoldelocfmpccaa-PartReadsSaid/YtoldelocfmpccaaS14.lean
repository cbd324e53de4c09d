/-
  Words, plain models, laws and walks that the claims of this layer share (joined by shake.py). No condition.
-/
import Derived.Test.YtoldelocfmpccaaS1
import Derived.Test.YtoldelocfmpccaaS2
import Derived.Test.YtoldelocfmpccaaS3
import Derived.Test.YtoldelocfmpccaaS4
import Derived.Test.YtoldelocfmpccaaS5
import Derived.Test.YtoldelocfmpccaaS6
set_option linter.unusedSimpArgs false
set_option linter.unusedVariables false
namespace Go.Proofs.Ytoldelocfmpccaa
open Go.RowKit
theorem findr_results {W : World} {k : Nat} {o : Out} {b : Bool} (R : Row W k 93 (outCs o)) {tmps : Array Value}
    (h2 : tmps.getD 4 undef = .pointer (some ⟨k, 0, none⟩)) (h3 : tmps.getD 5 undef = .bool b) :
    (results Try.f50 tmps).run Try.prog W = .ok (.tuple #[outV o, .bool b]) W := by
  have d0 := R.cell 0
  have d1 := R.cell 1
  have d2 := R.cell 2
  have d3 := R.cell 3
  have d4 := R.cell 4
  have d5 := R.cell 5
  have d6 := R.cell 6
  simp only [outCs, List.getElem?_cons_zero, List.getElem?_cons_succ] at d0 d1 d2 d3 d4 d5 d6
  simp at h2 h3
  simp [results, Try.results50, h2, h3, go_sem, d0, d1, d2, d3, d4, d5, d6]
set_option maxRecDepth 100000 in
set_option maxHeartbeats 2000000 in
theorem refind_any (v : Value) (l : List Out) (b : TryT) (S : Nat → Prop) (w : World) (hv : OutR w S v l) :
    Calls Try.prog 50 #[v, tryV b] w (FindP (findO l b) w) := by
  obtain ⟨A, cp, rfl, hc, hm⟩ := hv.form
  unfold maxLen at hm
  have Hv := Lib.hid hv
  have r0 := (Row.new w 26 (tryCs b)).keep ((Same.refl (fun _ => True) _).alloc (.cells (outCs Out.zero).toArray 93)) trivial
  have r1 := Row.new (w.alloc (.cells (tryCs b).toArray 26)) 93 (outCs Out.zero)
  have hS0 := ((Same.refl (fun _ => True) w).alloc (.cells (tryCs b).toArray 26)).alloc (.cells (outCs Out.zero).toArray 93)
  rw [World.size_alloc] at r1
  clear hv
  go_enter Try.func50, Try.ntmps50
  go_wp2
  simp only [tryCs, outCs, Out.zero] at r0 r1 hS0
  revert r0 r1 hS0
  generalize (w.alloc _).alloc _ = w1
  intro r0 r1 hS0
  have R0 := Lib.hid r0
  have R1 := Lib.hid r1
  have HS0 := Lib.hid hS0
  clear r0 r1 hS0
  go_loopw [6] (fun i wr => ∃ k : Nat, i = .int .i64 k ∧ k ≤ l.length ∧ (∀ j (h : j < l.length), j < k → (l[j].by_ == b) = false) ∧ Same (fun _ => True) w1 wr) (fun i _ => l.length - (intOf i).toNat)
  case atStart => exact ⟨0, rfl, Nat.zero_le _, fun j _ h => absurd h (Nat.not_lt_zero _), Same.refl _ _⟩
  case round =>
    obtain ⟨k, rfl, hk, hno, hS⟩ := hrel
    have HS := Lib.hid hS
    have HSw := Lib.hid (HS0.out.trans hS)
    have Hno := Lib.hid hno
    have R0 := Lib.hid (R0.out.keep hS trivial)
    have R1 := Lib.hid (R1.out.keep hS trivial)
    clear hno
    by_cases hlt : k < l.length
    · obtain ⟨ad, rfl, -, c0, c1, c2, c3, c4, c5, c6⟩ := OutR.cells (RowR.keepAll Hv.out HSw.out) hlt
      have x1 : (0 : Int) ≤ (k : Int) := by omega
      have x2 : (k : Int) < (l.length : Int) := by omega
      have hat := @find_at l b k hlt Hno.out
      have Hat := Lib.hid hat
      have hstep : (l[k].by_ == b) = false → ∀ j (h : j < l.length), j < k + 1 → (l[j].by_ == b) = false := by
        intro h0 j h hj
        by_cases e : j = k
        · subst e; exact h0
        · exact Hno.out j h (by omega)
      have Hstep := Lib.hid hstep
      have p0 := R0.out.cell 0
      have p1 := R0.out.cell 1
      have p2 := R0.out.cell 2
      have p3 := R0.out.cell 3
      simp only [tryCs, List.getElem?_cons_zero, List.getElem?_cons_succ] at p0 p1 p2 p3
      have qE := fun W => try_run l[k].by_ b W
      clear hat hS hstep
      generalize l[k] = o at *
      cases hb : o.by_ == b
      · rw [hb] at qE
        have Hst := Lib.hid (Hstep.out hb)
        clear Hstep Hat hb
        go_wp2
        go_quiet (fail)
        rename_i nq
        have hsq := (Same.refl (fun _ => True) wr).drewN nq
        have HS2 := Lib.hid (HS.out.trans hsq)
        clear c0 c1 c2 c3 c4 c5 c6 p0 p1 p2 p3
        generalize wr.drewN nq = w2 at *
        go_wp2
        go_roundw
        case rel => exact ⟨k + 1, by go_num, by omega, Hst.out, HS2.out⟩
        case measure => simp [intOf]; omega
      · rw [hb] at qE
        have Hf := Lib.hid (Hat.out hb)
        clear Hstep Hat hb
        go_wp2
        go_quiet (fail)
        rename_i nq
        have hsq := (Same.refl (fun _ => True) wr).drewN nq
        have HS2 := Lib.hid (HSw.out.trans hsq)
        have c0' := hsq.cell (p := ad.add (k * 7)) trivial c0
        have c1' := hsq.cell (p := ⟨(ad.add (k * 7)).block, (ad.add (k * 7)).off + 1, none⟩) trivial c1
        have c2' := hsq.cell (p := ⟨(ad.add (k * 7)).block, (ad.add (k * 7)).off + 2, none⟩) trivial c2
        have c3' := hsq.cell (p := ⟨(ad.add (k * 7)).block, (ad.add (k * 7)).off + 3, none⟩) trivial c3
        have c4' := hsq.cell (p := ⟨(ad.add (k * 7)).block, (ad.add (k * 7)).off + 4, none⟩) trivial c4
        have c5' := hsq.cell (p := ⟨(ad.add (k * 7)).block, (ad.add (k * 7)).off + 5, none⟩) trivial c5
        have c6' := hsq.cell (p := ⟨(ad.add (k * 7)).block, (ad.add (k * 7)).off + 6, none⟩) trivial c6
        have r3 := R1.out.keep hsq trivial
        clear c0 c1 c2 c3 c4 c5 c6 p0 p1 p2 p3 hsq
        generalize wr.drewN nq = w2 at *
        have R3 := Lib.hid r3
        have z3 := r3.lt
        have d0 := r3.cell 0
        have d1 := r3.cell 1
        have d2 := r3.cell 2
        have d3 := r3.cell 3
        have d4 := r3.cell 4
        have d5 := r3.cell 5
        have d6 := r3.cell 6
        simp only [List.getElem?_cons_zero, List.getElem?_cons_succ] at d0 d1 d2 d3 d4 d5 d6
        have f0 := r3.frozen 0
        have f1 := r3.frozen 1
        have f2 := r3.frozen 2
        have f3 := r3.frozen 3
        have f4 := r3.frozen 4
        have f5 := r3.frozen 5
        have f6 := r3.frozen 6
        clear r3
        go_wp2
        rw [Hf.out]
        exact bodyPost_ret (findr_results (o := o) (show Row _ _ _ (outCs o) from R3.out.sets (outCs o) 0) rfl rfl) rfl ⟨rfl, Same.sets' (by omega) (outCs o) 0 HS2.out⟩
    · have hall := Lib.hid (find_none (b := b) (l := l) fun j h => Hno.out j h (by omega))
      clear hS
      have r3 := R1.out
      have R3 := Lib.hid r3
      have z3 := r3.lt
      have d0 := r3.cell 0
      have d1 := r3.cell 1
      have d2 := r3.cell 2
      have d3 := r3.cell 3
      have d4 := r3.cell 4
      have d5 := r3.cell 5
      have d6 := r3.cell 6
      simp only [List.getElem?_cons_zero, List.getElem?_cons_succ] at d0 d1 d2 d3 d4 d5 d6
      have f0 := r3.frozen 0
      have f1 := r3.frozen 1
      have f2 := r3.frozen 2
      have f3 := r3.frozen 3
      have f4 := r3.frozen 4
      have f5 := r3.frozen 5
      have f6 := r3.frozen 6
      clear r3
      obtain rfl : k = l.length := by omega
      go_wp2
      rw [hall.out]
      exact bodyPost_ret (findr_results (o := Out.zero) (show Row _ _ _ (outCs Out.zero) from R3.out.sets (outCs Out.zero) 0) rfl rfl) rfl ⟨rfl, Same.sets' (by omega) (outCs Out.zero) 0 HSw.out⟩
end Go.Proofs.Ytoldelocfmpccaa
