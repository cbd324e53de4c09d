/-
  A region that draws its order, whose operations make memory and call, but turn nothing that was there: behind it the frame holds what each operation left, of which a predicate is known.
-/
import Derived.Test.YtpbekhcogpkbpaaDoorReg2
set_option linter.unusedSimpArgs false
set_option linter.unusedVariables false
namespace Go.Proofs.YtpbekhcogpkbpaaDoor

theorem wp_region_vals_lit {P : Program} {l : List Oper} {L : List SP} {a0 : Act} {w0 : World} {Q : Exit → Act → World → Prop} {id : Nat} (hm : P.follows .mixedOrders = true) (hp : plainB l.toArray = true) (hv : L.length = l.length)
    (hsz : (l.all fun o => (o.dst.map fun d => decide (d < a0.tmps.size)).getD true) = true)
    (hstep : OpsDo P l.toArray (phi L) a0 w0 Q 0 l)
    (hend : ∀ vs w, vs.length = l.length → (∀ j (h : j < L.length) (h' : j < vs.length), L[j].p vs[j] w) → Same (fun _ => True) w0 w → Q .normal (putAll a0 l vs) w) : (Code.region id l.toArray true).wp P Q a0 w0 := by
  refine wp_region_rel_lit (L := L) hm hp hsz hstep (fun a w hs hd hz hf hw => ?_)
  obtain ⟨vs, hvs⟩ : ∃ vs, vs = (List.range l.length).map fun j => a.tmps.getD (slotOf l.toArray j) undef := ⟨_, rfl⟩
  have hvl : vs.length = l.length := by rw [hvs]; simp
  have hva : ∀ j (h : j < vs.length), vs[j] = a.tmps.getD (slotOf l.toArray j) undef := fun j h => by simp [hvs]
  have e : a = putAll a0 l vs := by
    refine act_ext (by rw [hd, putAll_defers]) (by rw [hz, putAll_size]) (fun d hdl => ?_)
    by_cases h : ∃ (j : Nat) (hj : j < l.length), l[j].dst = some d
    · obtain ⟨j, hj, hjd⟩ := h
      have hs1 : slotOf l.toArray j = d := slot_of (o := l[j]) (by simp [hj]) hjd
      have h2 : a.tmps.getD d undef = vs[j]'(by omega) := by rw [hva j (by omega), hs1]
      rw [h2, putAll_at l vs a0 j hj (by omega) hjd (fun k hk hjk hkd => ?_) (by rw [← hz]; exact hdl)]
      have hs2 : slotOf l.toArray k = d := slot_of (o := l[k]) (by simp [hk]) hkd
      exact (plain_at hp (i := k) (o := l[k]) (by simp [hk])).2.2 j hjk (by rw [hs1, hs2])
    · rw [putAll_other l vs a0 (fun o ho hod => h (by
        obtain ⟨j, hj, rfl⟩ := List.mem_iff_getElem.1 ho
        exact ⟨j, hj, hod⟩))]
      exact hf d (List.all_eq_true.2 fun o ho => by
        have : o.dst ≠ some d := fun hod => h (by
          obtain ⟨j, hj, rfl⟩ := List.mem_iff_getElem.1 ho
          exact ⟨j, hj, hod⟩)
        simpa using this)
  rw [e]
  refine hend vs w hvl (fun j h h' => ?_) hs
  have h1 := hw j (by omega)
  rw [hva j h']
  simpa [phi, h, List.getD] using h1
end Go.Proofs.YtpbekhcogpkbpaaDoor
