/-
  A region that draws its order, whose operations make memory and call, but turn nothing that was there, each with a value that is known: behind it the frame is the one that the operations' values lay, whatever the order.
-/
import Derived.Test.YtpbekhcogpkbpaaDoorReg
set_option linter.unusedSimpArgs false
set_option linter.unusedVariables false
namespace Go.Proofs.YtpbekhcogpkbpaaDoor

/-- The frame behind the operations, in the text's order. -/
def putAll (a : Act) : List Oper → List Value → Act
  | o :: l, v :: vs => putAll (a.put o.dst v) l vs
  | _, _ => a
theorem put_size (a : Act) (d : Option Nat) (v : Value) : (a.put d v).tmps.size = a.tmps.size := by
  cases d with
  | none => rfl
  | some d => simp [Act.put]
theorem put_defers (a : Act) (d : Option Nat) (v : Value) : (a.put d v).defers = a.defers := by cases d <;> rfl
theorem putAll_size : ∀ (l : List Oper) (vs : List Value) (a : Act), (putAll a l vs).tmps.size = a.tmps.size
  | [], _, _ => rfl
  | _ :: _, [], _ => rfl
  | o :: l, v :: vs, a => by
    show (putAll (a.put o.dst v) l vs).tmps.size = _
    rw [putAll_size l vs, put_size]
theorem putAll_defers : ∀ (l : List Oper) (vs : List Value) (a : Act), (putAll a l vs).defers = a.defers
  | [], _, _ => rfl
  | _ :: _, [], _ => rfl
  | o :: l, v :: vs, a => by
    show (putAll (a.put o.dst v) l vs).defers = _
    rw [putAll_defers l vs, put_defers]
theorem put_other (a : Act) {e : Option Nat} {d : Nat} (v : Value) (h : e ≠ some d) : (a.put e v).tmps.getD d undef = a.tmps.getD d undef := by
  cases e with
  | none => rfl
  | some e =>
    have hne : e ≠ d := fun x => h (by rw [x])
    simp only [Act.put, Array.getD_eq_getD_getElem?, Array.getElem?_setIfInBounds]
    rw [if_neg hne]
theorem putAll_other {d : Nat} : ∀ (l : List Oper) (vs : List Value) (a : Act), (∀ o ∈ l, o.dst ≠ some d) → (putAll a l vs).tmps.getD d undef = a.tmps.getD d undef
  | [], _, _, _ => rfl
  | _ :: _, [], _, _ => rfl
  | o :: l, v :: vs, a, h => by
    show (putAll (a.put o.dst v) l vs).tmps.getD d undef = _
    rw [putAll_other l vs _ (fun o' ho => h o' (by simp [ho])), put_other _ _ (h o (by simp))]
theorem putAll_at {d : Nat} : ∀ (l : List Oper) (vs : List Value) (a : Act) (j : Nat) (hj : j < l.length) (hv : j < vs.length), l[j].dst = some d → (∀ (k : Nat) (hk : k < l.length), j < k → l[k].dst ≠ some d) → d < a.tmps.size →
    (putAll a l vs).tmps.getD d undef = vs[j]
  | [], _, _, j, hj, _, _, _, _ => by simp at hj
  | _ :: _, [], _, j, _, hv, _, _, _ => by simp at hv
  | o :: l, v :: vs, a, 0, _, _, hd, ho, hs => by
    show (putAll (a.put o.dst v) l vs).tmps.getD d undef = _
    rw [putAll_other l vs _ (fun o' ho' => by
      obtain ⟨k, hk, rfl⟩ := List.mem_iff_getElem.1 ho'
      exact ho (k + 1) (by simpa using hk) (by omega))]
    have hd' : o.dst = some d := hd
    rw [hd', getD_put a d d v hs]
    simp
  | o :: l, v :: vs, a, j + 1, hj, hv, hd, ho, hs => by
    show (putAll (a.put o.dst v) l vs).tmps.getD d undef = _
    have := putAll_at l vs (a.put o.dst v) j (by simpa using hj) (by simpa using hv) (by simpa using hd) (fun k hk hjk => by have := ho (k + 1) (by simpa using hk) (by omega); simpa using this) (by rw [put_size]; exact hs)
    simpa using this
theorem act_ext {a b : Act} (h1 : a.defers = b.defers) (h2 : a.tmps.size = b.tmps.size) (h3 : ∀ d, d < a.tmps.size → a.tmps.getD d undef = b.tmps.getD d undef) : a = b := by
  have ht : a.tmps = b.tmps := by
    apply Array.ext h2
    intro i hi hi'
    have := h3 i hi
    simpa [Array.getD_eq_getD_getElem?, hi, hi'] using this
  cases a; cases b
  simp at h1 ht
  rw [h1, ht]
/-- The law: every operation's value is known. -/
theorem wp_region_eq_lit {P : Program} {l : List Oper} {vs : List Value} {a0 : Act} {w0 : World} {Q : Exit → Act → World → Prop} {id : Nat} (hm : P.follows .mixedOrders = true) (hp : plainB l.toArray = true) (hv : vs.length = l.length)
    (hsz : (l.all fun o => (o.dst.map fun d => decide (d < a0.tmps.size)).getD true) = true)
    (hstep : OpsDo P l.toArray (phi (vs.map SP.eq)) a0 w0 Q 0 l)
    (hend : ∀ w, Same (fun _ => True) w0 w → Q .normal (putAll a0 l vs) w) : (Code.region id l.toArray true).wp P Q a0 w0 := by
  refine wp_region_rel_lit (L := vs.map SP.eq) hm hp hsz hstep (fun a w hs hd hz hf hw => ?_)
  have e : a = putAll a0 l vs := by
    refine act_ext (by rw [hd, putAll_defers]) (by rw [hz, putAll_size]) (fun d hdl => ?_)
    by_cases h : ∃ (j : Nat) (hj : j < l.length), l[j].dst = some d
    · obtain ⟨j, hj, hjd⟩ := h
      have hs1 : slotOf l.toArray j = d := slot_of (o := l[j]) (by simp [hj]) hjd
      have h1 := hw j hj
      rw [hs1] at h1
      have h2 : a.tmps.getD d undef = vs[j]'(by omega) := by
        have hjv : j < vs.length := by omega
        simpa [phi, hjv, SP.eq, List.getD] using h1
      rw [h2, putAll_at l vs a0 j hj (by omega) hjd (fun k hk hjk hkd => ?_) (by rw [← hz]; exact hdl)]
      have hs2 : slotOf l.toArray k = d := slot_of (o := l[k]) (by simp [hk]) hkd
      exact (plain_at hp (i := k) (o := l[k]) (by simp [hk])).2.2 j hjk (by rw [hs1, hs2])
    · rw [putAll_other l vs a0 (fun o ho hod => h (by
        obtain ⟨j, hj, rfl⟩ := List.mem_iff_getElem.1 ho
        exact ⟨j, hj, hod⟩))]
      exact hf d (List.all_eq_true.2 fun o ho => by
        have : o.dst ≠ some d := fun hod => h (by
          obtain ⟨j, hj, rfl⟩ := List.mem_iff_getElem.1 ho
          exact ⟨j, hj, hod⟩)
        simpa using this)
  rw [e]
  exact hend w hs
end Go.Proofs.YtpbekhcogpkbpaaDoor
