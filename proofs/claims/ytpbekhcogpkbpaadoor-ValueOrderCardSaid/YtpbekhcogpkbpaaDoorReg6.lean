/-
  The law of Reg5, the frames written as the operations' values lay them.
-/
import Derived.Test.YtpbekhcogpkbpaaDoorReg5
set_option linter.unusedSimpArgs false
set_option linter.unusedVariables false
namespace Go.Proofs.YtpbekhcogpkbpaaDoor

/-- The frame is what the listed operations' slots hold, laid one after the other. -/
theorem act_putAll {lj : List Oper} {a a0 : Act} (hd : a.defers = a0.defers) (hs : a.tmps.size = a0.tmps.size) (hsome : ∀ o ∈ lj, ∃ d, o.dst = some d) (hne : lj.Pairwise fun x y => x.dst ≠ y.dst)
    (hot : ∀ d, (∀ o ∈ lj, o.dst ≠ some d) → a.tmps.getD d undef = a0.tmps.getD d undef) : a = putAll a0 lj (lj.map fun o => a.tmps.getD (o.dst.getD 0) undef) := by
  refine act_ext (by rw [hd, putAll_defers]) (by rw [hs, putAll_size]) (fun d hdl => ?_)
  by_cases h : ∃ (j : Nat) (hj : j < lj.length), lj[j].dst = some d
  · obtain ⟨j, hj, hjd⟩ := h
    rw [putAll_at lj _ a0 j hj (by simpa using hj) hjd (fun k hk hjk hkd => ?_) (by rw [← hs]; exact hdl)]
    · simp [hjd]
    · exact List.pairwise_iff_getElem.1 hne j k hj hk hjk (by rw [hjd, hkd])
  · rw [putAll_other lj _ a0 (fun o ho hod => h (by
      obtain ⟨j, hj, rfl⟩ := List.mem_iff_getElem.1 ho
      exact ⟨j, hj, hod⟩))]
    exact hot d fun o ho hod => h (by
      obtain ⟨j, hj, rfl⟩ := List.mem_iff_getElem.1 ho
      exact ⟨j, hj, hod⟩)
/-- A predicate on a value (and on that of an operation waited for, number k) that later worlds keep. -/
structure SP2 where
  k : Option Nat
  p : Value → Value → World → Prop
  st : ∀ u v w w', p u v w → Same (fun _ => True) w w' → p u v w'
def SP2.of (s : SP) : SP2 := ⟨none, fun v _ w => s.p v w, fun u _ w w' h k => s.st u w w' h k⟩
def SP2.eq (u : Value) : SP2 := ⟨none, fun v _ _ => v = u, fun _ _ _ _ h _ => h⟩
def SP2.any : SP2 := ⟨none, fun _ _ _ => True, fun _ _ _ _ _ _ => trivial⟩
def SP2.q (s : SP2) (v : Value) (u : Nat → Value) (w : World) : Prop := match s.k with | none => s.p v undef w | some k => s.p v (u k) w
def spAt (L : List SP2) (i : Nat) : SP2 := L.getD i SP2.any
def phi2 (L : List SP2) (i : Nat) (u : Nat → Value) (w : World) : Prop := (spAt L i).q (u i) u w
/-- The predicates speak of no other operation than one that is waited for. -/
def linksB (ops : Array Oper) (L : List SP2) : Bool := (List.range L.length).all fun i => match (spAt L i).k with | none => true | some k => waitsAt ops i k
theorem phi2_st (L : List SP2) : ∀ i v w w', phi2 L i v w → Same (fun _ => True) w w' → phi2 L i v w' := fun i v w w' h k => by
  unfold phi2 SP2.q at *
  split at h <;> exact (spAt L i).st _ _ _ _ h k
theorem links_at {ops : Array Oper} {L : List SP2} (h : linksB ops L = true) {i k : Nat} (hk : (spAt L i).k = some k) : waitsAt ops i k = true := by
  rcases Nat.lt_or_ge i L.length with hi | hi
  · have := List.all_eq_true.1 h i (List.mem_range.2 hi)
    rw [hk] at this
    exact this
  · have : spAt L i = SP2.any := by simp [spAt, hi]
    rw [this] at hk
    cases hk
theorem phi2_dep {ops : Array Oper} {L : List SP2} (hl : linksB ops L = true) : ∀ i u v w, phi2 L i u w → u i = v i → (∀ j, waitsAt ops i j = true → u j = v j) → phi2 L i v w := fun i u v w h h1 h2 => by
  unfold phi2 SP2.q at *
  cases hk : (spAt L i).k with
  | none => rw [hk] at h; simpa [h1] using h
  | some k =>
    rw [hk] at h
    have := h2 k (links_at hl hk)
    simpa [h1, this] using h
/-- What an operation is shown to do. -/
def OpDoesL (P : Program) (ops : Array Oper) (L : List SP2) (a0 : Act) (w0 : World) (Q : Exit → Act → World → Prop) (i : Nat) (o : Oper) : Prop :=
  ∀ (a : Act) (w : World), Same (fun _ => True) w0 w → a.defers = a0.defers → a.tmps.size = a0.tmps.size →
    (∀ d, freeAt ops i d = true → a.tmps.getD d undef = a0.tmps.getD d undef) →
    (∀ j, waits o j = true → phi2 L j (valsOf ops a) w) →
    ∀ K : Act → World → Prop, (∀ v w', (spAt L i).q v (valsOf ops a) w' → Same (fun _ => True) w w' → K (a.put o.dst v) w') →
      if Region.wanted o (yielded ops a.tmps) = true then Oper.wp P o a w K Q else K (a.put o.dst undef) w
theorem OpDoesL.two {P : Program} {ops : Array Oper} {L : List SP2} {a0 : Act} {w0 : World} {Q : Exit → Act → World → Prop} {i : Nat} {o : Oper} (hl : linksB ops L = true) (ho : ops[i]? = some o) (h : OpDoesL P ops L a0 w0 Q i o) : OpDoes2 P ops (phi2 L) a0 w0 Q i o := by
  intro a w h1 h2 h3 h4 h5 K hK
  refine h a w h1 h2 h3 h4 h5 K fun v w' hv hs => hK v w' (fun u hu hj => ?_) hs
  unfold phi2 SP2.q at *
  cases hk : (spAt L i).k with
  | none => rw [hk] at hv; simpa [hu] using hv
  | some k =>
    rw [hk] at hv
    have hw := links_at hl hk
    simp only [waitsAt, ho, Option.map_some, Option.getD_some] at hw
    simpa [hu, hj k hw] using hv
def OpsDoL (P : Program) (ops : Array Oper) (L : List SP2) (a0 : Act) (w0 : World) (Q : Exit → Act → World → Prop) : Nat → List Oper → Prop
  | _, [] => True
  | k, o :: l => OpDoesL P ops L a0 w0 Q k o ∧ OpsDoL P ops L a0 w0 Q (k + 1) l
theorem OpsDoL.at_ {P : Program} {ops : Array Oper} {L : List SP2} {a0 : Act} {w0 : World} {Q : Exit → Act → World → Prop} : ∀ (l : List Oper) (k : Nat), OpsDoL P ops L a0 w0 Q k l → ∀ i o, l[i]? = some o → OpDoesL P ops L a0 w0 Q (k + i) o
  | [], _, _, i, o, h => by simp at h
  | o' :: l, k, h, 0, o, ho => by simp at ho; subst ho; exact h.1
  | o' :: l, k, h, i + 1, o, ho => by
    have := OpsDoL.at_ l (k + 1) h.2 i o (by simpa using ho)
    rwa [show k + (i + 1) = k + 1 + i from by omega]
section
variable {P : Program} {l : List Oper} {n d id : Nat} {L : List SP2} {a0 : Act} {w0 : World} {Q : Exit → Act → World → Prop}
theorem tailB_parts (hB : tailB l.toArray n d = true) : n < l.length ∧ plainN l.toArray n = true := by
  simp only [tailB, Bool.and_eq_true, decide_eq_true_eq] at hB
  exact ⟨by simpa using hB.1.1.1.1, hB.1.1.1.2⟩
theorem heads_facts (hB : tailB l.toArray n d = true) : (∀ o ∈ l.take n, ∃ d, o.dst = some d) ∧ ((l.take n).Pairwise fun x y => x.dst ≠ y.dst) ∧ ∀ j (hj : j < n) (hj' : j < (l.take n).length), slotOf l.toArray j = ((l.take n)[j].dst).getD 0 ∧ (l.take n)[j].dst = some (slotOf l.toArray j) := by
  obtain ⟨hn, hp⟩ := tailB_parts hB
  have hat : ∀ j (hj : j < n) (hj' : j < (l.take n).length), slotOf l.toArray j = ((l.take n)[j].dst).getD 0 ∧ (l.take n)[j].dst = some (slotOf l.toArray j) := by
    intro j hj hj'
    obtain ⟨-, ⟨k, hk⟩, -⟩ := plainN_at hp hj (show l.toArray[j]? = some (l[j]'(by omega)) by simp)
    have e := slot_of (ops := l.toArray) (show l.toArray[j]? = some (l[j]'(by omega)) by simp) hk
    rw [List.getElem_take, e, hk]
    exact ⟨rfl, rfl⟩
  refine ⟨fun o ho => ?_, ?_, hat⟩
  · obtain ⟨j, hj, rfl⟩ := List.mem_iff_getElem.1 ho
    exact ⟨_, (hat j (by rw [List.length_take] at hj; omega) hj).2⟩
  · rw [List.pairwise_iff_getElem]
    intro i j hi hj hij e
    have hi' : i < n := by rw [List.length_take] at hi; omega
    have hj' : j < n := by rw [List.length_take] at hj; omega
    rw [(hat i hi' hi).2, (hat j hj' hj).2] at e
    injection e with e
    exact (plainN_at hp hj' (show l.toArray[j]? = some (l[j]'(by omega)) by simp)).2.2 i hi' (by omega) e
theorem region_start (hm : P.follows .mixedOrders = true) {φ : Nat → (Nat → Value) → World → Prop} (hB : tailB l.toArray n d = true) (hsz : (l.all fun o => (o.dst.map fun d => decide (d < a0.tmps.size)).getD true) = true) (hstab : ∀ i v w w', φ i v w → Same (fun _ => True) w w' → φ i v w') (hdep : ∀ i u v w, φ i u w → u i = v i → (∀ j, waitsAt l.toArray i j = true → u j = v j) → φ i v w)
    (hstep : ∀ i o, i < n → l.toArray[i]? = some o → OpDoes2 P l.toArray φ a0 w0 Q i o) (hend : TailDoes P l n d φ a0 w0 Q) : (Code.region id l.toArray true).wp P Q a0 w0 := by
  obtain ⟨hn, hp⟩ := tailB_parts hB
  refine wp_region_any hm ?_
  have hcount : ((List.range n).filter fun i => !(Array.replicate l.toArray.size false).getD i true).length = n := by
    have : ((List.range n).filter fun i => !(Array.replicate l.toArray.size false).getD i true) = List.range n := by
      rw [List.filter_eq_self]
      intro i hi
      have := List.mem_range.1 hi
      have : i < l.length := by omega
      simp [Array.getD_eq_getD_getElem?, this]
    rw [this, List.length_range]
  have := wpAny_tail (w0 := w0) (φ := φ) hB hstab hdep (fun i o k ho hk => ?_) hstep hend n (Array.replicate l.toArray.size false) a0 { w0 with drawn := w0.drawn + 1 } (by simp) hcount ?_
  · rwa [show n + (l.toArray.size - n) = l.toArray.size by simp; omega] at this
  · have hmem : o ∈ l := by
      have : o ∈ l.toArray.toList := by rw [Array.mem_toList_iff]; exact Array.mem_of_getElem? ho
      simpa using this
    have := List.all_eq_true.1 hsz o hmem
    rw [hk] at this
    simpa using this
  · refine ⟨rfl, rfl, (Same.refl _ _).drew, fun _ _ => rfl, fun j hj h => ?_, fun j o e ho h => ?_, fun t h1 h2 => ?_⟩
    · have : j < l.length := by omega
      simp [Array.getD_eq_getD_getElem?, this] at h
    · have hj := (Array.getElem?_eq_some_iff.1 ho).1
      have hj : j < l.length := by simpa using hj
      simp [Array.getD_eq_getD_getElem?, hj] at h
    · have h2 : t < l.length := by simpa using h2
      simp [Array.getD_eq_getD_getElem?, h2]
/-- All of the first operations come ahead of the last ones. -/
theorem wp_region_tail_lit (n : Nat) (hm : P.follows .mixedOrders = true) (hB : tailB l.toArray n l.length = true) (hL : L.length = n) (hlk : linksB l.toArray L = true)
    (hsz : (l.all fun o => (o.dst.map fun d => decide (d < a0.tmps.size)).getD true) = true) (hstep : OpsDoL P l.toArray L a0 w0 Q 0 (l.take n))
    (hA : ∀ vs w, vs.length = n → (∀ j, j < n → (spAt L j).q (vs.getD j undef) (fun k => vs.getD k undef) w) → Same (fun _ => True) w0 w → wpList P l.toArray Q (l.drop n) (putAll a0 (l.take n) vs) w) : (Code.region id l.toArray true).wp P Q a0 w0 := by
  obtain ⟨hn, hp⟩ := tailB_parts hB
  obtain ⟨f1, f2, f3⟩ := heads_facts hB
  have hln : (l.take n).length = n := by rw [List.length_take]; omega
  refine region_start (φ := phi2 L) hm hB hsz (phi2_st L) (phi2_dep hlk) (fun i o hi ho => ?_) ⟨fun a w h1 h2 h3 h4 h5 => ?_, fun od on h => by simp at h⟩
  · have := OpsDoL.at_ (l.take n) 0 hstep i o (by rw [List.getElem?_take, if_pos hi]; simpa using ho)
    rw [Nat.zero_add] at this
    exact this.two hlk ho
  · have hval : ∀ j, j < n → ((l.take n).map fun o => a.tmps.getD (o.dst.getD 0) undef).getD j undef = valsOf l.toArray a j := fun j hj => by
      unfold valsOf
      rw [(f3 j hj (by omega)).1]
      have hj2 : j < l.length := by omega
      simp [List.getD_eq_getElem?_getD, hj, hj2]
    rw [act_putAll (a := a) (a0 := a0) (lj := l.take n) h2 h3 f1 f2 fun k hk => h4 k fun j hj e => ?_]
    · refine hA _ w (by rw [List.length_map, hln]) (fun j hj => ?_) h1
      have h := phi2_dep hlk j _ (fun k => ((l.take n).map fun o => a.tmps.getD (o.dst.getD 0) undef).getD k undef) w (h5 j hj) (hval j hj).symm fun k hk => (hval k ?_).symm
      · exact h
      · obtain ⟨oj, hoj⟩ : ∃ oj, l.toArray[j]? = some oj := by
          cases e : l.toArray[j]? with
          | none => simp [waitsAt, e] at hk
          | some oj => exact ⟨oj, rfl⟩
        simp only [waitsAt, hoj, Option.map_some, Option.getD_some, waits, List.any_eq_true, Bool.and_eq_true, beq_iff_eq, Array.mem_toList_iff] at hk
        obtain ⟨e, he, h2, h3⟩ := hk
        have := (plainN_at hp hj hoj).1 e he h3
        omega
    · refine hk ((l.take n)[j]'(by omega)) (List.getElem_mem _) ?_
      rw [(f3 j hj (by omega)).2, e]
/-- One of the first operations may come behind the first of the last ones (of the others' predicates none speaks of another operation). -/
theorem wp_region_tail_d {od on : Oper} (n d : Nat) (hd : d < n) (hm : P.follows .mixedOrders = true) (hB : tailB l.toArray n d = true) (hL : L.length = n) (hlk : linksB l.toArray L = true) (hone : ((L.eraseIdx d).all fun s => s.k.isNone) = true) (hod : l[d]? = some od) (hon : l[n]? = some on)
    (hsz : (l.all fun o => (o.dst.map fun d => decide (d < a0.tmps.size)).getD true) = true) (hstep : OpsDoL P l.toArray L a0 w0 Q 0 (l.take n))
    (hA : ∀ vs w, vs.length = n → (∀ j, j < n → (spAt L j).q (vs.getD j undef) (fun k => vs.getD k undef) w) → Same (fun _ => True) w0 w → wpList P l.toArray Q (l.drop n) (putAll a0 (l.take n) vs) w)
    (hD : ∀ vs w, vs.length = n - 1 → (∀ j, j < n - 1 → (spAt (L.eraseIdx d) j).p (vs.getD j undef) undef w) → Same (fun _ => True) w0 w → wpList P l.toArray Q (on :: od :: l.drop (n + 1)) (putAll a0 ((l.take n).eraseIdx d) vs) w) : (Code.region id l.toArray true).wp P Q a0 w0 := by
  obtain ⟨hn, hp⟩ := tailB_parts hB
  obtain ⟨f1, f2, f3⟩ := heads_facts hB
  have hln : (l.take n).length = n := by rw [List.length_take]; omega
  have hle : ((l.take n).eraseIdx d).length = n - 1 := by rw [List.length_eraseIdx, if_pos (by omega), hln]
  have hkn : ∀ j, j ≠ d → (spAt L j).k = none := fun j hjd => by
    rcases Nat.lt_or_ge j L.length with hj | hj
    · have := List.all_eq_true.1 hone L[j] (by rw [List.mem_eraseIdx_iff_getElem]; exact ⟨j, hj, hjd, rfl⟩)
      have e : spAt L j = L[j] := by simp [spAt, hj]
      rw [e]; simpa using this
    · have e : spAt L j = SP2.any := by simp [spAt, hj]
      rw [e]; rfl
  have hph : ∀ j u w, j ≠ d → phi2 L j u w → (spAt L j).p (u j) undef w := fun j u w hjd h => by
    unfold phi2 SP2.q at h
    rw [hkn j hjd] at h
    exact h
  refine region_start (φ := phi2 L) hm hB hsz (phi2_st L) (phi2_dep hlk) (fun i o hi ho => ?_) ⟨fun a w h1 h2 h3 h4 h5 => ?_, fun od' on' h h' a w h1 h2 h3 h4 h5 => ?_⟩
  · have := OpsDoL.at_ (l.take n) 0 hstep i o (by rw [List.getElem?_take, if_pos hi]; simpa using ho)
    rw [Nat.zero_add] at this
    exact this.two hlk ho
  · have hval : ∀ j, j < n → ((l.take n).map fun o => a.tmps.getD (o.dst.getD 0) undef).getD j undef = valsOf l.toArray a j := fun j hj => by
      unfold valsOf
      rw [(f3 j hj (by omega)).1]
      have hj2 : j < l.length := by omega
      simp [List.getD_eq_getElem?_getD, hj, hj2]
    rw [act_putAll (a := a) (a0 := a0) (lj := l.take n) h2 h3 f1 f2 fun k hk => h4 k fun j hj e => ?_]
    · refine hA _ w (by rw [List.length_map, hln]) (fun j hj => ?_) h1
      have h := phi2_dep hlk j _ (fun k => ((l.take n).map fun o => a.tmps.getD (o.dst.getD 0) undef).getD k undef) w (h5 j hj) (hval j hj).symm fun k hk => (hval k ?_).symm
      · exact h
      · obtain ⟨oj, hoj⟩ : ∃ oj, l.toArray[j]? = some oj := by
          cases e : l.toArray[j]? with
          | none => simp [waitsAt, e] at hk
          | some oj => exact ⟨oj, rfl⟩
        simp only [waitsAt, hoj, Option.map_some, Option.getD_some, waits, List.any_eq_true, Bool.and_eq_true, beq_iff_eq, Array.mem_toList_iff] at hk
        obtain ⟨e, he, h2, h3⟩ := hk
        have := (plainN_at hp hj hoj).1 e he h3
        omega
    · refine hk ((l.take n)[j]'(by omega)) (List.getElem_mem _) ?_
      rw [(f3 j hj (by omega)).2, e]
  · obtain rfl : od' = od := by rw [hod] at h; exact (Option.some.inj h).symm
    obtain rfl : on' = on := by rw [hon] at h'; exact (Option.some.inj h').symm
    rw [act_putAll (a := a) (a0 := a0) (lj := (l.take n).eraseIdx d) h2 h3 (fun o ho => f1 o (List.mem_of_mem_eraseIdx ho)) (f2.sublist (List.eraseIdx_sublist _ _)) fun k hk => h4 k fun j hj hjd e => ?_]
    · refine hD _ w (by rw [List.length_map, hle]) (fun j hj => ?_) h1
      have hsp : ∀ i, i < n → i ≠ d → (spAt L i).p (a.tmps.getD ((((l.take n)[i]?).bind (·.dst)).getD 0) undef) undef w := fun i hi hid => by
        have := hph i _ w hid (h5 i hi hid)
        unfold valsOf at this
        rw [(f3 i hi (by omega)).1] at this
        rw [List.getElem?_eq_getElem (by omega)]
        exact this
      have hgd : (((l.take n).eraseIdx d).map fun o => a.tmps.getD (o.dst.getD 0) undef).getD j undef = a.tmps.getD ((((l.take n).eraseIdx d)[j]?.bind (·.dst)).getD 0) undef := by
        have : j < ((l.take n).eraseIdx d).length := by omega
        rw [List.getD_eq_getElem?_getD, List.getElem?_map, List.getElem?_eq_getElem this]
        rfl
      rw [hgd, List.getElem?_eraseIdx]
      have hLe : spAt (L.eraseIdx d) j = spAt L (if j < d then j else j + 1) := by
        unfold spAt
        rw [List.getD_eq_getElem?_getD, List.getD_eq_getElem?_getD, List.getElem?_eraseIdx]
        split <;> rfl
      rw [hLe]
      split
      · exact hsp j (by omega) (by omega)
      · exact hsp (j + 1) (by omega) (by omega)
    · refine hk ((l.take n)[j]'(by omega)) ?_ ?_
      · rw [List.mem_eraseIdx_iff_getElem]
        exact ⟨j, by omega, hjd, rfl⟩
      · rw [(f3 j hj (by omega)).2, e]
end
end Go.Proofs.YtpbekhcogpkbpaaDoor
