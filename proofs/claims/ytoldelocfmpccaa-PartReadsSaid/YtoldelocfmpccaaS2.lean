/-
  Words, plain models, laws and walks that the claims of this layer share (joined by shake.py). No condition.
-/
import Derived.Orders
import Derived.Test.YtoldelocfmpccaaS1
set_option linter.unusedSimpArgs false
set_option linter.unusedVariables false
namespace Go.Proofs.Ytoldelocfmpccaa
/-- Does o wait for operation j? -/
def waits (o : Oper) (j : Nat) : Bool := o.after.toList.any fun e => e.on == j && Region.binds .any e
/-- The slot of operation j. -/
def slotOf (ops : Array Oper) (j : Nat) : Nat := ((ops[j]?).bind (·.dst)).getD 0
/-- Whoever writes slot d waits for operation i. -/
def freeAt (ops : Array Oper) (i d : Nat) : Bool := ops.toList.all fun o => !(o.dst == some d) || waits o i
/-- Each edge leads back; each operation has a slot of its own. -/
def plainB (ops : Array Oper) : Bool :=
  (List.range ops.size).all fun i => ((ops[i]?).map fun o => o.after.all (fun e => decide (e.on < i) || !Region.binds .any e) && o.dst.isSome && (List.range i).all fun j => slotOf ops j != slotOf ops i).getD false
structure RegInv (ops : Array Oper) (φ : Nat → Value → World → Prop) (a0 : Act) (w0 : World) (listed : Array Bool) (a : Act) (w : World) : Prop where
  defers : a.defers = a0.defers
  size : a.tmps.size = a0.tmps.size
  same : Same (fun _ => True) w0 w
  kept : ∀ d, (∀ j o, ops[j]? = some o → listed.getD j true = true → o.dst ≠ some d) → a.tmps[d]? = a0.tmps[d]?
  done : ∀ j, j < ops.size → listed.getD j true = true → φ j (a.tmps.getD (slotOf ops j) undef) w
  down : ∀ j o e, ops[j]? = some o → listed.getD j true = true → e ∈ o.after → Region.binds .any e = true → listed.getD e.on true = true
theorem getD_put (a : Act) (d k : Nat) (v : Value) (h : d < a.tmps.size) : (a.put (some d) v).tmps.getD k undef = if d = k then v else a.tmps.getD k undef := by
  simp only [Act.put, Array.getD_eq_getD_getElem?, Array.getElem?_setIfInBounds]
  split
  · rename_i e; subst e; simp [h]
  · rfl
theorem getD_two {l : Array Bool} {j : Nat} (h : l.getD j false = true) : l.getD j true = true := by
  simp only [Array.getD_eq_getD_getElem?] at h ⊢
  cases hj : l[j]? with
  | none => rw [hj] at h; cases h
  | some b => rw [hj] at h; exact h
theorem getD_one {l : Array Bool} {j : Nat} (hj : j < l.size) (h : l.getD j true = true) : l.getD j false = true := by
  simp only [Array.getD_eq_getD_getElem?, Array.getElem?_eq_getElem hj, Option.getD_some] at h ⊢
  exact h
theorem count_less {n i fuel : Nat} {p p' : Nat → Bool} (hi : i < n) (hpi : p i = true) (hp' : ∀ j, p' j = (p j && j != i)) (h : ((List.range n).filter p).length = fuel + 1) : ((List.range n).filter p').length = fuel := by
  have e : (List.range n).filter p' = ((List.range n).filter p).erase i := by
    rw [List.Nodup.erase_eq_filter (List.Pairwise.filter _ List.nodup_range), List.filter_filter]
    apply List.filter_congr
    intro j _
    rw [hp' j, Bool.and_comm]
  rw [e, List.length_erase_of_mem (List.mem_filter.2 ⟨List.mem_range.2 hi, hpi⟩), h]
  rfl
section
variable {P : Program} {ops : Array Oper} {φ : Nat → Value → World → Prop} {a0 : Act} {w0 : World} {Q : Exit → Act → World → Prop}
theorem slot_of {i : Nat} {o : Oper} {d : Nat} (ho : ops[i]? = some o) (hd : o.dst = some d) : slotOf ops i = d := by simp [slotOf, ho, hd]
theorem plain_at (hp : plainB ops = true) {i : Nat} {o : Oper} (ho : ops[i]? = some o) :
    (∀ e ∈ o.after, Region.binds .any e = true → e.on < i) ∧ (∃ d, o.dst = some d) ∧ ∀ j, j < i → slotOf ops j ≠ slotOf ops i := by
  have hi : i < ops.size := (Array.getElem?_eq_some_iff.1 ho).1
  have h := List.all_eq_true.1 hp i (List.mem_range.2 hi)
  rw [ho] at h
  simp only [Option.map_some, Option.getD_some, Bool.and_eq_true, Array.all_eq_true_iff_forall_mem, decide_eq_true_eq, List.all_eq_true, List.mem_range, bne_iff_ne, ne_eq] at h
  obtain ⟨⟨h1, h2⟩, h3⟩ := h
  refine ⟨fun e he hb => ?_, Option.isSome_iff_exists.1 h2, h3⟩
  have := h1 e he
  simpa [hb] using this
/-- One more operation is done. -/
theorem RegInv.step (hp : plainB ops = true) (hstab : ∀ i v w w', φ i v w → Same (fun _ => True) w w' → φ i v w') (hsz : ∀ (i : Nat) (o : Oper) (d : Nat), ops[i]? = some o → o.dst = some d → d < a0.tmps.size)
    {listed : Array Bool} {a : Act} {w w' : World} {i : Nat} {o : Oper} {v : Value} (hl : listed.size = ops.size) (ho : ops[i]? = some o) (hni : listed.getD i true = false) (hr : ∀ e ∈ o.after, Region.binds .any e = true → listed.getD e.on true = true)
    (h : RegInv ops φ a0 w0 listed a w) (hs : Same (fun _ => True) w w') (hv : φ i v w') : RegInv ops φ a0 w0 (listed.setIfInBounds i true) (a.put o.dst v) w' := by
  have hi : i < ops.size := (Array.getElem?_eq_some_iff.1 ho).1
  obtain ⟨hback, ⟨d, hd⟩, hdist⟩ := plain_at hp ho
  have hdl : d < a.tmps.size := by rw [h.size]; exact hsz i o d ho hd
  have hset : ∀ j, (listed.setIfInBounds i true).getD j true = if i = j then true else listed.getD j true := by
    intro j
    simp only [Array.getD_eq_getD_getElem?, Array.getElem?_setIfInBounds]
    split
    · rename_i e; subst e; simp [hl, hi]
    · rfl
  have hne : ∀ j, j < ops.size → j ≠ i → slotOf ops j ≠ d := by
    intro j hj hji e
    obtain ⟨oj, hoj⟩ : ∃ oj, ops[j]? = some oj := ⟨_, Array.getElem?_eq_getElem hj⟩
    have hsi := slot_of ho hd
    rcases Nat.lt_or_gt_of_ne hji with hlt | hgt
    · exact hdist j hlt (by rw [hsi]; exact e)
    · exact (plain_at hp hoj).2.2 i hgt (by rw [hsi]; exact e.symm)
  refine ⟨by rw [hd]; exact h.defers, by rw [hd]; simp [Act.put]; exact h.size, h.same.trans hs, ?_, ?_, ?_⟩
  · intro k hk
    have hkd : d ≠ k := by
      intro e
      exact hk i o ho (by rw [hset, if_pos rfl]) (by rw [hd, e])
    have : (a.put o.dst v).tmps[k]? = a.tmps[k]? := by
      rw [hd]
      simp only [Act.put, Array.getElem?_setIfInBounds, if_neg hkd]
    rw [this]
    refine h.kept k fun j oj hoj hlj => hk j oj hoj ?_
    rw [hset]; split
    · rfl
    · exact hlj
  · intro j hj hlj
    rw [hset] at hlj
    rw [hd, getD_put _ _ _ _ hdl]
    by_cases hij : i = j
    · subst hij
      rw [if_pos (slot_of ho hd).symm]
      exact hv
    · rw [if_neg hij] at hlj
      rw [if_neg (fun e => hne j hj (fun e' => hij e'.symm) e.symm)]
      exact hstab _ _ _ _ (h.done j hj hlj) hs
  · intro j oj e hoj hlj he hb
    rw [hset] at hlj ⊢
    split
    · rfl
    · by_cases hij : i = j
      · subst hij
        rw [ho] at hoj
        injection hoj with hoj
        subst hoj
        exact hr e he hb
      · rw [if_neg hij] at hlj
        exact h.down j oj e hoj hlj he hb
/-- What an operation is shown to do: it leaves a value that its predicate tells, and a world that keeps all. -/
def OpDoes (P : Program) (ops : Array Oper) (φ : Nat → Value → World → Prop) (a0 : Act) (w0 : World) (Q : Exit → Act → World → Prop) (i : Nat) (o : Oper) : Prop :=
  ∀ (a : Act) (w : World), Same (fun _ => True) w0 w → a.defers = a0.defers → a.tmps.size = a0.tmps.size →
    (∀ d, freeAt ops i d = true → a.tmps.getD d undef = a0.tmps.getD d undef) →
    (∀ j, waits o j = true → φ j (a.tmps.getD (slotOf ops j) undef) w) →
    ∀ K : Act → World → Prop, (∀ v w', φ i v w' → Same (fun _ => True) w w' → K (a.put o.dst v) w') →
      if Region.wanted o (yielded ops a.tmps) = true then Oper.wp P o a w K Q else K (a.put o.dst undef) w
theorem wpAny_rel (hp : plainB ops = true) (hstab : ∀ i v w w', φ i v w → Same (fun _ => True) w w' → φ i v w') (hsz : ∀ (i : Nat) (o : Oper) (d : Nat), ops[i]? = some o → o.dst = some d → d < a0.tmps.size)
    (hstep : ∀ i o, ops[i]? = some o → OpDoes P ops φ a0 w0 Q i o)
    (hend : ∀ a w, Same (fun _ => True) w0 w → a.defers = a0.defers → a.tmps.size = a0.tmps.size → (∀ d, (∀ j, j < ops.size → slotOf ops j ≠ d) → a.tmps.getD d undef = a0.tmps.getD d undef) →
      (∀ j, j < ops.size → φ j (a.tmps.getD (slotOf ops j) undef) w) → Q .normal a w) :
    ∀ (fuel : Nat) (listed : Array Bool) (a : Act) (w : World), listed.size = ops.size → ((List.range ops.size).filter fun i => !listed.getD i true).length = fuel →
      RegInv ops φ a0 w0 listed a w → wpAny P .any ops Q fuel listed a w := by
  have ready_nil : ∀ listed : Array Bool, listed.size = ops.size → Region.ready .any ops listed = [] → ∀ i, i < ops.size → listed.getD i true = true := by
    intro listed hlz hr i
    induction i using Nat.strongRecOn with
    | _ i ih =>
      intro hi
      cases hli : listed.getD i true with
      | true => rfl
      | false =>
        exfalso
        obtain ⟨o, ho⟩ : ∃ o, ops[i]? = some o := ⟨_, Array.getElem?_eq_getElem hi⟩
        have : i ∈ Region.ready .any ops listed := by
          unfold Region.ready
          rw [List.mem_filter]
          refine ⟨List.mem_range.2 hi, ?_⟩
          rw [ho, hli]
          simp only [Bool.not_false, Bool.true_and, Option.map_some, Option.getD_some, Array.all_eq_true_iff_forall_mem]
          intro e he
          by_cases hb : Region.binds .any e = true
          · have hlt := (plain_at hp ho).1 e he hb
            have hz : listed.getD e.on false = true := by
              exact getD_one (by omega) (ih e.on hlt (by omega))
            rw [hz]; simp
          · simp [hb]
        rw [hr] at this
        cases this
  have fin : ∀ (listed : Array Bool) (a : Act) (w : World), listed.size = ops.size → Region.ready .any ops listed = [] → RegInv ops φ a0 w0 listed a w → Q .normal a w := by
    intro listed a w hlz hr h
    have hall := ready_nil listed hlz hr
    refine hend a w h.same h.defers h.size (fun d hd => ?_) (fun j hj => h.done j hj (hall j hj))
    have := h.kept d fun j o ho _ e => hd j (Array.getElem?_eq_some_iff.1 ho).1 (slot_of ho e)
    simp [Array.getD_eq_getD_getElem?, this]
  intro fuel
  induction fuel with
  | zero =>
    intro listed a w hl hc h
    have hr : Region.ready .any ops listed = [] := by
      unfold Region.ready
      rw [List.filter_eq_nil_iff]
      intro i hi hh
      have hf := List.eq_nil_of_length_eq_zero hc
      rw [List.filter_eq_nil_iff] at hf
      have := hf i hi
      simp only [Bool.and_eq_true] at hh
      exact this hh.1
    exact ⟨hr, fin listed a w hl hr h⟩
  | succ fuel ih =>
    intro listed a w hl hc h
    refine ⟨fun hr => fin listed a w hl hr h, fun i hi => ?_⟩
    unfold Region.ready at hi
    rw [List.mem_filter] at hi
    obtain ⟨hi, hrd⟩ := hi
    have hi := List.mem_range.1 hi
    obtain ⟨o, ho⟩ : ∃ o, ops[i]? = some o := ⟨_, Array.getElem?_eq_getElem hi⟩
    rw [ho] at hrd
    simp only [Bool.and_eq_true, Bool.not_eq_true', Option.map_some, Option.getD_some, Array.all_eq_true_iff_forall_mem] at hrd
    obtain ⟨hni, hrd⟩ := hrd
    have hrr : ∀ e ∈ o.after, Region.binds .any e = true → listed.getD e.on true = true := by
      intro e he hb
      have := hrd e he
      rw [hb] at this
      exact getD_two (by simpa using this)
    refine wpOp_step ho fun K hK => ?_
    refine hstep i o ho a w h.same h.defers h.size (fun d hd => ?_) (fun j hj => ?_) K (fun v w' hv hs => hK _ _ ?_)
    · have : a.tmps[d]? = a0.tmps[d]? := by
        refine h.kept d fun j oj hoj hlj e => ?_
        have hm : oj ∈ ops.toList := by
          rw [Array.mem_toList_iff]
          exact Array.mem_of_getElem? hoj
        have := List.all_eq_true.1 hd oj hm
        simp only [e, beq_self_eq_true, Bool.not_true, Bool.false_or, waits, List.any_eq_true, Bool.and_eq_true, beq_iff_eq, Array.mem_toList_iff] at this
        obtain ⟨ed, h1, h2, h3⟩ := this
        have := h.down j oj ed hoj hlj h1 h3
        rw [h2, hni] at this
        cases this
      simp [Array.getD_eq_getD_getElem?, this]
    · simp only [waits, List.any_eq_true, Bool.and_eq_true, beq_iff_eq, Array.mem_toList_iff] at hj
      obtain ⟨e, he, h2, h3⟩ := hj
      have hlt := (plain_at hp ho).1 e he h3
      exact h.done j (by omega) (by rw [← h2]; exact hrr e he h3)
    · refine ih _ _ _ (by simpa using hl) ?_ (RegInv.step hp hstab hsz hl ho hni hrr h hs hv)
      refine count_less (i := i) (p := fun i => !listed.getD i true) hi (by rw [hni]; rfl) (fun j => ?_) hc
      simp only [Array.getD_eq_getD_getElem?, Array.getElem?_setIfInBounds]
      by_cases hij : i = j
      · subst hij
        have : i < listed.size := by omega
        simp [this]
      · rw [if_neg hij]
        have : (j != i) = true := by simpa using fun e : j = i => hij e.symm
        rw [this, Bool.and_true]
theorem wp_region_rel {id : Nat} (hm : P.follows .mixedOrders = true) (hp : plainB ops = true) (hstab : ∀ i v w w', φ i v w → Same (fun _ => True) w w' → φ i v w') (hsz : (ops.toList.all fun o => (o.dst.map fun d => decide (d < a0.tmps.size)).getD true) = true)
    (hstep : ∀ i o, ops[i]? = some o → OpDoes P ops φ a0 w0 Q i o)
    (hend : ∀ a w, Same (fun _ => True) w0 w → a.defers = a0.defers → a.tmps.size = a0.tmps.size → (∀ d, (∀ j, j < ops.size → slotOf ops j ≠ d) → a.tmps.getD d undef = a0.tmps.getD d undef) →
      (∀ j, j < ops.size → φ j (a.tmps.getD (slotOf ops j) undef) w) → Q .normal a w) : (Code.region id ops true).wp P Q a0 w0 := by
  refine wp_region_any hm (wpAny_rel hp hstab (fun i o d ho hd => ?_) hstep hend ops.size _ a0 _ (by simp) ?_ ?_)
  · have hmem : o ∈ ops.toList := by rw [Array.mem_toList_iff]; exact Array.mem_of_getElem? ho
    have := List.all_eq_true.1 hsz o hmem
    rw [hd] at this
    simpa using this
  · have : ((List.range ops.size).filter fun i => !(Array.replicate ops.size false).getD i true) = List.range ops.size := by
      rw [List.filter_eq_self]
      intro i hi
      have := List.mem_range.1 hi
      simp [Array.getD_eq_getD_getElem?, this]
    rw [this, List.length_range]
  · refine ⟨rfl, rfl, (Same.refl _ _).drew, fun _ _ => rfl, fun j hj h => ?_, fun j o e ho h => ?_⟩
    · simp [Array.getD_eq_getD_getElem?, hj] at h
    · have hj := (Array.getElem?_eq_some_iff.1 ho).1
      simp [Array.getD_eq_getD_getElem?, hj] at h
end
/-- A predicate on a value that later worlds keep. -/
structure SP where
  p : Value → World → Prop
  st : ∀ v w w', p v w → Same (fun _ => True) w w' → p v w'
def SP.any : SP := ⟨fun _ _ => True, fun _ _ _ _ _ => trivial⟩
def SP.eq (u : Value) : SP := ⟨fun v _ => v = u, fun _ _ _ h _ => h⟩
def SP.by (S : Nat → Prop) (bs : List UInt8) : SP := ⟨fun v w => By w S v bs, fun _ _ _ h k => h.keepAll k⟩
def phi (L : List SP) (i : Nat) (v : Value) (w : World) : Prop := (L.getD i SP.any).p v w
theorem phi_st (L : List SP) : ∀ i v w w', phi L i v w → Same (fun _ => True) w w' → phi L i v w' := fun i v w w' h k => (L.getD i SP.any).st v w w' h k
/-- Each of the operations, one by one. -/
def OpsDo (P : Program) (ops : Array Oper) (φ : Nat → Value → World → Prop) (a0 : Act) (w0 : World) (Q : Exit → Act → World → Prop) : Nat → List Oper → Prop
  | _, [] => True
  | k, o :: l => OpDoes P ops φ a0 w0 Q k o ∧ OpsDo P ops φ a0 w0 Q (k + 1) l
theorem OpsDo.nil {P : Program} {ops : Array Oper} {φ : Nat → Value → World → Prop} {a0 : Act} {w0 : World} {Q : Exit → Act → World → Prop} {k : Nat} : OpsDo P ops φ a0 w0 Q k [] := trivial
theorem OpsDo.cons {P : Program} {ops : Array Oper} {φ : Nat → Value → World → Prop} {a0 : Act} {w0 : World} {Q : Exit → Act → World → Prop} {k : Nat} {o : Oper} {l : List Oper} (h : OpDoes P ops φ a0 w0 Q k o) (h' : OpsDo P ops φ a0 w0 Q (k + 1) l) : OpsDo P ops φ a0 w0 Q k (o :: l) := ⟨h, h'⟩
theorem OpsDo.at_ {P : Program} {ops : Array Oper} {φ : Nat → Value → World → Prop} {a0 : Act} {w0 : World} {Q : Exit → Act → World → Prop} : ∀ (l : List Oper) (k : Nat), OpsDo P ops φ a0 w0 Q k l → ∀ i o, l[i]? = some o → OpDoes P ops φ a0 w0 Q (k + i) o
  | [], _, _, i, o, h => by simp at h
  | o' :: l, k, h, 0, o, ho => by simp at ho; subst ho; exact h.1
  | o' :: l, k, h, i + 1, o, ho => by
    have := OpsDo.at_ l (k + 1) h.2 i o (by simpa using ho)
    rwa [show k + (i + 1) = k + 1 + i from by omega]
/-- The same law, the operations written out. -/
theorem wp_region_rel_lit {P : Program} {l : List Oper} {L : List SP} {a0 : Act} {w0 : World} {Q : Exit → Act → World → Prop} {id : Nat} (hm : P.follows .mixedOrders = true) (hp : plainB l.toArray = true)
    (hsz : (l.all fun o => (o.dst.map fun d => decide (d < a0.tmps.size)).getD true) = true)
    (hstep : OpsDo P l.toArray (phi L) a0 w0 Q 0 l)
    (hend : ∀ a w, Same (fun _ => True) w0 w → a.defers = a0.defers → a.tmps.size = a0.tmps.size → (∀ d, (l.all fun o => o.dst != some d) = true → a.tmps.getD d undef = a0.tmps.getD d undef) →
      (∀ j, j < l.length → phi L j (a.tmps.getD (slotOf l.toArray j) undef) w) → Q .normal a w) : (Code.region id l.toArray true).wp P Q a0 w0 := by
  refine wp_region_rel (φ := phi L) hm hp (phi_st L) (by simpa using hsz) (fun i o ho => ?_) (fun a w h1 h2 h3 h4 h5 => hend a w h1 h2 h3 (fun d hd => h4 d fun j hj e => ?_) (fun j hj => h5 j (by simpa using hj)))
  · have := OpsDo.at_ l 0 hstep i o (by simpa using ho)
    rwa [Nat.zero_add] at this
  · have hj' : j < l.length := by simpa using hj
    have hd' := List.all_eq_true.1 hd l[j] (List.getElem_mem hj')
    obtain ⟨d', hd2⟩ := (plain_at hp (i := j) (o := l[j]) (by simp [hj'])).2.1
    have : slotOf l.toArray j = d' := slot_of (by simp [hj']) hd2
    rw [hd2] at hd'
    rw [this] at e
    subst e
    simp at hd'
/-- Whether a guarded operation runs. -/
theorem wanted_at {ops : Array Oper} {o : Oper} {a : Act} {j d : Nat} {b want : Bool} (hg : o.guard = some (j, want)) (ho : (ops[j]?).bind (·.dst) = some d) (hd : d < a.tmps.size) (e : a.eval (.tmp d) = .bool b) :
    Region.wanted o (yielded ops a.tmps) = (some b == some want) := by
  have hy : yielded ops a.tmps j = some b := by
    unfold yielded
    rw [ho]
    have h1 : a.tmps[d]? = some (.bool b) := by
      have : a.tmps.getD d undef = .bool b := e
      rw [Array.getD_eq_getD_getElem?, Array.getElem?_eq_getElem hd] at this
      rw [Array.getElem?_eq_getElem hd]
      simpa using this
    simp [h1]
  unfold Region.wanted
  rw [hg]
  simp [hy]
theorem run_wanted {ops : Array Oper} {o : Oper} {a : Act} {j d n : Nat} {b : Bool} {A B : Prop} (hg : o.guard = some (j, b)) (ho : (ops[j]?).bind (·.dst) = some d) (hn : a.tmps.size = n) (hd : d < n) (e : a.eval (.tmp d) = .bool b) (h : A) :
    if Region.wanted o (yielded ops a.tmps) = true then A else B := by
  rw [wanted_at hg ho (by omega) e, if_pos (by simp)]
  exact h
theorem skip_wanted {ops : Array Oper} {o : Oper} {a : Act} {j d n : Nat} {b : Bool} {A B : Prop} (hg : o.guard = some (j, !b)) (ho : (ops[j]?).bind (·.dst) = some d) (hn : a.tmps.size = n) (hd : d < n) (e : a.eval (.tmp d) = .bool b) (h : B) :
    if Region.wanted o (yielded ops a.tmps) = true then A else B := by
  rw [wanted_at hg ho (by omega) e, if_neg (by cases b <;> simp)]
  exact h
end Go.Proofs.Ytoldelocfmpccaa
namespace Go.Proofs.Ytoldelocfmpccaa
/-- The frame behind the operations, in the text's order. -/
def putAll (a : Act) : List Oper → List Value → Act
  | o :: l, v :: vs => putAll (a.put o.dst v) l vs
  | _, _ => a
theorem put_size (a : Act) (d : Option Nat) (v : Value) : (a.put d v).tmps.size = a.tmps.size := by
  cases d with
  | none => rfl
  | some d => simp [Act.put]
theorem put_defers (a : Act) (d : Option Nat) (v : Value) : (a.put d v).defers = a.defers := by cases d <;> rfl
theorem putAll_size : ∀ (l : List Oper) (vs : List Value) (a : Act), (putAll a l vs).tmps.size = a.tmps.size
  | [], _, _ => rfl
  | _ :: _, [], _ => rfl
  | o :: l, v :: vs, a => by
    show (putAll (a.put o.dst v) l vs).tmps.size = _
    rw [putAll_size l vs, put_size]
theorem putAll_defers : ∀ (l : List Oper) (vs : List Value) (a : Act), (putAll a l vs).defers = a.defers
  | [], _, _ => rfl
  | _ :: _, [], _ => rfl
  | o :: l, v :: vs, a => by
    show (putAll (a.put o.dst v) l vs).defers = _
    rw [putAll_defers l vs, put_defers]
theorem put_other (a : Act) {e : Option Nat} {d : Nat} (v : Value) (h : e ≠ some d) : (a.put e v).tmps.getD d undef = a.tmps.getD d undef := by
  cases e with
  | none => rfl
  | some e =>
    have hne : e ≠ d := fun x => h (by rw [x])
    simp only [Act.put, Array.getD_eq_getD_getElem?, Array.getElem?_setIfInBounds]
    rw [if_neg hne]
theorem putAll_other {d : Nat} : ∀ (l : List Oper) (vs : List Value) (a : Act), (∀ o ∈ l, o.dst ≠ some d) → (putAll a l vs).tmps.getD d undef = a.tmps.getD d undef
  | [], _, _, _ => rfl
  | _ :: _, [], _, _ => rfl
  | o :: l, v :: vs, a, h => by
    show (putAll (a.put o.dst v) l vs).tmps.getD d undef = _
    rw [putAll_other l vs _ (fun o' ho => h o' (by simp [ho])), put_other _ _ (h o (by simp))]
theorem putAll_at {d : Nat} : ∀ (l : List Oper) (vs : List Value) (a : Act) (j : Nat) (hj : j < l.length) (hv : j < vs.length), l[j].dst = some d → (∀ (k : Nat) (hk : k < l.length), j < k → l[k].dst ≠ some d) → d < a.tmps.size →
    (putAll a l vs).tmps.getD d undef = vs[j]
  | [], _, _, j, hj, _, _, _, _ => by simp at hj
  | _ :: _, [], _, j, _, hv, _, _, _ => by simp at hv
  | o :: l, v :: vs, a, 0, _, _, hd, ho, hs => by
    show (putAll (a.put o.dst v) l vs).tmps.getD d undef = _
    rw [putAll_other l vs _ (fun o' ho' => by
      obtain ⟨k, hk, rfl⟩ := List.mem_iff_getElem.1 ho'
      exact ho (k + 1) (by simpa using hk) (by omega))]
    have hd' : o.dst = some d := hd
    rw [hd', getD_put a d d v hs]
    simp
  | o :: l, v :: vs, a, j + 1, hj, hv, hd, ho, hs => by
    show (putAll (a.put o.dst v) l vs).tmps.getD d undef = _
    have := putAll_at l vs (a.put o.dst v) j (by simpa using hj) (by simpa using hv) (by simpa using hd) (fun k hk hjk => by have := ho (k + 1) (by simpa using hk) (by omega); simpa using this) (by rw [put_size]; exact hs)
    simpa using this
theorem act_ext {a b : Act} (h1 : a.defers = b.defers) (h2 : a.tmps.size = b.tmps.size) (h3 : ∀ d, d < a.tmps.size → a.tmps.getD d undef = b.tmps.getD d undef) : a = b := by
  have ht : a.tmps = b.tmps := by
    apply Array.ext h2
    intro i hi hi'
    have := h3 i hi
    simpa [Array.getD_eq_getD_getElem?, hi, hi'] using this
  cases a; cases b
  simp at h1 ht
  rw [h1, ht]
/-- The law: every operation's value is known. -/
theorem wp_region_eq_lit {P : Program} {l : List Oper} {vs : List Value} {a0 : Act} {w0 : World} {Q : Exit → Act → World → Prop} {id : Nat} (hm : P.follows .mixedOrders = true) (hp : plainB l.toArray = true) (hv : vs.length = l.length)
    (hsz : (l.all fun o => (o.dst.map fun d => decide (d < a0.tmps.size)).getD true) = true)
    (hstep : OpsDo P l.toArray (phi (vs.map SP.eq)) a0 w0 Q 0 l)
    (hend : ∀ w, Same (fun _ => True) w0 w → Q .normal (putAll a0 l vs) w) : (Code.region id l.toArray true).wp P Q a0 w0 := by
  refine wp_region_rel_lit (L := vs.map SP.eq) hm hp hsz hstep (fun a w hs hd hz hf hw => ?_)
  have e : a = putAll a0 l vs := by
    refine act_ext (by rw [hd, putAll_defers]) (by rw [hz, putAll_size]) (fun d hdl => ?_)
    by_cases h : ∃ (j : Nat) (hj : j < l.length), l[j].dst = some d
    · obtain ⟨j, hj, hjd⟩ := h
      have hs1 : slotOf l.toArray j = d := slot_of (o := l[j]) (by simp [hj]) hjd
      have h1 := hw j hj
      rw [hs1] at h1
      have h2 : a.tmps.getD d undef = vs[j]'(by omega) := by
        have hjv : j < vs.length := by omega
        simpa [phi, hjv, SP.eq, List.getD] using h1
      rw [h2, putAll_at l vs a0 j hj (by omega) hjd (fun k hk hjk hkd => ?_) (by rw [← hz]; exact hdl)]
      have hs2 : slotOf l.toArray k = d := slot_of (o := l[k]) (by simp [hk]) hkd
      exact (plain_at hp (i := k) (o := l[k]) (by simp [hk])).2.2 j hjk (by rw [hs1, hs2])
    · rw [putAll_other l vs a0 (fun o ho hod => h (by
        obtain ⟨j, hj, rfl⟩ := List.mem_iff_getElem.1 ho
        exact ⟨j, hj, hod⟩))]
      exact hf d (List.all_eq_true.2 fun o ho => by
        have : o.dst ≠ some d := fun hod => h (by
          obtain ⟨j, hj, rfl⟩ := List.mem_iff_getElem.1 ho
          exact ⟨j, hj, hod⟩)
        simpa using this)
  rw [e]
  exact hend w hs
end Go.Proofs.Ytoldelocfmpccaa
namespace Go.Proofs.Ytoldelocfmpccaa
open Go.RowKit
/-- What the document's loop holds. -/
def RBlkRel (R : Lck × Bool) (a : St) (cs : List Cel) (lo hi : List UInt8) (k p : Nat) (w wr : World) : Prop :=
  k ≤ cs.length ∧ blockGo a (withinF (cs.drop k) lo hi) = R ∧ Row wr p 53 [.string (str lo), .string (str hi)] ∧ Row wr (p + 1) 28 (stCs a) ∧ Row wr (p + 1 + 1) 30 (lckCs Lck.zero) ∧ Same (fun _ => True) w wr
theorem RBlkRel.keep {R : Lck × Bool} {a : St} {cs : List Cel} {lo hi : List UInt8} {k k' p : Nat} {w wr wr' : World} (h : RBlkRel R a cs lo hi k p w wr) (hs : Same (fun _ => True) wr wr') (hk : k' ≤ cs.length) (hb : blockGo a (withinF (cs.drop k') lo hi) = R) : RBlkRel R a cs lo hi k' p w wr' :=
  ⟨hk, hb, h.2.2.1.keep hs trivial, h.2.2.2.1.keep hs trivial, h.2.2.2.2.1.keep hs trivial, h.2.2.2.2.2.trans hs⟩
end Go.Proofs.Ytoldelocfmpccaa
namespace Go.Proofs.Ytoldelocfmpccaa
open Go.RowKit
theorem own_cap {w : World} {B : Nat} {e : TypeId} {size : Nat} {v : Value} {n : Nat} {xs : List Value} (h : w.ownsRow B e size v n xs) : ∃ A c, v = .slice A n c ∧ n ≤ c ∧ c ≤ maxLen := by
  rcases h.2 with ⟨rfl, rfl⟩ | ⟨g, cap, cur, rfl, _, _, h1, h2, _⟩
  · exact ⟨none, 0, rfl, by omega, by simp [maxLen]⟩
  · exact ⟨_, _, rfl, h1, h2⟩
theorem own_ge {w : World} {B : Nat} {e : TypeId} {size : Nat} {v : Value} {n : Nat} {xs : List Value} (h : w.ownsRow B e size v n xs) {k : Nat} (hk : some k = v.ownBlock) : B ≤ k := (h.lt k hk.symm).1
theorem own_lower {w : World} {B B' : Nat} {e : TypeId} {size : Nat} {v : Value} {n : Nat} {xs : List Value} (h : w.ownsRow B e size v n xs) (hb : B' ≤ B) : w.ownsRow B' e size v n xs :=
  ⟨h.1, h.2.imp id fun ⟨g, c, cu, h1, h2, h3⟩ => ⟨g, c, cu, h1, Nat.le_trans hb h2, h3⟩⟩
/-- A row of structs that the call owns. -/
def OwnR {α : Type} (f : α → List Value) (n : Nat) (e : TypeId) (w : World) (B : Nat) (v : Value) (l : List α) : Prop := w.ownsRow B e n v l.length (l.flatMap f)
section
variable {α : Type} {f : α → List Value} {n : Nat} {e : TypeId} {w w' : World} {B : Nat} {v : Value} {l : List α}
theorem OwnR.nil (w : World) (B : Nat) : OwnR f n e w B (.slice none 0 0) [] := World.ownsRow_nil _ _ _ _
theorem OwnR.keepAll (h : OwnR f n e w B v l) (hs : Same (fun _ => True) w w') : OwnR f n e w' B v l := own_keepAll h hs
theorem OwnR.keep {S : Nat → Prop} (h : OwnR f n e w B v l) (hs : Same S w w') (hS : ∀ k, B ≤ k → k < w.heap.size → S k) : OwnR f n e w' B v l :=
  own_keep h (hs.mono (S' := fun k => S k) fun _ _ h => h) fun k hk => hS k (own_ge h hk.symm) (h.lt k hk).2
theorem OwnR.form (h : OwnR f n e w B v l) : ∃ A c, v = .slice A l.length c ∧ l.length ≤ c ∧ c ≤ maxLen := own_cap h
theorem OwnR.lt_ (h : OwnR f n e w B v l) {k : Nat} (hk : v.ownBlock = some k) : B ≤ k ∧ k < w.heap.size := h.lt k hk
/-- One struct behind a row that the call owns: its cells were laid into a block of their own. -/
theorem wpList_appR1 {P : Program} {t : TypeId} {bytes : Nat} {z : Value} (T : SlT P t e n bytes z) (hf : ∀ x, (f x).length = n) (h1 : ∀ x, ∀ u ∈ f x, u.oneCell' = true) {w : World} {ops : Array Oper} {rest : List Oper} {o : Oper} {a : Act} {Q : Exit → Act → World → Prop} (hgd : o.guard = none) (s x : Operand)
    (ho : o.op = .call { callee := .builtin .append, args := #[s, x], argTypes := #[t, t] }) {B : Nat} {v : Value} {l : List α} {c : α}
    (hs : a.eval s = v) {g : Nat} (hx : a.eval x = .slice (some ⟨g, 0, none⟩) 1 1) (hg : g = w.heap.size) (hown : OwnR f n e w B v l) (hB : B ≤ w.heap.size) (hlen : l.length + 1 ≤ maxLen) (hbytes : (l.length + 1) * bytes ≤ 140737488355328)
    (hK : ∀ v' w', OwnR f n e w' B v' (l ++ [c]) → Same (fun k => k < B) w w' → wpList P ops Q rest (a.put o.dst v') w') : wpList P ops Q (o :: rest) a (w.alloc (.cells (f c).toArray e)) := by
  subst hg
  have hs1 : Same (fun _ => True) w (w.alloc (.cells (f c).toArray e)) := (Same.refl _ _).alloc _
  have hrow := Row.new w e (f c)
  have hsl := hrow.sl (size := n) (off := 0) (n := 1) (by rw [hf]; omega)
  rw [List.drop_zero, List.take_of_length_le (by rw [hf]; omega)] at hsl
  refine wpList_app T _ hgd s x ho B v l.length (l.flatMap f) hs (hown.keepAll hs1) _ _ 1 1 (f c) hx hsl (h1 c) hlen hbytes (by simp; omega) ?_
  intro v' w' h2 h3 h4
  refine hK v' w' ?_ ((hs1.mono fun _ _ _ => trivial).trans (h3.mono fun k _ hk e' => by have := (hown.keepAll hs1).lt_ e'.symm; omega))
  unfold OwnR
  rw [List.length_append, List.flatMap_append]
  simpa using h2
end
def pairCs (p : List UInt8 × List UInt8) : List Value := [.string (str p.1), .string (str p.2)]
theorem pairCs_one (p : List UInt8 × List UInt8) : ∀ u ∈ pairCs p, u.oneCell' = true := by
  intro u hu
  simp only [pairCs, List.mem_cons, List.not_mem_nil, or_false] at hu
  rcases hu with rfl | rfl <;> rfl
theorem TP : SlT Try.prog 55 60 2 32 (.agg #[.string ⟨#[]⟩, .string ⟨#[]⟩]) := ⟨by kernel_rfl, by kernel_rfl, rfl, by omega⟩
abbrev OwnP (w : World) (B : Nat) (v : Value) (l : List (List UInt8 × List UInt8)) : Prop := OwnR pairCs 2 60 w B v l
/-- What cells tell, key by key. -/
def pairF (a : St) (c : Cel) : List (List UInt8 × List UInt8) := if (tellsF c.vers a).2 then [(c.key, (tellsF c.vers a).1)] else []
def pairsF (a : St) (l : List Cel) : List (List UInt8 × List UInt8) := l.flatMap (pairF a)
def scanF (cs : List Cel) (lo hi : List UInt8) (a : St) (most : Int) : List (List UInt8 × List UInt8) × Int :=
  if max most 0 < ((pairsF a (withinF cs lo hi)).length : Int) then ([], 3) else (pairsF a (withinF cs lo hi), 0)
def ScanP (r : List (List UInt8 × List UInt8) × Int) (w : World) (e : Ending) (w' : World) : Prop :=
  ∃ v, e = .returned (.tuple #[v, .int .i64 r.2]) ∧ OwnP w' w.heap.size v r.1 ∧ Same (fun _ => True) w w'
theorem pairs_take {a : St} {l : List Cel} {k : Nat} (h : k < l.length) : pairsF a (l.take (k + 1)) = pairsF a (l.take k) ++ pairF a l[k] := by
  unfold pairsF
  rw [List.take_succ_eq_append_getElem h, List.flatMap_append]
  simp
theorem pairs_le (a : St) (l : List Cel) (k : Nat) : (pairsF a (l.take k)).length ≤ (pairsF a l).length := by
  have : pairsF a l = pairsF a (l.take k) ++ pairsF a (l.drop k) := by
    unfold pairsF
    rw [← List.flatMap_append, List.take_append_drop]
  rw [this, List.length_append]
  omega
theorem pairs_len (a : St) : ∀ l : List Cel, (pairsF a l).length ≤ l.length
  | [] => by simp [pairsF]
  | c :: l => by
    have := pairs_len a l
    have e : pairsF a (c :: l) = pairF a c ++ pairsF a l := by simp [pairsF]
    rw [e, List.length_append, List.length_cons]
    unfold pairF
    split <;> simp <;> omega
/-- What Scan's loop holds. -/
def ScanRel (a : St) (L : List Cel) (most : Int) (k q : Nat) (l : Value) (w w2 wr : World) : Prop :=
  k ≤ L.length ∧ ((pairsF a (L.take k)).length : Int) ≤ max most 0 ∧ OwnP wr w2.heap.size l (pairsF a (L.take k)) ∧ Row wr q 28 (stCs a) ∧ Same (fun _ => True) w2 wr ∧ Same (fun _ => True) w wr
set_option maxHeartbeats 2000000 in
theorem mvscan_any (v : Value) (cs : List Cel) (lo hi : List UInt8) (a : St) (most : Int) (S : Nat → Prop) (w : World) (hv : CelR w S v cs) (hS : ∀ k, S k → k < w.heap.size) (hso : Sorted cs) (hn : cs.length ≤ 1000000) :
    Calls Try.prog 33 #[v, .agg #[.string (str lo), .string (str hi)], stV a, .int .i64 most] w (ScanP (scanF cs lo hi a most) w) := by
  obtain ⟨A, cp, rfl, hc, hm⟩ := hv.form
  have Hv := Lib.hid hv
  unfold maxLen at hm
  obtain ⟨L, hL⟩ : ∃ L, withinF cs lo hi = L := ⟨_, rfl⟩
  have hLn : L.length ≤ 1000000 := by
    have : (withinF cs lo hi).length ≤ cs.length := List.length_filter_le _ _
    rw [hL] at this
    omega
  have K : scanF cs lo hi a most = if max most 0 < ((pairsF a L).length : Int) then ([], 3) else (pairsF a L, 0) := by unfold scanF; rw [hL]
  have HK := Lib.hid K
  have g := fun W h => within_any (.slice A cs.length cp) cs lo hi S W h hso hn
  rw [hL] at g
  obtain ⟨W0, hW0⟩ : ∃ W0, W0 = (w.alloc (.cells #[.string (str lo), .string (str hi)] 53)).alloc (.cells (stCs a).toArray 28) := ⟨_, rfl⟩
  have hS0 : Same (fun _ => True) w W0 := by rw [hW0]; exact ((Same.refl _ _).alloc _).alloc _
  have hr1 : Row W0 (w.heap.size + 1) 28 (stCs a) := by
    have := Row.new (w.alloc (.cells #[.string (str lo), .string (str hi)] 53)) 28 (stCs a)
    rw [World.size_alloc] at this
    rw [hW0]; exact this
  have HS0 := Lib.hid hS0
  have Hr1 := Lib.hid hr1
  have HW0 := Lib.hid hW0
  clear K hL hv hso hW0 hS0 hr1
  go_enter Try.func33, Try.ntmps33
  go_wp2_with (go_at_call 73; refine stopAt ?_)
  unfold Hid
  have e0 := HW0.out
  simp only [stCs] at e0
  rw [← e0]
  clear e0
  refine (g _ (Hv.out.keepAll HS0.out)).mono ?_
  rintro e w2 ⟨⟨v', rfl, hcr⟩, hS2⟩
  obtain ⟨A2, cp2, rfl, hc2, hm2⟩ := hcr.form
  unfold maxLen at hm2
  have Hcr := Lib.hid hcr
  have hq2 : w.heap.size + 1 < w2.heap.size := by
    have := Hr1.out.lt
    have := hS2.size
    omega
  have Hq2 := Lib.hid hq2
  have HS2 := Lib.hid hS2
  clear hq2
  clear hcr hS2 g
  go_wp2
  go_loopw [10, 12, 13, 14, 19] (fun l _ _ _ i wr => ∃ k : Nat, i = .int .i64 k ∧ ScanRel a L most k (w.heap.size + 1) l w w2 wr) (fun _ _ _ _ i _ => L.length - (intOf i).toNat)
  case atStart => exact ⟨0, rfl, Nat.zero_le _, by simp [pairsF]; omega, by rw [List.take_zero]; exact OwnR.nil _ _, Hr1.out.keep HS2.out trivial, Same.refl _ _, HS0.out.trans HS2.out⟩
  case round =>
    obtain ⟨k, rfl, hk, hle, hown, hr1, hS3, hS4⟩ := hrel
    have Hr1 := Lib.hid hr1
    have HS3 := Lib.hid hS3
    have HS4 := Lib.hid hS4
    have Hown := Lib.hid hown
    obtain ⟨Al, cl, rfl, hl1, hl2⟩ := hown.form
    unfold maxLen at hl2
    have s0 : wr.cell? ⟨w.heap.size + 1, 0, none⟩ = some (.int .i64 a.wall) := hr1.cell 0
    have s1 : wr.cell? ⟨w.heap.size + 1, 1, none⟩ = some (.int .i64 a.tie) := hr1.cell 1
    have z1 := hr1.lt
    have hpl := pairs_len a (L.take k)
    have hpl2 : (L.take k).length ≤ k := List.length_take_le _ _
    by_cases hlt : k < L.length
    · obtain ⟨ad, u, rfl, -, hvr, c0, c1, c2, c3, c4, c5, c6, c7, c8, c9, c10, c11⟩ := CelR.cells12 (Hcr.out.keepAll hS3) hlt
      obtain ⟨Au, cu, rfl, -, -⟩ := hvr.form
      have x1 : (0 : Int) ≤ (k : Int) := by omega
      have x2 : (k : Int) < (L.length : Int) := by omega
      have hab := World.block_lt_of_cell? wr _ c0
      have hpt := pairs_take (a := a) hlt
      have hple := pairs_le a L (k + 1)
      have Hvr := Lib.hid hvr
      clear hvr
      generalize L[k] = c at *
      have gt := fun W hv' => mvtells_any (.slice Au c.vers.length cu) c a S W hv'
      have hrow := Row.new wr 64 (celCs (.slice Au c.vers.length cu, c))
      have Hrow := Lib.hid hrow
      clear hr1 hS3 hS4 hrow hown
      obtain ⟨tb, td, htd⟩ : ∃ tb td, tellsF c.vers a = (td, tb) := ⟨_, _, rfl⟩
      rw [htd] at gt
      have hpf : pairF a c = if tb then [(c.key, td)] else [] := by unfold pairF; rw [htd]
      rw [hpf] at hpt
      clear htd hpf
      go_wp2_with (go_at_call 70; refine stopAt ?_)
      unfold Hid
      refine (gt _ (RowR.keepAll Hvr.out ((Same.refl _ _).alloc _))).mono ?_
      rintro e w5 ⟨rfl, hS5⟩
      have hrow5 := Hrow.out.keep hS5 trivial
      have y0 : w5.cell? ⟨wr.heap.size, 0, none⟩ = some (.string (str c.key)) := hrow5.cell 0
      have hS6 := ((Same.refl (fun _ => True) wr).alloc (.cells (celCs (.slice Au c.vers.length cu, c)).toArray 64)).trans hS5
      have HS6 := Lib.hid hS6
      clear hS5 hS6 hrow5 gt s0 s1 c0 c1 c2 c3 c4 c5 c6 c7 c8 c9 c10 c11
      cases tb
      · have Hpt := Lib.hid hpt
        clear hpt y0
        go_wp2
        go_roundw
        case rel =>
          refine ⟨k + 1, by go_num, by omega, ?_, ?_, Hr1.out.keep HS6.out trivial, HS3.out.trans HS6.out, HS4.out.trans HS6.out⟩
          · rw [Hpt.out]; simpa using hle
          · rw [Hpt.out]
            have := Hown.out.keepAll HS6.out
            simpa using this
        case measure => simp [intOf]; omega
      · by_cases hmost : most ≤ ((pairsF a (L.take k)).length : Int)
        · have hbig : max most 0 < ((pairsF a L).length : Int) := by
            rw [hpt] at hple
            simp at hple
            omega
          have Hbig := Lib.hid hbig
          clear hpt hbig y0
          go_wp2
          go_ret2
          rw [HK.out, if_pos Hbig.out]
          exact ⟨_, rfl, OwnR.nil _ _, HS4.out.trans HS6.out⟩
        · have Hpt := Lib.hid hpt
          clear hpt
          go_wp2_with (at_builtin; refine stopAt ?_)
          unfold Hid
          refine wpList_appR1 TP (fun _ => rfl) pairCs_one (c := (c.key, td)) rfl (.tmp 35) (.tmp 40) rfl rfl rfl rfl (Hown.out.keepAll HS6.out) (by have := HS3.out.size; have := HS6.out.size; omega) (by simp only [maxLen]; omega) (by omega) ?_
          intro v' w7 hown7 hS7
          have Hown7 := Lib.hid hown7
          have HS7 := Lib.hid hS7
          clear hown7 hS7 y0
          go_wp2
          go_roundw
          case rel =>
            have t1 := HS2.out.size
            have t2 := HS0.out.size
            have t3 := Hr1.out.lt
            have t4 := HS3.out.trans HS6.out
            have t5 := t4.trans' HS7.out fun _ h _ => h
            refine ⟨k + 1, by go_num, by omega, ?_, ?_, (Hr1.out.keep HS6.out trivial).keep HS7.out Hq2.out, t5, (HS0.out.trans HS2.out).trans t5⟩
            · rw [Hpt.out]; simp; omega
            · rw [Hpt.out]; exact Hown7.out
          case measure => simp [intOf]; omega
    · obtain rfl : k = L.length := by omega
      have x1 : ¬ (L.length : Int) < (L.length : Int) := by omega
      have hk2 : pairsF a (L.take L.length) = pairsF a L := by rw [List.take_length]
      rw [hk2] at hown hle
      go_wp2
      go_ret2
      rw [HK.out, if_neg (by omega)]
      exact ⟨_, rfl, own_lower hown (by have := Hq2.out; omega), HS4.out⟩
end Go.Proofs.Ytoldelocfmpccaa
namespace Go.Proofs.Ytoldelocfmpccaa
open Go.RowKit
def gotF (a : St) (cs : List Cel) (lo hi : List UInt8) (k : Nat) : List (List UInt8 × List UInt8) := pairsF a (withinF (cs.take k) lo hi)
/-- What the document's loop holds. -/
def RScanRel (a : St) (cs : List Cel) (lo hi : List UInt8) (k B : Nat) (l : Value) (w wr : World) : Prop :=
  k ≤ cs.length ∧ OwnP wr B l (gotF a cs lo hi k) ∧ w.heap.size + 2 ≤ B ∧ B ≤ wr.heap.size ∧ Row wr w.heap.size 53 [.string (str lo), .string (str hi)] ∧ Row wr (w.heap.size + 1) 28 (stCs a) ∧ Same (fun _ => True) w wr
theorem RScanRel.keep {a : St} {cs : List Cel} {lo hi : List UInt8} {k k' B : Nat} {l : Value} {w wr wr' : World} (h : RScanRel a cs lo hi k B l w wr) (hs : Same (fun _ => True) wr wr') (hk : k' ≤ cs.length) (hg : gotF a cs lo hi k' = gotF a cs lo hi k) : RScanRel a cs lo hi k' B l w wr' :=
  ⟨hk, by rw [hg]; exact h.2.1.keepAll hs, h.2.2.1, Nat.le_trans h.2.2.2.1 hs.size, h.2.2.2.2.1.keep hs trivial, h.2.2.2.2.2.1.keep hs trivial, h.2.2.2.2.2.2.trans hs⟩
end Go.Proofs.Ytoldelocfmpccaa
namespace Go.Proofs.Ytoldelocfmpccaa
open Go.RowKit
/-- Is the cell locked by the attempt? -/
def mineB (c : Cel) (b : TryT) : Bool := c.locked && (c.lock.by_ == b)
theorem try_eq (x y : TryT) : (x == y) = (decide (x.node = y.node) && decide (x.life = y.life) && decide (x.seq = y.seq) && decide (x.attempt = y.attempt)) := by
  rw [Bool.eq_iff_iff]
  cases x; cases y
  simp [and_assoc]
set_option maxHeartbeats 1000000 in
theorem mine1_any (u : Value) (c : Cel) (b : TryT) (p : Nat) (w : World) (hp : Row w p 26 (tryCs b)) :
    Calls Try.prog 64 #[celV u c, .pointer (some ⟨p, 0, none⟩)] w fun e w' => e = .returned (.bool (mineB c b)) ∧ Same (fun _ => True) w w' := by
  have hp1 := hp.keep ((Same.refl (fun _ => True) w).alloc (.cells #[.string (str c.key), u, .bool c.locked, .int .i64 c.lock.by_.node, .int .i64 c.lock.by_.life, .int .i64 c.lock.by_.seq, .int .i64 c.lock.by_.attempt, .int .i64 c.lock.home, .int .i64 c.lock.at_.wall, .int .i64 c.lock.at_.tie, .bool c.lock.drop, .string (str c.lock.data)] 64)) trivial
  have p0 : (w.alloc (.cells #[.string (str c.key), u, .bool c.locked, .int .i64 c.lock.by_.node, .int .i64 c.lock.by_.life, .int .i64 c.lock.by_.seq, .int .i64 c.lock.by_.attempt, .int .i64 c.lock.home, .int .i64 c.lock.at_.wall, .int .i64 c.lock.at_.tie, .bool c.lock.drop, .string (str c.lock.data)] 64)).cell? ⟨p, 0, none⟩ = some (.int .i64 b.node) := hp1.cell 0
  have p1 : (w.alloc (.cells #[.string (str c.key), u, .bool c.locked, .int .i64 c.lock.by_.node, .int .i64 c.lock.by_.life, .int .i64 c.lock.by_.seq, .int .i64 c.lock.by_.attempt, .int .i64 c.lock.home, .int .i64 c.lock.at_.wall, .int .i64 c.lock.at_.tie, .bool c.lock.drop, .string (str c.lock.data)] 64)).cell? ⟨p, 1, none⟩ = some (.int .i64 b.life) := hp1.cell 1
  have p2 : (w.alloc (.cells #[.string (str c.key), u, .bool c.locked, .int .i64 c.lock.by_.node, .int .i64 c.lock.by_.life, .int .i64 c.lock.by_.seq, .int .i64 c.lock.by_.attempt, .int .i64 c.lock.home, .int .i64 c.lock.at_.wall, .int .i64 c.lock.at_.tie, .bool c.lock.drop, .string (str c.lock.data)] 64)).cell? ⟨p, 2, none⟩ = some (.int .i64 b.seq) := hp1.cell 2
  have p3 : (w.alloc (.cells #[.string (str c.key), u, .bool c.locked, .int .i64 c.lock.by_.node, .int .i64 c.lock.by_.life, .int .i64 c.lock.by_.seq, .int .i64 c.lock.by_.attempt, .int .i64 c.lock.home, .int .i64 c.lock.at_.wall, .int .i64 c.lock.at_.tie, .bool c.lock.drop, .string (str c.lock.data)] 64)).cell? ⟨p, 3, none⟩ = some (.int .i64 b.attempt) := hp1.cell 3
  have K : mineB c b = (c.locked && (c.lock.by_ == b)) := rfl
  rw [K]
  clear hp hp1 K
  cases hl : c.locked <;> rw [hl] at p0 p1 p2 p3
  · go_enter Try.func64, Try.ntmps64
    go_wp2
    go_ret
    exact ⟨rfl, (Same.refl _ _).alloc _⟩
  · go_enter Try.func64, Try.ntmps64
    go_wp2
    all_goals go_ret
    all_goals first
      | exact ⟨by rw [show (true && c.lock.by_ == b) = true from by simp [try_eq, *]]; rfl, (Same.refl _ _).alloc _⟩
      | exact ⟨by rw [show (true && c.lock.by_ == b) = false from by simp [try_eq, *]]; rfl, (Same.refl _ _).alloc _⟩
/-- Where the first such cell is. -/
def mineAt (b : TryT) : List Cel → Nat
  | [] => 0
  | c :: l => if mineB c b then 0 else mineAt b l + 1
def mineF (cs : List Cel) (b : TryT) : Bool := cs.any fun c => mineB c b
theorem mineAt_lt (b : TryT) : ∀ l : List Cel, mineF l b = decide (mineAt b l < l.length)
  | [] => rfl
  | c :: l => by
    have h := mineAt_lt b l
    unfold mineF at h ⊢
    rw [List.any_cons, h]
    simp only [mineAt]
    by_cases hm : mineB c b = true <;> simp [hm]
def idxF (cs : List Cel) (b : TryT) : Int := if mineF cs b then (mineAt b cs : Int) else -1
theorem mineAt_all {b : TryT} : ∀ {l : List Cel}, (∀ k (h : k < l.length), mineB l[k] b = false) → mineAt b l = l.length
  | [], _ => rfl
  | c :: l, h => by
    unfold mineAt
    rw [show mineB c b = false from h 0 (by simp), mineAt_all fun k hk => h (k + 1) (by simpa using hk)]
    rfl
theorem mineAt_at {b : TryT} : ∀ {l : List Cel} {k : Nat} (hk : k < l.length), (∀ j (h : j < l.length), j < k → mineB l[j] b = false) → mineB l[k] b = true → mineAt b l = k
  | c :: l, 0, _, _, h => by
    unfold mineAt
    rw [show mineB c b = true from h]
    rfl
  | c :: l, k + 1, hk, h, h2 => by
    unfold mineAt
    rw [show mineB c b = false from h 0 (by simp) (by omega), mineAt_at (k := k) (by simpa using hk) (fun j hj hjk => h (j + 1) (by simpa using hj) (by omega)) h2]
    rfl
set_option maxHeartbeats 1000000 in
theorem mineidx_any (v : Value) (cs : List Cel) (b : TryT) (p : Nat) (S : Nat → Prop) (w : World) (hv : CelR w S v cs) (hp : Row w p 26 (tryCs b)) (hn : cs.length ≤ 1000000) :
    Calls Try.prog 91 #[v, .func (.func 64) #[] #[.pointer (some ⟨p, 0, none⟩)]] w
      fun e w' => e = .returned (.int .i64 (idxF cs b)) ∧ Same (fun _ => True) w w' := by
  obtain ⟨A, cp, rfl, hc, hm⟩ := hv.form
  have Hv := Lib.hid hv
  have Hp := Lib.hid hp
  unfold maxLen at hm
  clear hv hp
  go_enter Try.func91, Try.ntmps91
  go_wp2
  go_loopw [5, 8] (fun _ i wr => ∃ k : Nat, i = .int .i64 k ∧ k ≤ cs.length ∧ (∀ j (h : j < cs.length), j < k → mineB cs[j] b = false) ∧ Same (fun _ => True) w wr) (fun _ i _ => cs.length - (intOf i).toNat)
  case atStart => exact ⟨0, rfl, Nat.zero_le _, fun j _ h => absurd h (Nat.not_lt_zero _), Same.refl _ _⟩
  case round =>
    obtain ⟨k, rfl, hk, hno, hS⟩ := hrel
    have HS := Lib.hid hS
    have Hno := Lib.hid hno
    clear hno
    by_cases hlt : k < cs.length
    · obtain ⟨ad, u, rfl, -, -, c0, c1, c2, c3, c4, c5, c6, c7, c8, c9, c10, c11⟩ := CelR.cells12 (Hv.out.keepAll hS) hlt
      have x1 : (0 : Int) ≤ (k : Int) := by omega
      have x2 : (k : Int) < (cs.length : Int) := by omega
      have g := mine1_any u cs[k] b p wr (Hp.out.keep hS trivial)
      have hat := @mineAt_at b cs k hlt Hno.out
      have Hat := Lib.hid hat
      have hml := mineAt_lt b cs
      have Hml := Lib.hid hml
      have hstep : mineB cs[k] b = false → ∀ j (h : j < cs.length), j < k + 1 → mineB cs[j] b = false := by
        intro h0 j h hj
        by_cases e : j = k
        · subst e; exact h0
        · exact Hno.out j h (by omega)
      have Hstep := Lib.hid hstep
      clear hat hS hml hstep
      cases hb : mineB cs[k] b
      · rw [hb] at g
        have Hb := Lib.hid hb
        clear hb
        go_wp2_with (go_at_call 64; refine g.mono ?_; rintro e w3 ⟨rfl, hS3⟩)
        go_roundw
        case rel => exact ⟨k + 1, by go_num, by omega, Hstep.out Hb.out, HS.out.trans hS3⟩
        case measure => simp [intOf]; omega
      · rw [hb] at g
        have Hb := Lib.hid hb
        clear hb
        go_wp2_with (go_at_call 64; refine g.mono ?_; rintro e w3 ⟨rfl, hS3⟩)
        go_ret
        refine ⟨?_, HS.out.trans hS3⟩
        rw [show idxF cs b = (k : Int) from by unfold idxF; rw [Hml.out, Hat.out Hb.out]; simp [hlt]]
        rfl
    · have hall := mineAt_all (b := b) (l := cs) fun j h => Hno.out j h (by omega)
      have hml := mineAt_lt b cs
      rw [hall] at hml
      have Hml := Lib.hid hml
      clear hS hall hml
      go_wp2
      go_ret
      refine ⟨?_, HS.out⟩
      rw [show idxF cs b = -1 from by unfold idxF; rw [Hml.out]; simp]
      rfl
set_option maxHeartbeats 1000000 in
theorem minehas_any (v : Value) (cs : List Cel) (b : TryT) (p : Nat) (S : Nat → Prop) (w : World) (hv : CelR w S v cs) (hp : Row w p 26 (tryCs b)) (hn : cs.length ≤ 1000000) :
    Calls Try.prog 63 #[v, .func (.func 64) #[] #[.pointer (some ⟨p, 0, none⟩)]] w
      fun e w' => e = .returned (.bool (mineF cs b)) ∧ Same (fun _ => True) w w' := by
  have g := mineidx_any v cs b p S w hv hp hn
  obtain ⟨A, cp, rfl, hc, hm⟩ := hv.form
  clear hv hp
  unfold idxF at g
  cases hb : mineF cs b <;> rw [hb] at g
  · rw [if_neg (by simp)] at g
    go_enter Try.func63, Try.ntmps63
    go_wp2_with (go_at_call 91; refine g.mono ?_; rintro e w3 ⟨rfl, hS3⟩)
    go_ret
    exact ⟨rfl, hS3⟩
  · rw [if_pos rfl] at g
    have x0 : (0 : Int) ≤ (mineAt b cs : Int) := by omega
    go_enter Try.func63, Try.ntmps63
    go_wp2_with (go_at_call 91; refine g.mono ?_; rintro e w3 ⟨rfl, hS3⟩)
    go_ret
    exact ⟨rfl, hS3⟩
set_option maxHeartbeats 1000000 in
theorem mvmine_any (v : Value) (cs : List Cel) (b : TryT) (S : Nat → Prop) (w : World) (hv : CelR w S v cs) (hn : cs.length ≤ 1000000) :
    Calls Try.prog 24 #[v, tryV b] w fun e w' => e = .returned (.bool (mineF cs b)) ∧ Same (fun _ => True) w w' := by
  have hmf : ∀ (fn : Fn) (first cap : Array Value) (w : World), (Instr.makeFunc fn first cap).run Try.prog w = .ok (.func fn first cap) w := fun _ _ _ _ => rfl
  have g := minehas_any v cs b w.heap.size S (w.alloc (.cells (tryCs b).toArray 26)) (hv.keepAll ((Same.refl _ _).alloc _)) (Row.new w 26 (tryCs b)) hn
  obtain ⟨A, cp, rfl, hc, hm⟩ := hv.form
  clear hv
  go_enter Try.func24, Try.ntmps24
  go_wp2_with (go_at_call 63; refine g.mono ?_; rintro e w3 ⟨rfl, hS3⟩)
  go_ret
  exact ⟨rfl, ((Same.refl _ _).alloc _).trans hS3⟩
end Go.Proofs.Ytoldelocfmpccaa
namespace Go.Proofs.Ytoldelocfmpccaa
open Go.RowKit
theorem try_cases (x y : TryT) : x = y ∨ (x == y) = false ∧ (x.node ≠ y.node ∨ x.node = y.node ∧ x.life ≠ y.life ∨ x.node = y.node ∧ x.life = y.life ∧ x.seq ≠ y.seq ∨ x.node = y.node ∧ x.life = y.life ∧ x.seq = y.seq ∧ x.attempt ≠ y.attempt) := by
  rw [try_eq]
  by_cases h1 : x.node = y.node <;> by_cases h2 : x.life = y.life <;> by_cases h3 : x.seq = y.seq <;> by_cases h4 : x.attempt = y.attempt <;> simp [h1, h2, h3, h4]
  cases x; cases y; simp_all
/-- What the document's loop holds. -/
def RMineRel (b : TryT) (cs : List Cel) (k p : Nat) (w wr : World) : Prop :=
  k ≤ cs.length ∧ (∀ j (h : j < cs.length), j < k → mineB cs[j] b = false) ∧ Row wr p 26 (tryCs b) ∧ Same (fun _ => True) w wr
theorem mineF_all {b : TryT} {cs : List Cel} (h : ∀ j (h : j < cs.length), mineB cs[j] b = false) : mineF cs b = false := by
  rw [mineAt_lt, mineAt_all h]
  simp
theorem mineF_at {b : TryT} {cs : List Cel} {k : Nat} (hk : k < cs.length) (h : mineB cs[k] b = true) : mineF cs b = true :=
  List.any_eq_true.2 ⟨_, List.getElem_mem hk, h⟩
set_option maxHeartbeats 2000000 in
theorem refmine_any (v : Value) (cs : List Cel) (b : TryT) (S : Nat → Prop) (w : World) (hv : CelR w S v cs) :
    Calls Try.prog 56 #[v, tryV b] w fun e w' => e = .returned (.bool (mineF cs b)) ∧ Same (fun _ => True) w w' := by
  obtain ⟨A, cp, rfl, hc, hm⟩ := hv.form
  have Hv := Lib.hid hv
  unfold maxLen at hm
  have hrel0 : RMineRel b cs 0 w.heap.size w (w.alloc (.cells (tryCs b).toArray 26)) :=
    ⟨Nat.zero_le _, fun j _ h => absurd h (Nat.not_lt_zero _), Row.new _ _ _, (Same.refl _ _).alloc _⟩
  have Hrel0 := Lib.hid hrel0
  clear hv hrel0
  go_enter Try.func56, Try.ntmps56
  go_wp2
  go_loopw [5] (fun i wr => ∃ k : Nat, i = .int .i64 k ∧ RMineRel b cs k w.heap.size w wr) (fun i _ => cs.length - (intOf i).toNat)
  case atStart => exact ⟨0, rfl, Hrel0.out⟩
  case round =>
    obtain ⟨k, rfl, hk, hno, hp, hS⟩ := hrel
    have HS := Lib.hid hS
    have Hno := Lib.hid hno
    have Hp := Lib.hid hp
    have p0 : wr.cell? ⟨w.heap.size, 0, none⟩ = some (.int .i64 b.node) := hp.cell 0
    have p1 : wr.cell? ⟨w.heap.size, 1, none⟩ = some (.int .i64 b.life) := hp.cell 1
    have p2 : wr.cell? ⟨w.heap.size, 2, none⟩ = some (.int .i64 b.seq) := hp.cell 2
    have p3 : wr.cell? ⟨w.heap.size, 3, none⟩ = some (.int .i64 b.attempt) := hp.cell 3
    clear hno hp
    by_cases hlt : k < cs.length
    · obtain ⟨ad, u, rfl, -, -, c0, c1, c2, c3, c4, c5, c6, -, -, -, -, -⟩ := CelR.cells12 (Hv.out.keepAll hS) hlt
      have x1 : (0 : Int) ≤ (k : Int) := by omega
      have x2 : (k : Int) < (cs.length : Int) := by omega
      have hat := @mineF_at b cs k hlt
      have hstep : mineB cs[k] b = false → ∀ j (h : j < cs.length), j < k + 1 → mineB cs[j] b = false := by
        intro h0 j h hj
        by_cases e : j = k
        · subst e; exact h0
        · exact Hno.out j h (by omega)
      have hmb : mineB cs[k] b = (cs[k].locked && (cs[k].lock.by_ == b)) := rfl
      clear hS c0 c1
      generalize mineB cs[k] b = mb at *
      generalize cs[k] = c at *
      have Hat := Lib.hid hat
      have Hstep := Lib.hid hstep
      clear hat hstep
      cases hl : c.locked
      · rw [hl] at c2
        have Hmb := Lib.hid (show mb = false by rw [hmb, hl]; rfl)
        clear hl hmb
        go_wp2_with (go_quiet (fail))
        go_roundw
        case rel => exact ⟨k + 1, by go_num, by omega, Hstep.out Hmb.out, Hp.out.keep ((Same.refl (fun _ => True) _).drewN _) trivial, HS.out.drewN _⟩
        case measure => simp [intOf]; omega
      · rw [hl] at c2
        rcases try_cases c.lock.by_ b with he | ⟨he, h | ⟨h1, h⟩ | ⟨h1, h2, h⟩ | ⟨h1, h2, h3, h⟩⟩
        · rw [he] at c3 c4 c5 c6
          have Hmb := Lib.hid (show mb = true by rw [hmb, hl, he]; simp)
          clear hl hmb he
          go_wp2_with (go_quiet (fail))
          go_ret
          exact ⟨by rw [Hat.out Hmb.out]; rfl, HS.out.drewN _⟩
        · have Hmb := Lib.hid (show mb = false by rw [hmb, hl, he]; rfl)
          clear hl hmb he
          go_wp2_with (go_quiet (fail))
          go_roundw
          case rel => exact ⟨k + 1, by go_num, by omega, Hstep.out Hmb.out, Hp.out.keep ((Same.refl (fun _ => True) _).drewN _) trivial, HS.out.drewN _⟩
          case measure => simp [intOf]; omega
        · have Hmb := Lib.hid (show mb = false by rw [hmb, hl, he]; rfl)
          rw [h1] at c3
          clear hl hmb he
          go_wp2_with (go_quiet (fail))
          go_roundw
          case rel => exact ⟨k + 1, by go_num, by omega, Hstep.out Hmb.out, Hp.out.keep ((Same.refl (fun _ => True) _).drewN _) trivial, HS.out.drewN _⟩
          case measure => simp [intOf]; omega
        · have Hmb := Lib.hid (show mb = false by rw [hmb, hl, he]; rfl)
          rw [h1] at c3
          rw [h2] at c4
          clear hl hmb he
          go_wp2_with (go_quiet (fail))
          go_roundw
          case rel => exact ⟨k + 1, by go_num, by omega, Hstep.out Hmb.out, Hp.out.keep ((Same.refl (fun _ => True) _).drewN _) trivial, HS.out.drewN _⟩
          case measure => simp [intOf]; omega
        · have Hmb := Lib.hid (show mb = false by rw [hmb, hl, he]; rfl)
          rw [h1] at c3
          rw [h2] at c4
          rw [h3] at c5
          clear hl hmb he
          go_wp2_with (go_quiet (fail))
          go_roundw
          case rel => exact ⟨k + 1, by go_num, by omega, Hstep.out Hmb.out, Hp.out.keep ((Same.refl (fun _ => True) _).drewN _) trivial, HS.out.drewN _⟩
          case measure => simp [intOf]; omega
    · have hall := mineF_all (b := b) (cs := cs) fun j h => Hno.out j h (by omega)
      have Hall := Lib.hid hall
      clear hS hall p0 p1 p2 p3
      go_wp2
      go_ret
      exact ⟨by rw [Hall.out]; rfl, HS.out⟩
end Go.Proofs.Ytoldelocfmpccaa
namespace Go.Proofs.Ytoldelocfmpccaa
open Go.RowKit
/-- A slice of structs that reads as l, in an unfrozen block of the element's type. -/
def RowW {α : Type} (f : α → List Value) (n : Nat) (e : TypeId) (w : World) (S : Nat → Prop) (v : Value) (l : List α) : Prop :=
  ∃ A c, v = .slice A l.length c ∧ l.length ≤ c ∧ c ≤ maxLen ∧ (0 < l.length → ∃ g o cur, A = some ⟨g, o, none⟩ ∧ S g ∧ w.heap[g]? = some (.cells cur e (0, 0)) ∧ ∀ j u, (l.flatMap f)[j]? = some u → cur[o + j]? = some u)
section
variable {α : Type} {f : α → List Value} {n : Nat} {e : TypeId} {w w' : World} {S S' : Nat → Prop} {v : Value} {l : List α}
theorem RowW.keep (h : RowW f n e w S v l) (hs : Same S w w') : RowW f n e w' S v l := by
  obtain ⟨A, c, h1, h2, h3, h4⟩ := h
  refine ⟨A, c, h1, h2, h3, fun h0 => ?_⟩
  obtain ⟨g, o, cur, e1, e2, e3, e4⟩ := h4 h0
  exact ⟨g, o, cur, e1, e2, by rw [hs.block g (Array.getElem?_eq_some_iff.1 e3).1 e2]; exact e3, e4⟩
theorem RowW.mono (h : RowW f n e w S v l) (hS : ∀ k, k < w.heap.size → S k → S' k) : RowW f n e w S' v l := by
  obtain ⟨A, c, h1, h2, h3, h4⟩ := h
  refine ⟨A, c, h1, h2, h3, fun h0 => ?_⟩
  obtain ⟨g, o, cur, e1, e2, e3, e4⟩ := h4 h0
  exact ⟨g, o, cur, e1, hS g (Array.getElem?_eq_some_iff.1 e3).1 e2, e3, e4⟩
theorem RowW.keepAll (h : RowW f n e w S v l) (hs : Same (fun _ => True) w w') : RowW f n e w' S v l := h.keep (hs.mono fun _ _ _ => trivial)
theorem add_none (g o j : Nat) : (⟨g, o, none⟩ : Addr).add j = ⟨g, o + j, none⟩ := by
  by_cases h : j = 0
  · subst h; rw [add_zero]; rfl
  · rw [addr_add _ j (by omega)]
theorem RowW.row (h : RowW f n e w S v l) (hf : ∀ x, (f x).length = n) : RowR f n w S v l := by
  obtain ⟨A, c, h1, h2, h3, h4⟩ := h
  refine ⟨A, c, h1, h2, h3, flat_len f n hf l, fun h0 => ?_⟩
  obtain ⟨g, o, cur, e1, e2, e3, e4⟩ := h4 h0
  refine ⟨_, e1, e2, fun j u hu => ?_⟩
  rw [add_none, cell_of_row w g (o + j) _ e (0, 0) e3]
  exact e4 j u hu
theorem OwnR.wr {B : Nat} (h : OwnR f n e w B v l) : RowW f n e w (fun k => B ≤ k) v l := by
  rcases h.2 with ⟨rfl, h0⟩ | ⟨g, cap, cur, rfl, hB, hg, h1, h2, h3, h4⟩
  · exact ⟨none, 0, by rw [h0], by omega, by simp [maxLen], fun hp => by omega⟩
  · refine ⟨_, _, rfl, h1, h2, fun _ => ⟨g, 0, cur, rfl, hB, hg, fun j u hu => ?_⟩⟩
    rw [← h4, List.getElem?_take] at hu
    split at hu
    · rw [Nat.zero_add, ← hu]; simp
    · cases hu
theorem OwnR.empty (f : α → List Value) (n : Nat) (e : TypeId) (w : World) : OwnR f n e (w.alloc (.cells #[] e)) w.heap.size (.slice (some ⟨w.heap.size, 0, none⟩) 0 0) [] :=
  ⟨by simp, .inr ⟨w.heap.size, 0, #[], rfl, Nat.le_refl _, Row.new w e [], by simp, by simp [maxLen], by simp, by simp⟩⟩
theorem OwnR.lower {B B' : Nat} (h : OwnR f n e w B v l) (hb : B' ≤ B) : OwnR f n e w B' v l := own_lower h hb
/-- A row behind a row that the call owns. -/
theorem wpList_appR {P : Program} {t : TypeId} {bytes : Nat} {z : Value} (T : SlT P t e n bytes z) (hf : ∀ x, (f x).length = n) (h1 : ∀ x, ∀ u ∈ f x, u.oneCell' = true) {ops : Array Oper} {rest : List Oper} {o : Oper} {a : Act} {Q : Exit → Act → World → Prop} (hgd : o.guard = none) (s x : Operand)
    (ho : o.op = .call { callee := .builtin .append, args := #[s, x], argTypes := #[t, t] }) {B : Nat} {l2 : List α} {x' : Value}
    (hs : a.eval s = v) (hx : a.eval x = x') (hr : RowR f n w S x' l2) (hown : OwnR f n e w B v l) (hB : B ≤ w.heap.size) (hlen : l.length + l2.length ≤ maxLen) (hbytes : (l.length + l2.length) * bytes ≤ 140737488355328)
    (hK : ∀ v' w', OwnR f n e w' B v' (l ++ l2) → Same (fun k => some k ≠ v.ownBlock) w w' → wpList P ops Q rest (a.put o.dst v') w') : wpList P ops Q (o :: rest) a w := by
  obtain ⟨A, c, rfl, h2, h3, h4⟩ := hr
  refine wpList_app T _ hgd s x ho B v l.length (l.flatMap f) hs hown S A l2.length c (l2.flatMap f) hx h4 (fun u hu => ?_) hlen hbytes hB ?_
  · obtain ⟨x, _, hx⟩ := List.mem_flatMap.1 hu
    exact h1 x u hx
  intro v' w' k1 k2 k3
  refine hK v' w' ?_ k2
  unfold OwnR
  rw [List.length_append, List.flatMap_append]
  exact k1
end
theorem verCs_one (p : Ver) : ∀ u ∈ verCs p, u.oneCell' = true := by
  intro u hu
  simp only [verCs, List.mem_cons, List.not_mem_nil, or_false] at hu
  rcases hu with rfl | rfl | rfl | rfl <;> rfl
theorem TVer : SlT Try.prog 62 69 4 40 (.agg #[.int .i64 0, .int .i64 0, .bool false, .string ⟨#[]⟩]) := ⟨by kernel_rfl, by kernel_rfl, rfl, by omega⟩
abbrev OwnV (w : World) (B : Nat) (v : Value) (l : List Ver) : Prop := OwnR verCs 4 69 w B v l
def CloneP (l : List Ver) (w : World) (e : Ending) (w' : World) : Prop := ∃ v, e = .returned v ∧ OwnV w' w.heap.size v l ∧ Same (fun _ => True) w w'
set_option maxHeartbeats 1000000 in
theorem clone_any (v : Value) (l : List Ver) (S : Nat → Prop) (w : World) (hv : VerR w S v l) (hn : l.length ≤ 1000000) :
    Calls Try.prog 92 #[v] w (CloneP l w) := by
  obtain ⟨A, cp, rfl, hc, hm⟩ := hv.form
  unfold maxLen at hm
  have qN : ∀ (w : World) (a : Option Addr) (n c : Nat), (binOp .eql 62 (.slice a n c) (.slice none 0 0)).run Try.prog w = .ok (.bool a.isNone) w := fun w a n c => Lib.run_eql_slice_nil w _ _ a n c 0 0 TVer.und
  cases A with
  | none =>
    have h0 : l = [] := by
      rcases l with _ | ⟨x, l⟩
      · rfl
      · obtain ⟨ad, c, h, _⟩ := RowR.at_ hv verCs_len (i := 0) (by simp)
        cases h
    subst h0
    clear hv
    go_enter Try.func92, Try.ntmps92
    go_wp2
    go_ret
    exact ⟨_, rfl, OwnR.nil _ _, Same.refl _ _⟩
  | some ad =>
    have Hv := Lib.hid hv
    clear hv
    go_enter Try.func92, Try.ntmps92
    go_wp2_with (at_builtin; refine stopAt ?_)
    unfold Hid
    refine wpList_appR TVer verCs_len verCs_one rfl (.tmp 5) (.tmp 6) rfl rfl rfl (Hv.out.keepAll ((Same.refl _ _).alloc _)) (OwnR.empty verCs 4 _ w) (by rw [World.size_alloc]; omega) (by simp only [maxLen, List.length_nil]; omega) (by simp only [List.length_nil]; omega) ?_
    intro v' w' hown hS
    have Hown := Lib.hid hown
    have HS := Lib.hid hS
    clear hown hS
    go_wp2
    go_ret
    refine ⟨_, rfl, by simpa using Hown.out, ((Same.refl (fun _ => True) _).alloc _).trans' HS.out fun k hk _ e => ?_⟩
    injection (show some k = some w.heap.size from e) with e
    omega
end Go.Proofs.Ytoldelocfmpccaa
namespace Go.Proofs.Ytoldelocfmpccaa
open Go.RowKit
theorem cel_set12 {S : Nat → Prop} {w wr : World} {g : Nat} {a0 a1 a2 a3 a4 a5 a6 a7 a8 a9 a10 a11 b0 b1 b2 b3 b4 b5 b6 b7 b8 b9 b10 b11 : Value} (hg : g < w.heap.size → ¬ S g) (HR : Row wr g 64 [a0, a1, a2, a3, a4, a5, a6, a7, a8, a9, a10, a11]) (HS : Same S w wr) :
    Row ((((((((((((wr.setCell ⟨g, 0, none⟩ b0).setCell ⟨g, 1, none⟩ b1).setCell ⟨g, 2, none⟩ b2).setCell ⟨g, 3, none⟩ b3).setCell ⟨g, 4, none⟩ b4).setCell ⟨g, 5, none⟩ b5).setCell ⟨g, 6, none⟩ b6).setCell ⟨g, 7, none⟩ b7).setCell ⟨g, 8, none⟩ b8).setCell ⟨g, 9, none⟩ b9).setCell ⟨g, 10, none⟩ b10).setCell ⟨g, 11, none⟩ b11) g 64 [b0, b1, b2, b3, b4, b5, b6, b7, b8, b9, b10, b11] ∧ Same S w ((((((((((((wr.setCell ⟨g, 0, none⟩ b0).setCell ⟨g, 1, none⟩ b1).setCell ⟨g, 2, none⟩ b2).setCell ⟨g, 3, none⟩ b3).setCell ⟨g, 4, none⟩ b4).setCell ⟨g, 5, none⟩ b5).setCell ⟨g, 6, none⟩ b6).setCell ⟨g, 7, none⟩ b7).setCell ⟨g, 8, none⟩ b8).setCell ⟨g, 9, none⟩ b9).setCell ⟨g, 10, none⟩ b10).setCell ⟨g, 11, none⟩ b11) :=
  ⟨((((((((((((HR.set_ 0 b0).set_ 1 b1).set_ 2 b2).set_ 3 b3).set_ 4 b4).set_ 5 b5).set_ 6 b6).set_ 7 b7).set_ 8 b8).set_ 9 b9).set_ 10 b10).set_ 11 b11), ((((((((((((HS.setCell hg _).setCell hg _).setCell hg _).setCell hg _).setCell hg _).setCell hg _).setCell hg _).setCell hg _).setCell hg _).setCell hg _).setCell hg _).setCell hg _)⟩
theorem cel_cells {w : World} {g : Nat} {a0 a1 a2 a3 a4 a5 a6 a7 a8 a9 a10 a11 : Value} (h : Row w g 64 [a0, a1, a2, a3, a4, a5, a6, a7, a8, a9, a10, a11]) : w.cell? ⟨g, 0, none⟩ = some a0 ∧ w.cell? ⟨g, 1, none⟩ = some a1 ∧ w.cell? ⟨g, 2, none⟩ = some a2 ∧ w.cell? ⟨g, 3, none⟩ = some a3 ∧ w.cell? ⟨g, 4, none⟩ = some a4 ∧ w.cell? ⟨g, 5, none⟩ = some a5 ∧ w.cell? ⟨g, 6, none⟩ = some a6 ∧ w.cell? ⟨g, 7, none⟩ = some a7 ∧ w.cell? ⟨g, 8, none⟩ = some a8 ∧ w.cell? ⟨g, 9, none⟩ = some a9 ∧ w.cell? ⟨g, 10, none⟩ = some a10 ∧ w.cell? ⟨g, 11, none⟩ = some a11 ∧ w.frozen? ⟨g, 0, none⟩ = false ∧ w.frozen? ⟨g, 1, none⟩ = false ∧ w.frozen? ⟨g, 2, none⟩ = false ∧ w.frozen? ⟨g, 3, none⟩ = false ∧ w.frozen? ⟨g, 4, none⟩ = false ∧ w.frozen? ⟨g, 5, none⟩ = false ∧ w.frozen? ⟨g, 6, none⟩ = false ∧ w.frozen? ⟨g, 7, none⟩ = false ∧ w.frozen? ⟨g, 8, none⟩ = false ∧ w.frozen? ⟨g, 9, none⟩ = false ∧ w.frozen? ⟨g, 10, none⟩ = false ∧ w.frozen? ⟨g, 11, none⟩ = false :=
  ⟨h.cell 0, h.cell 1, h.cell 2, h.cell 3, h.cell 4, h.cell 5, h.cell 6, h.cell 7, h.cell 8, h.cell 9, h.cell 10, h.cell 11, h.frozen 0, h.frozen 1, h.frozen 2, h.frozen 3, h.frozen 4, h.frozen 5, h.frozen 6, h.frozen 7, h.frozen 8, h.frozen 9, h.frozen 10, h.frozen 11⟩
theorem own_results {W : World} {k : Nat} {u : Value} {c : Cel} (R : Row W k 64 (celCs (u, c))) {tmps : Array Value}
    (h2 : tmps.getD 2 undef = .pointer (some ⟨k, 0, none⟩)) :
    (results Try.f65 tmps).run Try.prog W = .ok (celV u c) W := by
  have d0 : W.cell? ⟨k, 0, none⟩ = some (.string (str c.key)) := R.cell 0
  have d1 : W.cell? ⟨k, 1, none⟩ = some (u) := R.cell 1
  have d2 : W.cell? ⟨k, 2, none⟩ = some (.bool c.locked) := R.cell 2
  have d3 : W.cell? ⟨k, 3, none⟩ = some (.int .i64 c.lock.by_.node) := R.cell 3
  have d4 : W.cell? ⟨k, 4, none⟩ = some (.int .i64 c.lock.by_.life) := R.cell 4
  have d5 : W.cell? ⟨k, 5, none⟩ = some (.int .i64 c.lock.by_.seq) := R.cell 5
  have d6 : W.cell? ⟨k, 6, none⟩ = some (.int .i64 c.lock.by_.attempt) := R.cell 6
  have d7 : W.cell? ⟨k, 7, none⟩ = some (.int .i64 c.lock.home) := R.cell 7
  have d8 : W.cell? ⟨k, 8, none⟩ = some (.int .i64 c.lock.at_.wall) := R.cell 8
  have d9 : W.cell? ⟨k, 9, none⟩ = some (.int .i64 c.lock.at_.tie) := R.cell 9
  have d10 : W.cell? ⟨k, 10, none⟩ = some (.bool c.lock.drop) := R.cell 10
  have d11 : W.cell? ⟨k, 11, none⟩ = some (.string (str c.lock.data)) := R.cell 11
  simp at h2
  simp [results, Try.results65, h2, go_sem, d0, d1, d2, d3, d4, d5, d6, d7, d8, d9, d10, d11]
def OwnCP (c : Cel) (w : World) (e : Ending) (w' : World) : Prop := ∃ u, e = .returned (celV u c) ∧ OwnV w' w.heap.size u c.vers ∧ Same (fun _ => True) w w'
set_option maxHeartbeats 1000000 in
theorem own_any (u : Value) (c : Cel) (S : Nat → Prop) (w : World) (hv : VerR w S u c.vers) (hn : c.vers.length ≤ 1000000) :
    Calls Try.prog 65 #[celV u c] w (OwnCP c w) := by
  obtain ⟨W0, hW0⟩ : ∃ W0, W0 = (w.alloc (.cells #[.string (str c.key), u, .bool c.locked, .int .i64 c.lock.by_.node, .int .i64 c.lock.by_.life, .int .i64 c.lock.by_.seq, .int .i64 c.lock.by_.attempt, .int .i64 c.lock.home, .int .i64 c.lock.at_.wall, .int .i64 c.lock.at_.tie, .bool c.lock.drop, .string (str c.lock.data)] 64)).alloc (.cells #[.string ⟨#[]⟩, .slice none 0 0, .bool false, .int .i64 0, .int .i64 0, .int .i64 0, .int .i64 0, .int .i64 0, .int .i64 0, .int .i64 0, .bool false, .string ⟨#[]⟩] 64) := ⟨_, rfl⟩
  have hS0 : Same (fun _ => True) w W0 := by rw [hW0]; exact ((Same.refl _ _).alloc _).alloc _
  have hz0 : W0.heap.size = w.heap.size + 2 := by rw [hW0, World.size_alloc, World.size_alloc]
  have hr0 : Row W0 w.heap.size 64 (celCs (u, c)) := by
    rw [hW0]
    exact (Row.new w 64 (celCs (u, c))).keep ((Same.refl (fun _ => True) _).alloc _) trivial
  have hr1 : Row W0 (w.heap.size + 1) 64 (#[.string ⟨#[]⟩, .slice none 0 0, .bool false, .int .i64 0, .int .i64 0, .int .i64 0, .int .i64 0, .int .i64 0, .int .i64 0, .int .i64 0, .bool false, .string ⟨#[]⟩] : Array Value).toList := by
    have := Row.new (w.alloc (.cells #[.string (str c.key), u, .bool c.locked, .int .i64 c.lock.by_.node, .int .i64 c.lock.by_.life, .int .i64 c.lock.by_.seq, .int .i64 c.lock.by_.attempt, .int .i64 c.lock.home, .int .i64 c.lock.at_.wall, .int .i64 c.lock.at_.tie, .bool c.lock.drop, .string (str c.lock.data)] 64)) 64 (#[.string ⟨#[]⟩, .slice none 0 0, .bool false, .int .i64 0, .int .i64 0, .int .i64 0, .int .i64 0, .int .i64 0, .int .i64 0, .int .i64 0, .bool false, .string ⟨#[]⟩] : Array Value).toList
    rw [World.size_alloc] at this
    rw [hW0]; exact this
  have g := clone_any u c.vers S W0 (hv.keepAll hS0) hn
  obtain ⟨Au, cu, rfl, -, -⟩ := hv.form
  have HS0 := Lib.hid hS0
  have Hr0 := Lib.hid hr0
  have Hr1 := Lib.hid hr1
  have HW0 := Lib.hid hW0
  have Hz0 := Lib.hid hz0
  clear hv hS0 hr0 hr1 hW0 hz0
  go_enter Try.func65, Try.ntmps65
  go_wp2_with (go_at_call 92; refine stopAt ?_)
  unfold Hid
  rw [← HW0.out]
  refine g.mono ?_
  rintro e w1 ⟨u', rfl, hown, hS⟩
  obtain ⟨A, cp, rfl, -, -⟩ := hown.form
  have hq0 := Hr0.out.keep hS trivial
  have hq1 := Hr1.out.keep hS trivial
  have Hq0 := Lib.hid hq0
  have Hq1 := Lib.hid hq1
  have Hown := Lib.hid hown
  have HS := Lib.hid hS
  obtain ⟨a0, a1, a2, a3, a4, a5, a6, a7, a8, a9, a10, a11, f0, f1, f2, f3, f4, f5, f6, f7, f8, f9, f10, f11⟩ := cel_cells hq0
  obtain ⟨d0, d1, d2, d3, d4, d5, d6, d7, d8, d9, d10, d11, e0, e1, e2, e3, e4, e5, e6, e7, e8, e9, e10, e11⟩ := cel_cells hq1
  have z0 := hq0.lt
  have z1 := hq1.lt
  clear hown hS hq0 hq1 g f0 f2 f3 f4 f5 f6 f7 f8 f9 f10 f11
  go_wp2
  have k1 := Hq0.out.set_ 1 (.slice A c.vers.length cp)
  have k2 : Row (w1.setCell ⟨w.heap.size, 1, none⟩ (.slice A c.vers.length cp)) (w.heap.size + 1) 64 (#[.string ⟨#[]⟩, .slice none 0 0, .bool false, .int .i64 0, .int .i64 0, .int .i64 0, .int .i64 0, .int .i64 0, .int .i64 0, .int .i64 0, .bool false, .string ⟨#[]⟩] : Array Value).toList := Hq1.out.keep ((Same.refl (fun k => k = w.heap.size + 1) w1).setCell (fun _ h => by simp at h) _) rfl
  have t1 : Same (fun k => k ≠ w.heap.size ∧ k ≠ w.heap.size + 1) w1 (w1.setCell ⟨w.heap.size, 1, none⟩ (.slice A c.vers.length cp)) := (Same.refl _ w1).setCell (fun _ h => h.1 rfl) _
  obtain ⟨r1, r2⟩ := cel_set12 (b0 := .string (str c.key)) (b1 := .slice A c.vers.length cp) (b2 := .bool c.locked) (b3 := .int .i64 c.lock.by_.node) (b4 := .int .i64 c.lock.by_.life) (b5 := .int .i64 c.lock.by_.seq) (b6 := .int .i64 c.lock.by_.attempt) (b7 := .int .i64 c.lock.home) (b8 := .int .i64 c.lock.at_.wall) (b9 := .int .i64 c.lock.at_.tie) (b10 := .bool c.lock.drop) (b11 := .string (str c.lock.data)) (fun _ h => h.2 rfl) k2 t1
  refine bodyPost_ret (own_results (u := .slice A c.vers.length cp) (c := c) r1 rfl) rfl ⟨_, rfl, (Hown.out.keep r2 fun k h1 h2 => ?_).lower (by rw [Hz0.out]; omega), (HS0.out.trans HS.out).trans' r2 fun k hk _ => ?_⟩
  · have := Hz0.out
    constructor <;> omega
  · constructor <;> omega
end Go.Proofs.Ytoldelocfmpccaa
namespace Go.Proofs.Ytoldelocfmpccaa
open Go.RowKit
theorem RowW.keepOwn {α : Type} {f : α → List Value} {n : Nat} {e e' : TypeId} {w w' : World} {S : Nat → Prop} {v : Value} {l : List α} {B size m : Nat} {x : Value} {xs : List Value} (h : RowW f n e w S v l) (ho : w.ownsRow B e' size x m xs) (hne : e ≠ e') (hs : Same (fun k => some k ≠ x.ownBlock) w w') : RowW f n e w' S v l := by
  obtain ⟨A, c, h1, h2, h3, h4⟩ := h
  refine ⟨A, c, h1, h2, h3, fun h0 => ?_⟩
  obtain ⟨g, o, cur, e1, e2, e3, e4⟩ := h4 h0
  refine ⟨g, o, cur, e1, e2, ?_, e4⟩
  rw [hs.block g (Array.getElem?_eq_some_iff.1 e3).1 (fun hk => ?_)]
  · exact e3
  · rcases ho.2 with ⟨rfl, _⟩ | ⟨g', cap, cur', rfl, _, hg, _⟩
    · cases hk
    · injection (show some g = some g' from hk) with hk
      subst hk
      rw [e3] at hg
      injection hg with hg
      injection hg with _ hg _
      exact hne hg
/-- Cells that the call owns: the row, and each one's versions in blocks from B on. -/
def OwnC (w : World) (B : Nat) (v : Value) (cs : List Cel) : Prop :=
  ∃ us : List Value, us.length = cs.length ∧ OwnR celCs 12 64 w B v (us.zip cs) ∧ ∀ i (h : i < cs.length) (h' : i < us.length), RowW verCs 4 69 w (fun k => B ≤ k) us[i] cs[i].vers
section
variable {w w' : World} {B : Nat} {v : Value} {cs : List Cel}
theorem OwnC.nil (w : World) (B : Nat) : OwnC w B (.slice none 0 0) [] := ⟨[], rfl, OwnR.nil _ _, fun i h => absurd h (Nat.not_lt_zero _)⟩
theorem OwnC.keepAll (h : OwnC w B v cs) (hs : Same (fun _ => True) w w') : OwnC w' B v cs := by
  obtain ⟨us, h1, h2, h3⟩ := h
  exact ⟨us, h1, h2.keepAll hs, fun i a b => (h3 i a b).keepAll hs⟩
theorem OwnC.keep (h : OwnC w B v cs) {S : Nat → Prop} (hs : Same S w w') (hS : ∀ k, B ≤ k → k < w.heap.size → S k) : OwnC w' B v cs := by
  obtain ⟨us, h1, h2, h3⟩ := h
  exact ⟨us, h1, h2.keep hs hS, fun i a b => (h3 i a b).keep (hs.mono fun k hk hB => hS k hB hk)⟩
theorem OwnC.form (h : OwnC w B v cs) : ∃ A c, v = .slice A cs.length c ∧ cs.length ≤ c ∧ c ≤ maxLen := by
  obtain ⟨us, h1, h2, _⟩ := h
  obtain ⟨A, c, e1, e2, e3⟩ := h2.form
  have e : (us.zip cs).length = cs.length := by simp [h1]
  rw [e] at e1 e2
  exact ⟨A, c, e1, e2, e3⟩
theorem OwnC.form3 (h : OwnC w B v cs) : ∃ A n c, v = .slice A n c ∧ n ≤ c ∧ c ≤ maxLen := by
  obtain ⟨A, c, h1, h2, h3⟩ := h.form
  exact ⟨A, _, c, h1, h2, h3⟩
theorem OwnC.lower {B' : Nat} (h : OwnC w B v cs) (hb : B' ≤ B) : OwnC w B' v cs := by
  obtain ⟨us, h1, h2, h3⟩ := h
  exact ⟨us, h1, h2.lower hb, fun i a b => (h3 i a b).mono fun k _ hk => by omega⟩
theorem OwnC.reads (h : OwnC w B v cs) : CelR w (fun k => B ≤ k) v cs := by
  obtain ⟨us, h1, h2, h3⟩ := h
  exact ⟨us, h1, h2.wr.row celCs_len, fun i a b => (h3 i a b).row verCs_len⟩
end
theorem TCel : SlT Try.prog 33 64 12 128 (.agg #[.string ⟨#[]⟩, .slice none 0 0, .bool false, .int .i64 0, .int .i64 0, .int .i64 0, .int .i64 0, .int .i64 0, .int .i64 0, .int .i64 0, .bool false, .string ⟨#[]⟩]) := ⟨by kernel_rfl, by kernel_rfl, rfl, by omega⟩
theorem celCs_one {A : Option Addr} {n cp : Nat} (c : Cel) : ∀ u ∈ celCs (.slice A n cp, c), u.oneCell' = true := by
  intro u hu
  simp only [celCs, lckCs, List.cons_append, List.nil_append, List.mem_cons, List.not_mem_nil, or_false] at hu
  rcases hu with rfl | rfl | rfl | rfl | rfl | rfl | rfl | rfl | rfl | rfl | rfl | rfl <;> rfl
/-- One cell behind cells that the call owns. -/
theorem wpList_appC {w : World} {ops : Array Oper} {rest : List Oper} {o : Oper} {a : Act} {Q : Exit → Act → World → Prop} (hgd : o.guard = none) (s x : Operand)
    (ho : o.op = .call { callee := .builtin .append, args := #[s, x], argTypes := #[33, 33] }) {B : Nat} {v : Value} {cs : List Cel} {c : Cel} {A : Option Addr} {n cp : Nat}
    (hs : a.eval s = v) {g : Nat} (hx : a.eval x = .slice (some ⟨g, 0, none⟩) 1 1) (hg : g = w.heap.size) (hown : OwnC w B v cs) (hu : RowW verCs 4 69 w (fun k => B ≤ k) (.slice A n cp) c.vers) (hB : B ≤ w.heap.size) (hlen : cs.length ≤ 1000000)
    (hK : ∀ v' w', OwnC w' B v' (cs ++ [c]) → Same (fun k => k < B) w w' → wpList Try.prog ops Q rest (a.put o.dst v') w') : wpList Try.prog ops Q (o :: rest) a (w.alloc (.cells (celCs (.slice A n cp, c)).toArray 64)) := by
  subst hg
  obtain ⟨us, u1, u2, u3⟩ := hown
  have hul : (us.zip cs).length = cs.length := by simp [u1]
  have hs1 : Same (fun _ => True) w (w.alloc (.cells (celCs (.slice A n cp, c)).toArray 64)) := (Same.refl _ _).alloc _
  have hrow := Row.new w 64 (celCs (.slice A n cp, c))
  have hsl := hrow.sl (size := 12) (off := 0) (n := 1) (by rw [celCs_len]; omega)
  rw [List.drop_zero, List.take_of_length_le (by rw [celCs_len]; omega)] at hsl
  refine wpList_app TCel _ hgd s x ho B v (us.zip cs).length ((us.zip cs).flatMap celCs) hs (u2.keepAll hs1) _ _ 1 1 (celCs (.slice A n cp, c)) hx hsl (celCs_one c) (by rw [hul]; simp only [maxLen]; omega) (by rw [hul]; omega) (by simp; omega) ?_
  intro v' w' h2 h3 h4
  refine hK v' w' ⟨us ++ [.slice A n cp], by simp [u1], ?_, ?_⟩ ((hs1.mono fun _ _ _ => trivial).trans (h3.mono fun k _ hk e' => by have := (u2.keepAll hs1).lt_ e'.symm; omega))
  · unfold OwnR
    rw [List.zip_append u1, List.length_append, List.flatMap_append]
    simpa using h2
  · intro i hi hi'
    have ho1 := u2.keepAll hs1
    by_cases hlt : i < cs.length
    · rw [List.getElem_append_left (by omega), List.getElem_append_left hlt]
      exact ((u3 i hlt (by omega)).keepAll hs1).keepOwn ho1 (by decide) h3
    · have e : i = cs.length := by simp at hi; omega
      subst e
      rw [List.getElem_append_right (by omega), List.getElem_append_right (by omega)]
      simp only [u1, Nat.sub_self, List.getElem_singleton]
      exact (hu.keepAll hs1).keepOwn ho1 (by decide) h3
def AllP (cs : List Cel) (w : World) (e : Ending) (w' : World) : Prop := ∃ v, e = .returned v ∧ OwnC w' w.heap.size v cs ∧ Same (fun _ => True) w w'
set_option maxHeartbeats 1000000 in
theorem all_any (v : Value) (cs : List Cel) (S : Nat → Prop) (w : World) (hv : CelR w S v cs) (hn : cs.length ≤ 100000) (hn2 : ∀ c ∈ cs, c.vers.length ≤ 1000000) :
    Calls Try.prog 67 #[v] w (AllP cs w) := by
  obtain ⟨A, cp, rfl, hc, hm⟩ := hv.form
  have Hv := Lib.hid hv
  have Hn2 := Lib.hid hn2
  unfold maxLen at hm
  clear hv hn2
  go_enter Try.func67, Try.ntmps67
  go_wp2
  go_loopw [3, 5, 8] (fun l _ i wr => ∃ k : Nat, i = .int .i64 k ∧ k ≤ cs.length ∧ OwnC wr w.heap.size l (cs.take k) ∧ Same (fun _ => True) w wr) (fun _ _ i _ => cs.length - (intOf i).toNat)
  case atStart => exact ⟨0, rfl, Nat.zero_le _, by rw [List.take_zero]; exact OwnC.nil _ _, Same.refl _ _⟩
  case round =>
    obtain ⟨k, rfl, hk, hown, hS⟩ := hrel
    have HS := Lib.hid hS
    have Hown := Lib.hid hown
    have hsz := hS.size
    obtain ⟨Al, nl, cl, rfl, hl1, hl2⟩ := hown.form3
    unfold maxLen at hl2
    by_cases hlt : k < cs.length
    · obtain ⟨ad, u, rfl, -, hvr, c0, c1, c2, c3, c4, c5, c6, c7, c8, c9, c10, c11⟩ := CelR.cells12 (Hv.out.keepAll hS) hlt
      obtain ⟨Au, cu, rfl, -, -⟩ := hvr.form
      have x1 : (0 : Int) ≤ (k : Int) := by omega
      have x2 : (k : Int) < (cs.length : Int) := by omega
      have hab := World.block_lt_of_cell? wr _ c0
      have htk : cs.take (k + 1) = cs.take k ++ [cs[k]] := List.take_succ_eq_append_getElem hlt
      have hcl := Hn2.out cs[k] (List.getElem_mem hlt)
      have Htk := Lib.hid htk
      have Hvr := Lib.hid hvr
      clear hvr htk hown hS
      generalize cs[k] = c at *
      have g := own_any (.slice Au c.vers.length cu) c S (wr.alloc (.cells (celCs (.slice Au c.vers.length cu, c)).toArray 64)) (RowR.keepAll Hvr.out ((Same.refl _ _).alloc _)) hcl
      go_wp2_with (go_at_call 65; refine stopAt ?_)
      unfold Hid
      refine g.mono ?_
      rintro e w5 ⟨u', rfl, hown5, hS5⟩
      obtain ⟨A5, c5', rfl, -, -⟩ := hown5.form
      have hS6 := ((Same.refl (fun _ => True) wr).alloc (.cells (celCs (.slice Au c.vers.length cu, c)).toArray 64)).trans hS5
      have HS6 := Lib.hid hS6
      have Hown5 := Lib.hid hown5
      clear hS5 hS6 hown5 g c0 c1 c2 c3 c4 c5 c6 c7 c8 c9 c10 c11
      go_wp2_with (at_builtin; refine stopAt ?_)
      unfold Hid
      refine wpList_appC (c := c) (B := w.heap.size) rfl (.tmp 12) (.tmp 15) rfl rfl rfl rfl (Hown.out.keepAll HS6.out) (Hown5.out.wr.mono fun j _ hj => by rw [World.size_alloc] at hj; omega) (by have := HS6.out.size; omega) (by rw [List.length_take]; omega) ?_
      intro v' w7 hown7 hS7
      have Hown7 := Lib.hid hown7
      have HS7 := Lib.hid hS7
      clear hown7 hS7
      go_wp2
      go_roundw
      case rel => exact ⟨k + 1, by go_num, by omega, by rw [Htk.out]; exact Hown7.out, (HS.out.trans HS6.out).trans' HS7.out fun j hj _ => hj⟩
      case measure => simp [intOf]; omega
    · obtain rfl : k = cs.length := by omega
      rw [List.take_length] at Hown
      clear hS hown
      go_wp2
      go_ret
      exact ⟨_, rfl, Hown.out, HS.out⟩
end Go.Proofs.Ytoldelocfmpccaa
namespace Go.Proofs.Ytoldelocfmpccaa
open Go.RowKit
theorem RowW.cut {α : Type} {f : α → List Value} {n : Nat} {e : TypeId} {w : World} {S : Nat → Prop} {l : List α} {A : Option Addr} {m c : Nat} (h : RowW f n e w S (.slice A m c) l) (hf : ∀ x, (f x).length = n) {i : Nat} (hi : i ≤ l.length) :
    RowW f n e w S (.slice (if c = i then A else A.map (·.add (i * n))) (l.length - i) (c - i)) (l.drop i) := by
  obtain ⟨A', c', h1, h2, h3, h4⟩ := h
  injection h1 with e1 e2 e3
  subst e1 e2 e3
  refine ⟨_, c - i, by rw [List.length_drop], by rw [List.length_drop]; omega, by omega, fun h0 => ?_⟩
  rw [List.length_drop] at h0
  obtain ⟨g, o, cur, k1, k2, k3, k4⟩ := h4 (by omega)
  subst k1
  rw [if_neg (by omega)]
  refine ⟨g, o + i * n, cur, by simp only [Option.map_some, add_none], k2, k3, fun j u hu => ?_⟩
  rw [flat_drop f n hf, List.getElem?_drop] at hu
  rw [Nat.add_assoc]
  exact k4 _ u hu
/-- How many versions a trim lets go. -/
def trimI (l : List Ver) (a : St) : Nat := if lastF l a < 0 then 0 else if (l[(lastF l a).toNat]?.map (·.drop)).getD false then (lastF l a).toNat + 1 else (lastF l a).toNat
def trimV (l : List Ver) (a : St) : List Ver := l.drop (trimI l a)
def keptB (c : Cel) : Bool := c.locked || !c.vers.isEmpty
/-- What a trim leaves. -/
def trimC (a : St) (c : Cel) : List Cel := if keptB { c with vers := trimV c.vers a } then [{ c with vers := trimV c.vers a }] else []
def trimF (cs : List Cel) (a : St) : List Cel := cs.flatMap (trimC a)
theorem trimF_take {cs : List Cel} {a : St} {k : Nat} (h : k < cs.length) : trimF (cs.take (k + 1)) a = trimF (cs.take k) a ++ trimC a cs[k] := by
  unfold trimF
  rw [List.take_succ_eq_append_getElem h, List.flatMap_append]
  simp
theorem trimF_len (a : St) : ∀ cs : List Cel, (trimF cs a).length ≤ cs.length
  | [] => by simp [trimF]
  | c :: cs => by
    have := trimF_len a cs
    have e : trimF (c :: cs) a = trimC a c ++ trimF cs a := by simp [trimF]
    rw [e, List.length_append, List.length_cons]
    unfold trimC
    split <;> simp <;> omega
end Go.Proofs.Ytoldelocfmpccaa
namespace Go.Proofs.Ytoldelocfmpccaa
theorem less_iff (a b : St) : lessB a b = true ↔ a.wall < b.wall ∨ a.wall = b.wall ∧ a.tie < b.tie := by simp [lessB]
theorem less_no (a b : St) : lessB a b = false ↔ ¬ (a.wall < b.wall ∨ a.wall = b.wall ∧ a.tie < b.tie) := by
  rw [← less_iff]; simp
theorem st_eq (a b : St) : a = b ↔ a.wall = b.wall ∧ a.tie = b.tie := by
  cases a; cases b; simp
theorem less_irrefl (a : St) : lessB a a = false := by rw [less_no]; omega
theorem less_trans {a b c : St} (h1 : lessB a b = true) (h2 : lessB b c = true) : lessB a c = true := by
  rw [less_iff] at *; omega
theorem less_asymm {a b : St} (h : lessB a b = true) : lessB b a = false := by
  rw [less_iff] at h; rw [less_no]; omega
theorem less_ne {a b : St} (h : lessB a b = true) : a ≠ b := by
  rintro rfl; rw [less_irrefl] at h; cases h
theorem less_or {a b : St} (h : lessB a b = false) : a = b ∨ lessB b a = true := by
  rw [less_no] at h; rw [less_iff, st_eq]; omega
def SortV (vs : List Ver) : Prop := vs.Pairwise fun x y => lessB x.at_ y.at_ = true
/-- Versions with one more, in its place. -/
def putF : List Ver → Ver → List Ver
  | [], v => [v]
  | x :: l, v => if lessB x.at_ v.at_ then x :: putF l v else if x.at_ = v.at_ then v :: l else v :: x :: l
theorem put_len : ∀ (l : List Ver) (v : Ver), (putF l v).length ≤ l.length + 1 ∧ 0 < (putF l v).length
  | [], v => by simp [putF]
  | x :: l, v => by
    have := put_len l v
    unfold putF
    split
    · simp; omega
    · split <;> simp
theorem put_mem {l : List Ver} {v x : Ver} (h : x ∈ putF l v) : x = v ∨ x ∈ l := by
  induction l with
  | nil => simp [putF] at h; exact .inl h
  | cons y l ih =>
    unfold putF at h
    split at h
    · rcases List.mem_cons.1 h with rfl | h
      · simp
      · rcases ih h with h | h <;> simp [h]
    · split at h
      · rcases List.mem_cons.1 h with rfl | h <;> simp [*]
      · rcases List.mem_cons.1 h with rfl | h
        · simp
        · exact .inr h
theorem put_sort {l : List Ver} (hl : SortV l) (v : Ver) : SortV (putF l v) := by
  induction l with
  | nil => simp [putF, SortV]
  | cons x l ih =>
    obtain ⟨h1, h2⟩ := List.pairwise_cons.1 hl
    unfold putF
    split
    · rename_i hx
      refine List.pairwise_cons.2 ⟨fun y hy => ?_, ih h2⟩
      rcases put_mem hy with rfl | hy
      · exact hx
      · exact h1 y hy
    · rename_i hx
      have hx : lessB x.at_ v.at_ = false := by simpa using hx
      split
      · rename_i e
        exact List.pairwise_cons.2 ⟨fun y hy => by rw [← e]; exact h1 y hy, h2⟩
      · rename_i e
        have hv : lessB v.at_ x.at_ = true := by
          rcases less_or hx with h | h
          · exact absurd h e
          · exact h
        refine List.pairwise_cons.2 ⟨fun y hy => ?_, hl⟩
        rcases List.mem_cons.1 hy with rfl | hy
        · exact hv
        · exact less_trans hv (h1 y hy)
/-- Where a version comes to stand. -/
theorem put_at {v : Ver} : ∀ {l : List Ver} {n : Nat}, n ≤ l.length → (∀ k (h : k < l.length), k < n → lessB l[k].at_ v.at_ = true) → (∀ k (h : k < l.length), n ≤ k → lessB v.at_ l[k].at_ = true) → putF l v = l.take n ++ v :: l.drop n
  | [], n, h0, _, _ => by simp [putF]
  | x :: l, 0, _, _, h2 => by
    have := h2 0 (by simp) (by omega)
    simp at this
    have e : ¬ x.at_ = v.at_ := fun h => less_ne this h.symm
    simp [putF, less_asymm this, e]
  | x :: l, n + 1, h0, h1, h2 => by
    have e := h1 0 (by simp) (by omega)
    simp at e
    have ih := put_at (v := v) (l := l) (n := n) (by simpa using h0) (fun k h hk => by have := h1 (k + 1) (by simpa using h) (by omega); simpa using this) (fun k h hk => by have := h2 (k + 1) (by simpa using h) (by omega); simpa using this)
    simp [putF, e, ih]
theorem put_hit {v : Ver} : ∀ {l : List Ver} {n : Nat} (hn : n < l.length), SortV l → l[n].at_ = v.at_ → putF l v = l.take n ++ v :: l.drop (n + 1)
  | x :: l, 0, _, hs, e => by
    simp at e
    simp [putF, e, less_irrefl]
  | x :: l, n + 1, hn, hs, e => by
    obtain ⟨h1, h2⟩ := List.pairwise_cons.1 hs
    simp at e hn
    have hx := h1 _ (List.getElem_mem hn)
    rw [e] at hx
    have ih := put_hit (v := v) (l := l) (n := n) hn h2 e
    simp [putF, hx, ih]
/-- What the document's loop still makes. -/
def withR (v : Ver) : Bool → List Ver → List Ver
  | b, [] => if b then [] else [v]
  | b, x :: l => (if !b && !lessB x.at_ v.at_ then [v] else []) ++ ((if x.at_ = v.at_ then [] else [x]) ++ withR v (b || !lessB x.at_ v.at_) l)
/-- What versions tell, one by one. -/
def foldT (a : St) (r : List UInt8 × Bool) (l : List Ver) : List UInt8 × Bool := l.foldl (fun r v => if lessB a v.at_ then r else (v.data, !v.drop)) r
def normT (r : List UInt8 × Bool) : List UInt8 × Bool := if r.2 = true then (r.1, true) else ([], false)
theorem foldT_cons (a : St) (r : List UInt8 × Bool) (v : Ver) (l : List Ver) : foldT a r (v :: l) = foldT a (if lessB a v.at_ then r else (v.data, !v.drop)) l := rfl
theorem foldT_append (a : St) (r : List UInt8 × Bool) (l m : List Ver) : foldT a r (l ++ m) = foldT a (foldT a r l) m := by simp [foldT]
theorem tells_fold (l : List Ver) (a : St) : tellsF l a = normT (foldT a ([], false) l) := by
  have : ∀ k, k ≤ l.length → ofP l a k = foldT a ([], false) (l.take k) := by
    intro k
    induction k with
    | zero => intro _; rw [ofP_zero]; rfl
    | succ k ih =>
      intro h
      rw [ofP_step (by omega), ih (by omega), List.take_succ_eq_append_getElem (by omega), foldT_append]
      rfl
  rw [ofP_tells, this l.length (Nat.le_refl _), List.take_length]
  rfl
theorem foldT_above {a : St} : ∀ {l : List Ver} (r : List UInt8 × Bool), (∀ x ∈ l, lessB a x.at_ = true) → foldT a r l = r
  | [], r, _ => rfl
  | x :: l, r, h => by
    rw [foldT_cons, h x (by simp), if_pos rfl]
    exact foldT_above r fun y hy => h y (by simp [hy])
theorem fold_put_low {a : St} {v : Ver} (h : lessB a v.at_ = true) : ∀ (l : List Ver) (r : List UInt8 × Bool), foldT a r (putF l v) = foldT a r l
  | [], r => by simp [putF, foldT, h]
  | x :: l, r => by
    unfold putF
    split
    · rw [foldT_cons, foldT_cons, fold_put_low h l]
    · split
      · rename_i e
        rw [foldT_cons, foldT_cons, h, e, h, if_pos rfl, if_pos rfl]
      · rw [foldT_cons, h, if_pos rfl]
theorem tells_put_low {a : St} {v : Ver} (h : lessB a v.at_ = true) (l : List Ver) : tellsF (putF l v) a = tellsF l a := by
  rw [tells_fold, tells_fold, fold_put_low h]
theorem fold_put_at {v : Ver} : ∀ {l : List Ver} (r : List UInt8 × Bool), SortV l → foldT v.at_ r (putF l v) = (v.data, !v.drop)
  | [], r, _ => by simp [putF, foldT, less_irrefl]
  | x :: l, r, h => by
    obtain ⟨h1, h2⟩ := List.pairwise_cons.1 h
    unfold putF
    split
    · rw [foldT_cons, fold_put_at _ h2]
    · rename_i hx
      have hx : lessB x.at_ v.at_ = false := by simpa using hx
      split
      · rename_i e
        rw [foldT_cons, less_irrefl, if_neg (by simp), foldT_above _ fun y hy => by rw [← e]; exact h1 y hy]
      · rename_i e
        have hv : lessB v.at_ x.at_ = true := by
          rcases less_or hx with h | h
          · exact absurd h e
          · exact h
        rw [foldT_cons, less_irrefl, if_neg (by simp), foldT_above]
        intro y hy
        rcases List.mem_cons.1 hy with rfl | hy
        · exact hv
        · exact less_trans hv (h1 y hy)
theorem tells_put_at {v : Ver} {l : List Ver} (h : SortV l) : tellsF (putF l v) v.at_ = if v.drop = true then ([], false) else (v.data, true) := by
  rw [tells_fold, fold_put_at _ h]
  unfold normT
  cases v.drop <;> simp
theorem lastGo_hit {l : List Ver} {a : St} : ∀ {n : Nat}, n ≤ l.length → ∀ (h0 : 0 ≤ lastGo l a n), ∃ h : (lastGo l a n).toNat < l.length, lessB a l[(lastGo l a n).toNat].at_ = false
  | 0, _, h => by simp [lastGo] at h
  | n + 1, hn, h => by
    have hlt : n < l.length := by omega
    cases hb : lessB a l[n].at_
    · have e : lastGo l a (n + 1) = n := by rw [lastGo_step hlt, hb]; simp
      rw [e] at h ⊢
      exact ⟨by simpa using hlt, by simpa using hb⟩
    · have e : lastGo l a (n + 1) = lastGo l a n := by rw [lastGo_step hlt, hb]; simp
      rw [e] at h ⊢
      exact lastGo_hit (by omega) h
theorem lastGo_above {l : List Ver} {a : St} : ∀ {n : Nat}, n ≤ l.length → ∀ k (h : k < l.length), lastGo l a n < k → k < n → lessB a l[k].at_ = true
  | 0, _, k, _, _, h => absurd h (Nat.not_lt_zero _)
  | n + 1, hn, k, hk, h1, h2 => by
    have hlt : n < l.length := by omega
    rw [lastGo_step hlt] at h1
    cases hb : lessB a l[n].at_
    · rw [hb] at h1
      simp at h1
      omega
    · rw [hb] at h1
      simp at h1
      rcases Nat.lt_or_ge k n with h | h
      · exact lastGo_above (by omega) k hk h1 h
      · obtain rfl : k = n := by omega
        exact hb
theorem last_hit {l : List Ver} {a : St} (h : 0 ≤ lastF l a) : ∃ h : (lastF l a).toNat < l.length, lessB a l[(lastF l a).toNat].at_ = false := lastGo_hit (Nat.le_refl _) h
theorem last_above {l : List Ver} {a : St} (k : Nat) (h : k < l.length) (hk : lastF l a < k) : lessB a l[k].at_ = true := lastGo_above (Nat.le_refl _) k h hk h
theorem last_is {l : List Ver} {a : St} {j : Int} (h0 : -1 ≤ j) (h1 : j < l.length) (h2 : ∀ h : j.toNat < l.length, 0 ≤ j → lessB a l[j.toNat].at_ = false) (h3 : ∀ k (h : k < l.length), j < k → lessB a l[k].at_ = true) : lastF l a = j := by
  have hb := lastF_bd l a
  rcases Int.lt_trichotomy (lastF l a) j with h | h | h
  · have h4 := last_above (l := l) (a := a) j.toNat (by omega) (by omega)
    rw [h2 (by omega) (by omega)] at h4
    cases h4
  · exact h
  · obtain ⟨h4, h5⟩ := last_hit (l := l) (a := a) (by omega)
    have := h3 _ h4 (by omega)
    rw [h5] at this
    cases this
/-- What the program's put does. -/
theorem put_last_miss {l : List Ver} {v : Ver} (hs : SortV l) (hne : ∀ h : (lastF l v.at_).toNat < l.length, 0 ≤ lastF l v.at_ → l[(lastF l v.at_).toNat].at_ ≠ v.at_) :
    putF l v = l.take (lastF l v.at_ + 1).toNat ++ v :: l.drop (lastF l v.at_ + 1).toNat := by
  have hb := lastF_bd l v.at_
  refine put_at (by omega) (fun k h hk => ?_) (fun k h hk => last_above k h (by omega))
  obtain ⟨h1, h2⟩ := last_hit (l := l) (a := v.at_) (by omega)
  have h3 : lessB l[(lastF l v.at_).toNat].at_ v.at_ = true := by
    rcases less_or h2 with h | h
    · exact absurd h.symm (hne h1 (by omega))
    · exact h
  rcases Nat.lt_or_ge k (lastF l v.at_).toNat with h4 | h4
  · exact less_trans (List.pairwise_iff_getElem.1 hs k _ h h1 h4) h3
  · obtain rfl : k = (lastF l v.at_).toNat := by omega
    exact h3
theorem trim_ways (l : List Ver) (a : St) : (lastF l a = -1 ∧ trimI l a = 0) ∨ ∃ j, ∃ h : j < l.length, lastF l a = j ∧ lessB a l[j].at_ = false ∧ trimI l a = if l[j].drop then j + 1 else j := by
  have hb := lastF_bd l a
  rcases Int.lt_or_le (lastF l a) 0 with h | h
  · left
    refine ⟨by omega, ?_⟩
    unfold trimI
    rw [if_pos h]
  · right
    obtain ⟨h1, h2⟩ := last_hit h
    refine ⟨_, h1, by omega, h2, ?_⟩
    unfold trimI
    rw [if_neg (by omega), List.getElem?_eq_getElem h1]
    simp
theorem trim_trim (l : List Ver) (a : St) : trimV (trimV l a) a = trimV l a := by
  have key : trimI (trimV l a) a = 0 := by
    unfold trimV
    rcases trim_ways l a with ⟨e0, e⟩ | ⟨j, hj, e1, e2, e3⟩
    · rw [e, List.drop_zero, e]
    · cases hd : l[j].drop
      · rw [hd] at e3
        rw [e3, if_neg (by simp)]
        have hl : lastF (l.drop j) a = ((0 : Nat) : Int) := by
          refine last_is (by omega) (by simp; omega) (fun h _ => by simpa using e2) fun k h hk => ?_
          rw [List.getElem_drop]
          exact last_above _ _ (by omega)
        unfold trimI
        rw [hl]
        have : (l.drop j)[0]? = some l[j] := by simp [hj]
        simp [this, hd]
      · rw [hd] at e3
        rw [e3, if_pos rfl]
        have hl : lastF (l.drop (j + 1)) a = -1 := by
          refine last_is (by omega) (by omega) (fun h h0 => by omega) fun k h hk => ?_
          rw [List.getElem_drop]
          exact last_above _ _ (by omega)
        unfold trimI
        rw [hl]
        rfl
  have : ∀ m : List Ver, trimI m a = 0 → trimV m a = m := fun m h => by unfold trimV; rw [h, List.drop_zero]
  exact this _ key
end Go.Proofs.Ytoldelocfmpccaa
