/-
  A region that draws its order and whose operations make memory and call, but turn nothing that was there: one law for every order. What each operation leaves is told by a predicate that later worlds keep.
-/
import Derived.Test.YtpbekhcogpkbpaaDoorLib
import Derived.Orders
set_option linter.unusedSimpArgs false
set_option linter.unusedVariables false
namespace Go.Proofs.YtpbekhcogpkbpaaDoor

/-- Does o wait for operation j? -/
def waits (o : Oper) (j : Nat) : Bool := o.after.toList.any fun e => e.on == j && Region.binds .any e
/-- The slot of operation j. -/
def slotOf (ops : Array Oper) (j : Nat) : Nat := ((ops[j]?).bind (·.dst)).getD 0
/-- Whoever writes slot d waits for operation i. -/
def freeAt (ops : Array Oper) (i d : Nat) : Bool := ops.toList.all fun o => !(o.dst == some d) || waits o i
/-- Each edge leads back; each operation has a slot of its own. -/
def plainB (ops : Array Oper) : Bool :=
  (List.range ops.size).all fun i => ((ops[i]?).map fun o => o.after.all (fun e => decide (e.on < i) || !Region.binds .any e) && o.dst.isSome && (List.range i).all fun j => slotOf ops j != slotOf ops i).getD false

structure RegInv (ops : Array Oper) (φ : Nat → Value → World → Prop) (a0 : Act) (w0 : World) (listed : Array Bool) (a : Act) (w : World) : Prop where
  defers : a.defers = a0.defers
  size : a.tmps.size = a0.tmps.size
  same : Same (fun _ => True) w0 w
  kept : ∀ d, (∀ j o, ops[j]? = some o → listed.getD j true = true → o.dst ≠ some d) → a.tmps[d]? = a0.tmps[d]?
  done : ∀ j, j < ops.size → listed.getD j true = true → φ j (a.tmps.getD (slotOf ops j) undef) w
  down : ∀ j o e, ops[j]? = some o → listed.getD j true = true → e ∈ o.after → Region.binds .any e = true → listed.getD e.on true = true

theorem getD_put (a : Act) (d k : Nat) (v : Value) (h : d < a.tmps.size) : (a.put (some d) v).tmps.getD k undef = if d = k then v else a.tmps.getD k undef := by
  simp only [Act.put, Array.getD_eq_getD_getElem?, Array.getElem?_setIfInBounds]
  split
  · rename_i e; subst e; simp [h]
  · rfl

theorem getD_two {l : Array Bool} {j : Nat} (h : l.getD j false = true) : l.getD j true = true := by
  simp only [Array.getD_eq_getD_getElem?] at h ⊢
  cases hj : l[j]? with
  | none => rw [hj] at h; cases h
  | some b => rw [hj] at h; exact h
theorem getD_one {l : Array Bool} {j : Nat} (hj : j < l.size) (h : l.getD j true = true) : l.getD j false = true := by
  simp only [Array.getD_eq_getD_getElem?, Array.getElem?_eq_getElem hj, Option.getD_some] at h ⊢
  exact h
theorem count_less {n i fuel : Nat} {p p' : Nat → Bool} (hi : i < n) (hpi : p i = true) (hp' : ∀ j, p' j = (p j && j != i)) (h : ((List.range n).filter p).length = fuel + 1) : ((List.range n).filter p').length = fuel := by
  have e : (List.range n).filter p' = ((List.range n).filter p).erase i := by
    rw [List.Nodup.erase_eq_filter (List.Pairwise.filter _ List.nodup_range), List.filter_filter]
    apply List.filter_congr
    intro j _
    rw [hp' j, Bool.and_comm]
  rw [e, List.length_erase_of_mem (List.mem_filter.2 ⟨List.mem_range.2 hi, hpi⟩), h]
  rfl

section
variable {P : Program} {ops : Array Oper} {φ : Nat → Value → World → Prop} {a0 : Act} {w0 : World} {Q : Exit → Act → World → Prop}

theorem slot_of {i : Nat} {o : Oper} {d : Nat} (ho : ops[i]? = some o) (hd : o.dst = some d) : slotOf ops i = d := by simp [slotOf, ho, hd]

theorem plain_at (hp : plainB ops = true) {i : Nat} {o : Oper} (ho : ops[i]? = some o) :
    (∀ e ∈ o.after, Region.binds .any e = true → e.on < i) ∧ (∃ d, o.dst = some d) ∧ ∀ j, j < i → slotOf ops j ≠ slotOf ops i := by
  have hi : i < ops.size := (Array.getElem?_eq_some_iff.1 ho).1
  have h := List.all_eq_true.1 hp i (List.mem_range.2 hi)
  rw [ho] at h
  simp only [Option.map_some, Option.getD_some, Bool.and_eq_true, Array.all_eq_true_iff_forall_mem, decide_eq_true_eq, List.all_eq_true, List.mem_range, bne_iff_ne, ne_eq] at h
  obtain ⟨⟨h1, h2⟩, h3⟩ := h
  refine ⟨fun e he hb => ?_, Option.isSome_iff_exists.1 h2, h3⟩
  have := h1 e he
  simpa [hb] using this

/-- One more operation is done. -/
theorem RegInv.step (hp : plainB ops = true) (hstab : ∀ i v w w', φ i v w → Same (fun _ => True) w w' → φ i v w') (hsz : ∀ (i : Nat) (o : Oper) (d : Nat), ops[i]? = some o → o.dst = some d → d < a0.tmps.size)
    {listed : Array Bool} {a : Act} {w w' : World} {i : Nat} {o : Oper} {v : Value} (hl : listed.size = ops.size) (ho : ops[i]? = some o) (hni : listed.getD i true = false) (hr : ∀ e ∈ o.after, Region.binds .any e = true → listed.getD e.on true = true)
    (h : RegInv ops φ a0 w0 listed a w) (hs : Same (fun _ => True) w w') (hv : φ i v w') : RegInv ops φ a0 w0 (listed.setIfInBounds i true) (a.put o.dst v) w' := by
  have hi : i < ops.size := (Array.getElem?_eq_some_iff.1 ho).1
  obtain ⟨hback, ⟨d, hd⟩, hdist⟩ := plain_at hp ho
  have hdl : d < a.tmps.size := by rw [h.size]; exact hsz i o d ho hd
  have hset : ∀ j, (listed.setIfInBounds i true).getD j true = if i = j then true else listed.getD j true := by
    intro j
    simp only [Array.getD_eq_getD_getElem?, Array.getElem?_setIfInBounds]
    split
    · rename_i e; subst e; simp [hl, hi]
    · rfl
  have hne : ∀ j, j < ops.size → j ≠ i → slotOf ops j ≠ d := by
    intro j hj hji e
    obtain ⟨oj, hoj⟩ : ∃ oj, ops[j]? = some oj := ⟨_, Array.getElem?_eq_getElem hj⟩
    have hsi := slot_of ho hd
    rcases Nat.lt_or_gt_of_ne hji with hlt | hgt
    · exact hdist j hlt (by rw [hsi]; exact e)
    · exact (plain_at hp hoj).2.2 i hgt (by rw [hsi]; exact e.symm)
  refine ⟨by rw [hd]; exact h.defers, by rw [hd]; simp [Act.put]; exact h.size, h.same.trans hs, ?_, ?_, ?_⟩
  · intro k hk
    have hkd : d ≠ k := by
      intro e
      exact hk i o ho (by rw [hset, if_pos rfl]) (by rw [hd, e])
    have : (a.put o.dst v).tmps[k]? = a.tmps[k]? := by
      rw [hd]
      simp only [Act.put, Array.getElem?_setIfInBounds, if_neg hkd]
    rw [this]
    refine h.kept k fun j oj hoj hlj => hk j oj hoj ?_
    rw [hset]; split
    · rfl
    · exact hlj
  · intro j hj hlj
    rw [hset] at hlj
    rw [hd, getD_put _ _ _ _ hdl]
    by_cases hij : i = j
    · subst hij
      rw [if_pos (slot_of ho hd).symm]
      exact hv
    · rw [if_neg hij] at hlj
      rw [if_neg (fun e => hne j hj (fun e' => hij e'.symm) e.symm)]
      exact hstab _ _ _ _ (h.done j hj hlj) hs
  · intro j oj e hoj hlj he hb
    rw [hset] at hlj ⊢
    split
    · rfl
    · by_cases hij : i = j
      · subst hij
        rw [ho] at hoj
        injection hoj with hoj
        subst hoj
        exact hr e he hb
      · rw [if_neg hij] at hlj
        exact h.down j oj e hoj hlj he hb

/-- What an operation is shown to do: it leaves a value that its predicate tells, and a world that keeps all. -/
def OpDoes (P : Program) (ops : Array Oper) (φ : Nat → Value → World → Prop) (a0 : Act) (w0 : World) (Q : Exit → Act → World → Prop) (i : Nat) (o : Oper) : Prop :=
  ∀ (a : Act) (w : World), Same (fun _ => True) w0 w → a.defers = a0.defers → a.tmps.size = a0.tmps.size →
    (∀ d, freeAt ops i d = true → a.tmps.getD d undef = a0.tmps.getD d undef) →
    (∀ j, waits o j = true → φ j (a.tmps.getD (slotOf ops j) undef) w) →
    ∀ K : Act → World → Prop, (∀ v w', φ i v w' → Same (fun _ => True) w w' → K (a.put o.dst v) w') →
      if Region.wanted o (yielded ops a.tmps) = true then Oper.wp P o a w K Q else K (a.put o.dst undef) w

theorem wpAny_rel (hp : plainB ops = true) (hstab : ∀ i v w w', φ i v w → Same (fun _ => True) w w' → φ i v w') (hsz : ∀ (i : Nat) (o : Oper) (d : Nat), ops[i]? = some o → o.dst = some d → d < a0.tmps.size)
    (hstep : ∀ i o, ops[i]? = some o → OpDoes P ops φ a0 w0 Q i o)
    (hend : ∀ a w, Same (fun _ => True) w0 w → a.defers = a0.defers → a.tmps.size = a0.tmps.size → (∀ d, (∀ j, j < ops.size → slotOf ops j ≠ d) → a.tmps.getD d undef = a0.tmps.getD d undef) →
      (∀ j, j < ops.size → φ j (a.tmps.getD (slotOf ops j) undef) w) → Q .normal a w) :
    ∀ (fuel : Nat) (listed : Array Bool) (a : Act) (w : World), listed.size = ops.size → ((List.range ops.size).filter fun i => !listed.getD i true).length = fuel →
      RegInv ops φ a0 w0 listed a w → wpAny P .any ops Q fuel listed a w := by
  have ready_nil : ∀ listed : Array Bool, listed.size = ops.size → Region.ready .any ops listed = [] → ∀ i, i < ops.size → listed.getD i true = true := by
    intro listed hlz hr i
    induction i using Nat.strongRecOn with
    | _ i ih =>
      intro hi
      cases hli : listed.getD i true with
      | true => rfl
      | false =>
        exfalso
        obtain ⟨o, ho⟩ : ∃ o, ops[i]? = some o := ⟨_, Array.getElem?_eq_getElem hi⟩
        have : i ∈ Region.ready .any ops listed := by
          unfold Region.ready
          rw [List.mem_filter]
          refine ⟨List.mem_range.2 hi, ?_⟩
          rw [ho, hli]
          simp only [Bool.not_false, Bool.true_and, Option.map_some, Option.getD_some, Array.all_eq_true_iff_forall_mem]
          intro e he
          by_cases hb : Region.binds .any e = true
          · have hlt := (plain_at hp ho).1 e he hb
            have hz : listed.getD e.on false = true := by
              exact getD_one (by omega) (ih e.on hlt (by omega))
            rw [hz]; simp
          · simp [hb]
        rw [hr] at this
        cases this
  have fin : ∀ (listed : Array Bool) (a : Act) (w : World), listed.size = ops.size → Region.ready .any ops listed = [] → RegInv ops φ a0 w0 listed a w → Q .normal a w := by
    intro listed a w hlz hr h
    have hall := ready_nil listed hlz hr
    refine hend a w h.same h.defers h.size (fun d hd => ?_) (fun j hj => h.done j hj (hall j hj))
    have := h.kept d fun j o ho _ e => hd j (Array.getElem?_eq_some_iff.1 ho).1 (slot_of ho e)
    simp [Array.getD_eq_getD_getElem?, this]
  intro fuel
  induction fuel with
  | zero =>
    intro listed a w hl hc h
    have hr : Region.ready .any ops listed = [] := by
      unfold Region.ready
      rw [List.filter_eq_nil_iff]
      intro i hi hh
      have hf := List.eq_nil_of_length_eq_zero hc
      rw [List.filter_eq_nil_iff] at hf
      have := hf i hi
      simp only [Bool.and_eq_true] at hh
      exact this hh.1
    exact ⟨hr, fin listed a w hl hr h⟩
  | succ fuel ih =>
    intro listed a w hl hc h
    refine ⟨fun hr => fin listed a w hl hr h, fun i hi => ?_⟩
    unfold Region.ready at hi
    rw [List.mem_filter] at hi
    obtain ⟨hi, hrd⟩ := hi
    have hi := List.mem_range.1 hi
    obtain ⟨o, ho⟩ : ∃ o, ops[i]? = some o := ⟨_, Array.getElem?_eq_getElem hi⟩
    rw [ho] at hrd
    simp only [Bool.and_eq_true, Bool.not_eq_true', Option.map_some, Option.getD_some, Array.all_eq_true_iff_forall_mem] at hrd
    obtain ⟨hni, hrd⟩ := hrd
    have hrr : ∀ e ∈ o.after, Region.binds .any e = true → listed.getD e.on true = true := by
      intro e he hb
      have := hrd e he
      rw [hb] at this
      exact getD_two (by simpa using this)
    refine wpOp_step ho fun K hK => ?_
    refine hstep i o ho a w h.same h.defers h.size (fun d hd => ?_) (fun j hj => ?_) K (fun v w' hv hs => hK _ _ ?_)
    · have : a.tmps[d]? = a0.tmps[d]? := by
        refine h.kept d fun j oj hoj hlj e => ?_
        have hm : oj ∈ ops.toList := by
          rw [Array.mem_toList_iff]
          exact Array.mem_of_getElem? hoj
        have := List.all_eq_true.1 hd oj hm
        simp only [e, beq_self_eq_true, Bool.not_true, Bool.false_or, waits, List.any_eq_true, Bool.and_eq_true, beq_iff_eq, Array.mem_toList_iff] at this
        obtain ⟨ed, h1, h2, h3⟩ := this
        have := h.down j oj ed hoj hlj h1 h3
        rw [h2, hni] at this
        cases this
      simp [Array.getD_eq_getD_getElem?, this]
    · simp only [waits, List.any_eq_true, Bool.and_eq_true, beq_iff_eq, Array.mem_toList_iff] at hj
      obtain ⟨e, he, h2, h3⟩ := hj
      have hlt := (plain_at hp ho).1 e he h3
      exact h.done j (by omega) (by rw [← h2]; exact hrr e he h3)
    · refine ih _ _ _ (by simpa using hl) ?_ (RegInv.step hp hstab hsz hl ho hni hrr h hs hv)
      refine count_less (i := i) (p := fun i => !listed.getD i true) hi (by rw [hni]; rfl) (fun j => ?_) hc
      simp only [Array.getD_eq_getD_getElem?, Array.getElem?_setIfInBounds]
      by_cases hij : i = j
      · subst hij
        have : i < listed.size := by omega
        simp [this]
      · rw [if_neg hij]
        have : (j != i) = true := by simpa using fun e : j = i => hij e.symm
        rw [this, Bool.and_true]

theorem wp_region_rel {id : Nat} (hm : P.follows .mixedOrders = true) (hp : plainB ops = true) (hstab : ∀ i v w w', φ i v w → Same (fun _ => True) w w' → φ i v w') (hsz : (ops.toList.all fun o => (o.dst.map fun d => decide (d < a0.tmps.size)).getD true) = true)
    (hstep : ∀ i o, ops[i]? = some o → OpDoes P ops φ a0 w0 Q i o)
    (hend : ∀ a w, Same (fun _ => True) w0 w → a.defers = a0.defers → a.tmps.size = a0.tmps.size → (∀ d, (∀ j, j < ops.size → slotOf ops j ≠ d) → a.tmps.getD d undef = a0.tmps.getD d undef) →
      (∀ j, j < ops.size → φ j (a.tmps.getD (slotOf ops j) undef) w) → Q .normal a w) : (Code.region id ops true).wp P Q a0 w0 := by
  refine wp_region_any hm (wpAny_rel hp hstab (fun i o d ho hd => ?_) hstep hend ops.size _ a0 _ (by simp) ?_ ?_)
  · have hmem : o ∈ ops.toList := by rw [Array.mem_toList_iff]; exact Array.mem_of_getElem? ho
    have := List.all_eq_true.1 hsz o hmem
    rw [hd] at this
    simpa using this
  · have : ((List.range ops.size).filter fun i => !(Array.replicate ops.size false).getD i true) = List.range ops.size := by
      rw [List.filter_eq_self]
      intro i hi
      have := List.mem_range.1 hi
      simp [Array.getD_eq_getD_getElem?, this]
    rw [this, List.length_range]
  · refine ⟨rfl, rfl, (Same.refl _ _).drew, fun _ _ => rfl, fun j hj h => ?_, fun j o e ho h => ?_⟩
    · simp [Array.getD_eq_getD_getElem?, hj] at h
    · have hj := (Array.getElem?_eq_some_iff.1 ho).1
      simp [Array.getD_eq_getD_getElem?, hj] at h
end

/-- A predicate on a value that later worlds keep. -/
structure SP where
  p : Value → World → Prop
  st : ∀ v w w', p v w → Same (fun _ => True) w w' → p v w'
def SP.any : SP := ⟨fun _ _ => True, fun _ _ _ _ _ => trivial⟩
def SP.eq (u : Value) : SP := ⟨fun v _ => v = u, fun _ _ _ h _ => h⟩
def SP.by (S : Nat → Prop) (bs : List UInt8) : SP := ⟨fun v w => By w S v bs, fun _ _ _ h k => h.keepAll k⟩
def SP.byl (S : Nat → Prop) (l : List (List UInt8)) : SP := ⟨fun v w => ByL w S v l, fun _ _ _ h k => h.keepAll k⟩
def phi (L : List SP) (i : Nat) (v : Value) (w : World) : Prop := (L.getD i SP.any).p v w
theorem phi_st (L : List SP) : ∀ i v w w', phi L i v w → Same (fun _ => True) w w' → phi L i v w' := fun i v w w' h k => (L.getD i SP.any).st v w w' h k

/-- Each of the operations, one by one. -/
def OpsDo (P : Program) (ops : Array Oper) (φ : Nat → Value → World → Prop) (a0 : Act) (w0 : World) (Q : Exit → Act → World → Prop) : Nat → List Oper → Prop
  | _, [] => True
  | k, o :: l => OpDoes P ops φ a0 w0 Q k o ∧ OpsDo P ops φ a0 w0 Q (k + 1) l
theorem OpsDo.nil {P : Program} {ops : Array Oper} {φ : Nat → Value → World → Prop} {a0 : Act} {w0 : World} {Q : Exit → Act → World → Prop} {k : Nat} : OpsDo P ops φ a0 w0 Q k [] := trivial
theorem OpsDo.cons {P : Program} {ops : Array Oper} {φ : Nat → Value → World → Prop} {a0 : Act} {w0 : World} {Q : Exit → Act → World → Prop} {k : Nat} {o : Oper} {l : List Oper} (h : OpDoes P ops φ a0 w0 Q k o) (h' : OpsDo P ops φ a0 w0 Q (k + 1) l) : OpsDo P ops φ a0 w0 Q k (o :: l) := ⟨h, h'⟩
theorem OpsDo.at_ {P : Program} {ops : Array Oper} {φ : Nat → Value → World → Prop} {a0 : Act} {w0 : World} {Q : Exit → Act → World → Prop} : ∀ (l : List Oper) (k : Nat), OpsDo P ops φ a0 w0 Q k l → ∀ i o, l[i]? = some o → OpDoes P ops φ a0 w0 Q (k + i) o
  | [], _, _, i, o, h => by simp at h
  | o' :: l, k, h, 0, o, ho => by simp at ho; subst ho; exact h.1
  | o' :: l, k, h, i + 1, o, ho => by
    have := OpsDo.at_ l (k + 1) h.2 i o (by simpa using ho)
    rwa [show k + (i + 1) = k + 1 + i from by omega]

/-- The same law, the operations written out. -/
theorem wp_region_rel_lit {P : Program} {l : List Oper} {L : List SP} {a0 : Act} {w0 : World} {Q : Exit → Act → World → Prop} {id : Nat} (hm : P.follows .mixedOrders = true) (hp : plainB l.toArray = true)
    (hsz : (l.all fun o => (o.dst.map fun d => decide (d < a0.tmps.size)).getD true) = true)
    (hstep : OpsDo P l.toArray (phi L) a0 w0 Q 0 l)
    (hend : ∀ a w, Same (fun _ => True) w0 w → a.defers = a0.defers → a.tmps.size = a0.tmps.size → (∀ d, (l.all fun o => o.dst != some d) = true → a.tmps.getD d undef = a0.tmps.getD d undef) →
      (∀ j, j < l.length → phi L j (a.tmps.getD (slotOf l.toArray j) undef) w) → Q .normal a w) : (Code.region id l.toArray true).wp P Q a0 w0 := by
  refine wp_region_rel (φ := phi L) hm hp (phi_st L) (by simpa using hsz) (fun i o ho => ?_) (fun a w h1 h2 h3 h4 h5 => hend a w h1 h2 h3 (fun d hd => h4 d fun j hj e => ?_) (fun j hj => h5 j (by simpa using hj)))
  · have := OpsDo.at_ l 0 hstep i o (by simpa using ho)
    rwa [Nat.zero_add] at this
  · have hj' : j < l.length := by simpa using hj
    have hd' := List.all_eq_true.1 hd l[j] (List.getElem_mem hj')
    obtain ⟨d', hd2⟩ := (plain_at hp (i := j) (o := l[j]) (by simp [hj'])).2.1
    have : slotOf l.toArray j = d' := slot_of (by simp [hj']) hd2
    rw [hd2] at hd'
    rw [this] at e
    subst e
    simp at hd'

/-- Whether a guarded operation runs. -/
theorem wanted_at {ops : Array Oper} {o : Oper} {a : Act} {j d : Nat} {b want : Bool} (hg : o.guard = some (j, want)) (ho : (ops[j]?).bind (·.dst) = some d) (hd : d < a.tmps.size) (e : a.eval (.tmp d) = .bool b) :
    Region.wanted o (yielded ops a.tmps) = (some b == some want) := by
  have hy : yielded ops a.tmps j = some b := by
    unfold yielded
    rw [ho]
    have h1 : a.tmps[d]? = some (.bool b) := by
      have : a.tmps.getD d undef = .bool b := e
      rw [Array.getD_eq_getD_getElem?, Array.getElem?_eq_getElem hd] at this
      rw [Array.getElem?_eq_getElem hd]
      simpa using this
    simp [h1]
  unfold Region.wanted
  rw [hg]
  simp [hy]
theorem run_wanted {ops : Array Oper} {o : Oper} {a : Act} {j d n : Nat} {b : Bool} {A B : Prop} (hg : o.guard = some (j, b)) (ho : (ops[j]?).bind (·.dst) = some d) (hn : a.tmps.size = n) (hd : d < n) (e : a.eval (.tmp d) = .bool b) (h : A) :
    if Region.wanted o (yielded ops a.tmps) = true then A else B := by
  rw [wanted_at hg ho (by omega) e, if_pos (by simp)]
  exact h
theorem skip_wanted {ops : Array Oper} {o : Oper} {a : Act} {j d n : Nat} {b : Bool} {A B : Prop} (hg : o.guard = some (j, !b)) (ho : (ops[j]?).bind (·.dst) = some d) (hn : a.tmps.size = n) (hd : d < n) (e : a.eval (.tmp d) = .bool b) (h : B) :
    if Region.wanted o (yielded ops a.tmps) = true then A else B := by
  rw [wanted_at hg ho (by omega) e, if_neg (by cases b <;> simp)]
  exact h
end Go.Proofs.YtpbekhcogpkbpaaDoor
