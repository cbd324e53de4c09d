/-
  A drawn region whose last operations come in one order behind all the others: the others are told by predicates (they make memory and call, but turn nothing that was there), the last ones are walked. One of the others (number d) may also come behind the first of the last ones.
-/
import Derived.Test.YtpbekhcogpkbpaaDoorReg4
import Derived.StillTail
set_option linter.unusedSimpArgs false
set_option linter.unusedVariables false
namespace Go.Proofs.YtpbekhcogpkbpaaDoor

/-- The first n operations: each edge leads back; each has a slot of its own. -/
def plainN (ops : Array Oper) (n : Nat) : Bool :=
  (List.range n).all fun i => ((ops[i]?).map fun o => o.after.all (fun e => decide (e.on < i) || !Region.binds .any e) && o.dst.isSome && (List.range n).all fun j => decide (j = i) || slotOf ops j != slotOf ops i).getD false
/-- Does operation i wait for j? -/
def waitsAt (ops : Array Oper) (i j : Nat) : Bool := ((ops[i]?).map fun o => waits o j).getD false
/-- .. through others, too. -/
def reachB (ops : Array Oper) : Nat → Nat → Nat → Bool
  | 0, t, i => waitsAt ops t i
  | f + 1, t, i => waitsAt ops t i || (List.range ops.size).any fun j => waitsAt ops t j && reachB ops f j i
/-- The later operations wait for the first n, but d. -/
def lateB (ops : Array Oper) (n d : Nat) : Bool :=
  (List.range ops.size).all fun t => decide (t < n) || (List.range n).all fun i => decide (i = d) || reachB ops 6 t i
/-- What is listed when the first n are done, but d. -/
def headArr (s n d : Nat) : Array Bool := ((List.range s).map fun j => decide (j < n) && decide (j ≠ d)).toArray
def tailB (ops : Array Oper) (n d : Nat) : Bool :=
  decide (n < ops.size) && plainN ops n && lateB ops n d && Region.seqB .any ops (ops.size - n) n (headArr ops.size n ops.size) &&
    (decide (n ≤ d) || (decide (Region.ready .any ops (headArr ops.size n d) = [d, n]) && decide (Region.ready .any ops ((headArr ops.size n d).setIfInBounds n true) = [d]) &&
      Region.seqB .any ops (ops.size - n - 1) (n + 1) (((headArr ops.size n d).setIfInBounds n true).setIfInBounds d true)))

/-- What the operations' slots hold. -/
def valsOf (ops : Array Oper) (a : Act) (k : Nat) : Value := a.tmps.getD (slotOf ops k) undef
/-- What an operation is shown to do; its predicate may speak of the values of those that it waits for, too. -/
def OpDoes2 (P : Program) (ops : Array Oper) (φ : Nat → (Nat → Value) → World → Prop) (a0 : Act) (w0 : World) (Q : Exit → Act → World → Prop) (i : Nat) (o : Oper) : Prop :=
  ∀ (a : Act) (w : World), Same (fun _ => True) w0 w → a.defers = a0.defers → a.tmps.size = a0.tmps.size →
    (∀ d, freeAt ops i d = true → a.tmps.getD d undef = a0.tmps.getD d undef) →
    (∀ j, waits o j = true → φ j (valsOf ops a) w) →
    ∀ K : Act → World → Prop, (∀ v w', (∀ u, u i = v → (∀ j, waits o j = true → u j = valsOf ops a j) → φ i u w') → Same (fun _ => True) w w' → K (a.put o.dst v) w') →
      if Region.wanted o (yielded ops a.tmps) = true then Oper.wp P o a w K Q else K (a.put o.dst undef) w
structure RegInvN (ops : Array Oper) (n : Nat) (φ : Nat → (Nat → Value) → World → Prop) (a0 : Act) (w0 : World) (listed : Array Bool) (a : Act) (w : World) : Prop where
  defers : a.defers = a0.defers
  size : a.tmps.size = a0.tmps.size
  same : Same (fun _ => True) w0 w
  kept : ∀ d, (∀ j o, ops[j]? = some o → listed.getD j true = true → o.dst ≠ some d) → a.tmps[d]? = a0.tmps[d]?
  done : ∀ j, j < n → listed.getD j true = true → φ j (valsOf ops a) w
  down : ∀ j o e, ops[j]? = some o → listed.getD j true = true → e ∈ o.after → Region.binds .any e = true → listed.getD e.on true = true
  tail : ∀ t, n ≤ t → t < ops.size → listed.getD t true = false

section
variable {P : Program} {ops : Array Oper} {n : Nat} {φ : Nat → (Nat → Value) → World → Prop} {a0 : Act} {w0 : World} {Q : Exit → Act → World → Prop}

theorem plainN_at (hp : plainN ops n = true) {i : Nat} {o : Oper} (hi : i < n) (ho : ops[i]? = some o) :
    (∀ e ∈ o.after, Region.binds .any e = true → e.on < i) ∧ (∃ d, o.dst = some d) ∧ ∀ j, j < n → j ≠ i → slotOf ops j ≠ slotOf ops i := by
  have h := List.all_eq_true.1 hp i (List.mem_range.2 hi)
  rw [ho] at h
  simp only [Option.map_some, Option.getD_some, Bool.and_eq_true, Array.all_eq_true_iff_forall_mem, List.all_eq_true, List.mem_range] at h
  obtain ⟨⟨h1, h2⟩, h3⟩ := h
  refine ⟨fun e he hb => ?_, Option.isSome_iff_exists.1 h2, fun j hj hne => ?_⟩
  · have := h1 e he
    simpa [hb] using this
  · have := h3 j hj
    simpa [hne] using this
theorem set_getD {listed : Array Bool} {i : Nat} (hi : i < listed.size) (j : Nat) : (listed.setIfInBounds i true).getD j true = if i = j then true else listed.getD j true := by
  simp only [Array.getD_eq_getD_getElem?, Array.getElem?_setIfInBounds]
  split
  · rename_i e; subst e; simp [hi]
  · rfl
/-- One more of the first operations is done. -/
theorem RegInvN.step (hp : plainN ops n = true) (hstab : ∀ i v w w', φ i v w → Same (fun _ => True) w w' → φ i v w') (hdep : ∀ i u v w, φ i u w → u i = v i → (∀ j, waitsAt ops i j = true → u j = v j) → φ i v w) (hsz : ∀ (i : Nat) (o : Oper) (d : Nat), ops[i]? = some o → o.dst = some d → d < a0.tmps.size)
    {listed : Array Bool} {a : Act} {w w' : World} {i : Nat} {o : Oper} {v : Value} (hl : listed.size = ops.size) (hin : i < n) (ho : ops[i]? = some o) (hni : listed.getD i true = false) (hr : ∀ e ∈ o.after, Region.binds .any e = true → listed.getD e.on true = true)
    (h : RegInvN ops n φ a0 w0 listed a w) (hs : Same (fun _ => True) w w') (hv : ∀ u, u i = v → (∀ j, waits o j = true → u j = valsOf ops a j) → φ i u w') : RegInvN ops n φ a0 w0 (listed.setIfInBounds i true) (a.put o.dst v) w' := by
  have hi : i < ops.size := (Array.getElem?_eq_some_iff.1 ho).1
  obtain ⟨hback, ⟨d, hd⟩, hdist⟩ := plainN_at hp hin ho
  have hdl : d < a.tmps.size := by rw [h.size]; exact hsz i o d ho hd
  have hset := set_getD (listed := listed) (i := i) (by omega)
  refine ⟨by rw [hd]; exact h.defers, by rw [hd]; simp [Act.put]; exact h.size, h.same.trans hs, ?_, ?_, ?_, ?_⟩
  · intro k hk
    have hkd : d ≠ k := by
      intro e
      exact hk i o ho (by rw [hset, if_pos rfl]) (by rw [hd, e])
    have : (a.put o.dst v).tmps[k]? = a.tmps[k]? := by
      rw [hd]
      simp only [Act.put, Array.getElem?_setIfInBounds, if_neg hkd]
    rw [this]
    refine h.kept k fun j oj hoj hlj => hk j oj hoj ?_
    rw [hset]; split
    · rfl
    · exact hlj
  · intro j hj hlj
    rw [hset] at hlj
    have hval : ∀ k, k < n → k ≠ i → valsOf ops (a.put o.dst v) k = valsOf ops a k := fun k hk hki => by
      unfold valsOf
      rw [hd, getD_put _ _ _ _ hdl, if_neg (fun e => hdist k hk hki (by rw [slot_of ho hd]; exact e.symm))]
    by_cases hij : i = j
    · subst hij
      refine hv _ ?_ fun k hk => ?_
      · unfold valsOf
        rw [hd, getD_put _ _ _ _ hdl, if_pos (slot_of ho hd).symm]
      · simp only [waits, List.any_eq_true, Bool.and_eq_true, beq_iff_eq, Array.mem_toList_iff] at hk
        obtain ⟨e, he, h2, h3⟩ := hk
        have := hback e he h3
        exact hval k (by omega) (by omega)
    · rw [if_neg hij] at hlj
      refine hstab _ _ _ _ (hdep _ _ _ _ (h.done j hj hlj) (hval j hj fun e => hij e.symm).symm fun k hk => ?_) hs
      obtain ⟨oj, hoj⟩ : ∃ oj, ops[j]? = some oj := by
        cases e : ops[j]? with
        | none => simp [waitsAt, e] at hk
        | some oj => exact ⟨oj, rfl⟩
      simp only [waitsAt, hoj, Option.map_some, Option.getD_some, waits, List.any_eq_true, Bool.and_eq_true, beq_iff_eq, Array.mem_toList_iff] at hk
      obtain ⟨e, he, h2, h3⟩ := hk
      have hk1 := (plainN_at hp hj hoj).1 e he h3
      refine (hval k (by omega) fun e' => ?_).symm
      have := h.down j oj e hoj hlj he h3
      rw [h2, e', hni] at this
      cases this
  · intro j oj e hoj hlj he hb
    rw [hset] at hlj ⊢
    split
    · rfl
    · by_cases hij : i = j
      · subst hij
        rw [ho] at hoj
        injection hoj with hoj
        subst hoj
        exact hr e he hb
      · rw [if_neg hij] at hlj
        exact h.down j oj e hoj hlj he hb
  · intro t ht hts
    rw [hset, if_neg (by omega)]
    exact h.tail t ht hts
theorem headArr_at {s k d j : Nat} (hj : j < s) : (headArr s k d).getD j true = (decide (j < k) && decide (j ≠ d)) := by
  simp [headArr, Array.getD_eq_getD_getElem?, hj]
theorem headArr_eq {listed : Array Bool} {s k d : Nat} (hs : listed.size = s) (h : ∀ j, j < s → listed.getD j true = (decide (j < k) && decide (j ≠ d))) : listed = headArr s k d := by
  apply Array.ext
  · simp [headArr, hs]
  · intro i h1 h2
    have := h i (by omega)
    rw [Array.getD_eq_getD_getElem?, Array.getElem?_eq_getElem h1, Option.getD_some] at this
    rw [this]
    simp [headArr]
/-- The ending's obligations. -/
structure TailDoes (P : Program) (l : List Oper) (n d : Nat) (φ : Nat → (Nat → Value) → World → Prop) (a0 : Act) (w0 : World) (Q : Exit → Act → World → Prop) : Prop where
  all : ∀ a w, Same (fun _ => True) w0 w → a.defers = a0.defers → a.tmps.size = a0.tmps.size → (∀ k, (∀ j, j < n → slotOf l.toArray j ≠ k) → a.tmps.getD k undef = a0.tmps.getD k undef) →
    (∀ j, j < n → φ j (valsOf l.toArray a) w) → wpList P l.toArray Q (l.drop n) a w
  but : ∀ od on, l[d]? = some od → l[n]? = some on → ∀ a w, Same (fun _ => True) w0 w → a.defers = a0.defers → a.tmps.size = a0.tmps.size → (∀ k, (∀ j, j < n → j ≠ d → slotOf l.toArray j ≠ k) → a.tmps.getD k undef = a0.tmps.getD k undef) →
    (∀ j, j < n → j ≠ d → φ j (valsOf l.toArray a) w) → wpList P l.toArray Q (on :: od :: l.drop (n + 1)) a w

theorem wpAny_tail {l : List Oper} {d : Nat} (hB : tailB l.toArray n d = true) (hstab : ∀ i v w w', φ i v w → Same (fun _ => True) w w' → φ i v w') (hdep : ∀ i u v w, φ i u w → u i = v i → (∀ j, waitsAt l.toArray i j = true → u j = v j) → φ i v w) (hsz : ∀ (i : Nat) (o : Oper) (d : Nat), l.toArray[i]? = some o → o.dst = some d → d < a0.tmps.size)
    (hstep : ∀ i o, i < n → l.toArray[i]? = some o → OpDoes2 P l.toArray φ a0 w0 Q i o) (hend : TailDoes P l n d φ a0 w0 Q) :
    ∀ (fuel : Nat) (listed : Array Bool) (a : Act) (w : World), listed.size = l.toArray.size → ((List.range n).filter fun i => !listed.getD i true).length = fuel →
      RegInvN l.toArray n φ a0 w0 listed a w → wpAny P .any l.toArray Q (fuel + (l.toArray.size - n)) listed a w := by
  simp only [tailB, Bool.and_eq_true, decide_eq_true_eq, Bool.or_eq_true] at hB
  obtain ⟨⟨⟨⟨hn, hp⟩, hlate⟩, hseq⟩, hd⟩ := hB
  have hlen : l.toArray.size = l.length := by simp
  have late : ∀ t, n ≤ t → t < l.toArray.size → ∀ i, i < n → i ≠ d → reachB l.toArray 6 t i = true := by
    intro t ht hts i hi hid
    have h := List.all_eq_true.1 hlate t (List.mem_range.2 hts)
    simp only [Bool.or_eq_true, decide_eq_true_eq, List.all_eq_true, List.mem_range] at h
    rcases h with h | h
    · omega
    · exact (h i hi).resolve_left hid
  have reach : ∀ {listed : Array Bool} {a : Act} {w : World}, RegInvN l.toArray n φ a0 w0 listed a w → ∀ (f t i : Nat), (∀ ot, l.toArray[t]? = some ot → ∀ e ∈ ot.after, Region.binds .any e = true → listed.getD e.on true = true) → reachB l.toArray f t i = true → listed.getD i true = true := by
    intro listed a w h f
    have one : ∀ t i, (∀ ot, l.toArray[t]? = some ot → ∀ e ∈ ot.after, Region.binds .any e = true → listed.getD e.on true = true) → waitsAt l.toArray t i = true → listed.getD i true = true := by
      intro t i ht hw
      obtain ⟨ot, hot⟩ : ∃ ot, l.toArray[t]? = some ot := by
        cases e : l.toArray[t]? with
        | none => simp [waitsAt, e] at hw
        | some ot => exact ⟨ot, rfl⟩
      simp only [waitsAt, hot, Option.map_some, Option.getD_some, waits, List.any_eq_true, Bool.and_eq_true, beq_iff_eq, Array.mem_toList_iff] at hw
      obtain ⟨e, he, h2, h3⟩ := hw
      rw [← h2]
      exact ht ot hot e he h3
    induction f with
    | zero => exact one
    | succ f ihf =>
      intro t i ht hr
      simp only [reachB, Bool.or_eq_true, List.any_eq_true, List.mem_range, Bool.and_eq_true] at hr
      rcases hr with hr | ⟨j, hj, h1, h2⟩
      · exact one t i ht hr
      · exact ihf j i (fun oj hoj e he hb => h.down j oj e hoj (one t j ht h1) he hb) h2
  have slots : ∀ {listed : Array Bool} {a : Act} {w : World} (D : Nat), RegInvN l.toArray n φ a0 w0 listed a w → (∀ j, j < n → listed.getD j true = true → j ≠ D) → ∀ k, (∀ j, j < n → j ≠ D → slotOf l.toArray j ≠ k) → a.tmps.getD k undef = a0.tmps.getD k undef := by
    intro listed a w D h hD k hk
    have : a.tmps[k]? = a0.tmps[k]? := by
      refine h.kept k fun j oj hoj hlj e => ?_
      rcases Nat.lt_or_ge j n with hj | hj
      · exact hk j hj (hD j hj hlj) (slot_of hoj e)
      · rw [h.tail j hj (Array.getElem?_eq_some_iff.1 hoj).1] at hlj
        cases hlj
    simp [Array.getD_eq_getD_getElem?, this]
  intro fuel
  induction fuel with
  | zero =>
    intro listed a w hl hc h
    have hall : ∀ j, j < n → listed.getD j true = true := by
      intro j hj
      have hf := List.eq_nil_of_length_eq_zero hc
      rw [List.filter_eq_nil_iff] at hf
      have := hf j (List.mem_range.2 hj)
      simpa using this
    have he : listed = headArr l.toArray.size n l.toArray.size := headArr_eq hl fun j hj => by
      rcases Nat.lt_or_ge j n with h1 | h1
      · rw [hall j h1]; simp [h1]; simp at hj; omega
      · rw [h.tail j h1 hj]; simp; omega
    rw [Nat.zero_add]
    have hdl : (l.drop n).length = l.toArray.size - n := by simp
    have := wpAny_of_seq (P := P) (md := .any) (ops := l.toArray) (Q' := Q) (l.drop n) n listed a w (fun j => by simp [List.getElem?_drop]) (by rw [hdl, he]; exact hseq)
      (hend.all a w h.same h.defers h.size (fun k hk => slots l.toArray.size h (fun j hj _ => by omega) k fun j hj _ => hk j hj) fun j hj => h.done j hj (hall j hj))
    rwa [hdl] at this
  | succ fuel ih =>
    intro listed a w hl hc h
    rw [show fuel + 1 + (l.toArray.size - n) = (fuel + (l.toArray.size - n)) + 1 by omega]
    have hex : ∃ j, j < n ∧ listed.getD j true = false := by
      have : 0 < ((List.range n).filter fun i => !listed.getD i true).length := by omega
      obtain ⟨j, hj⟩ := List.exists_mem_of_length_pos this
      rw [List.mem_filter, List.mem_range] at hj
      exact ⟨j, hj.1, by simpa using hj.2⟩
    refine ⟨fun hr => ?_, fun i hi => ?_⟩
    · exfalso
      have key : ∀ i, i < n → listed.getD i true = true := by
        intro i
        induction i using Nat.strongRecOn with
        | _ i ihi =>
          intro hi
          cases hli : listed.getD i true with
          | true => rfl
          | false =>
            exfalso
            obtain ⟨o, ho⟩ : ∃ o, l.toArray[i]? = some o := ⟨_, Array.getElem?_eq_getElem (by omega)⟩
            have : i ∈ Region.ready .any l.toArray listed := by
              unfold Region.ready
              rw [List.mem_filter]
              refine ⟨List.mem_range.2 (by omega), ?_⟩
              rw [ho, hli]
              simp only [Bool.not_false, Bool.true_and, Option.map_some, Option.getD_some, Array.all_eq_true_iff_forall_mem]
              intro e he
              by_cases hb : Region.binds .any e = true
              · have hlt := (plainN_at hp hi ho).1 e he hb
                have hz : listed.getD e.on false = true := getD_one (by omega) (ihi e.on hlt (by omega))
                rw [hz]; simp
              · simp [hb]
            rw [hr] at this
            cases this
      obtain ⟨j, hj, hjf⟩ := hex
      rw [key j hj] at hjf
      cases hjf
    have hi0 := hi
    unfold Region.ready at hi
    rw [List.mem_filter] at hi
    obtain ⟨hi, hrd⟩ := hi
    have hi := List.mem_range.1 hi
    obtain ⟨o, ho⟩ : ∃ o, l.toArray[i]? = some o := ⟨_, Array.getElem?_eq_getElem hi⟩
    rw [ho] at hrd
    simp only [Bool.and_eq_true, Bool.not_eq_true', Option.map_some, Option.getD_some, Array.all_eq_true_iff_forall_mem] at hrd
    obtain ⟨hni, hrd⟩ := hrd
    have hrr : ∀ e ∈ o.after, Region.binds .any e = true → listed.getD e.on true = true := by
      intro e he hb
      have := hrd e he
      rw [hb] at this
      exact getD_two (by simpa using this)
    by_cases hin : i < n
    · refine wpOp_step ho fun K hK => ?_
      refine hstep i o hin ho a w h.same h.defers h.size (fun d hd => ?_) (fun j hj => ?_) K (fun v w' hv hs => hK _ _ ?_)
      · have : a.tmps[d]? = a0.tmps[d]? := by
          refine h.kept d fun j oj hoj hlj e => ?_
          have hm : oj ∈ l.toArray.toList := by
            rw [Array.mem_toList_iff]
            exact Array.mem_of_getElem? hoj
          have := List.all_eq_true.1 hd oj hm
          simp only [e, beq_self_eq_true, Bool.not_true, Bool.false_or, waits, List.any_eq_true, Bool.and_eq_true, beq_iff_eq, Array.mem_toList_iff] at this
          obtain ⟨ed, h1, h2, h3⟩ := this
          have := h.down j oj ed hoj hlj h1 h3
          rw [h2, hni] at this
          cases this
        simp [Array.getD_eq_getD_getElem?, this]
      · simp only [waits, List.any_eq_true, Bool.and_eq_true, beq_iff_eq, Array.mem_toList_iff] at hj
        obtain ⟨e, he, h2, h3⟩ := hj
        have hlt := (plainN_at hp hin ho).1 e he h3
        exact h.done j (by omega) (by rw [← h2]; exact hrr e he h3)
      · refine ih _ _ _ (by simpa using hl) ?_ (RegInvN.step hp hstab hdep hsz hl hin ho hni hrr h hs hv)
        refine count_less (i := i) (p := fun i => !listed.getD i true) hin (by rw [hni]; rfl) (fun j => ?_) hc
        show (!(listed.setIfInBounds i true).getD j true) = _
        rw [set_getD (by omega)]
        by_cases hij : i = j
        · subst hij; simp
        · rw [if_neg hij]
          have : (j != i) = true := by simpa using fun e : j = i => hij e.symm
          rw [this, Bool.and_true]
    · have hbut : ∀ j, j < n → j ≠ d → listed.getD j true = true := by
        intro j hj hjd
        exact reach h 6 i j (fun ot hot e he hb => by
          rw [ho] at hot
          injection hot with hot
          subst hot
          exact hrr e he hb) (late i (by omega) hi j hj hjd)
      obtain ⟨j, hj, hjf⟩ := hex
      have hjd : j = d := by
        by_cases e : j = d
        · exact e
        · rw [hbut j hj e] at hjf; cases hjf
      subst hjd
      rcases hd with hd | ⟨⟨hr1, hr2⟩, hseq2⟩
      · omega
      have he : listed = headArr l.toArray.size n j := headArr_eq hl fun k hk => by
        rcases Nat.lt_or_ge k n with h1 | h1
        · by_cases hkj : k = j
          · subst hkj; rw [hjf]; simp
          · rw [hbut k h1 hkj]; simp [h1, hkj]
        · rw [h.tail k h1 hk]; simp; omega
      have hf0 : fuel = 0 := by
        have : ((List.range n).filter fun i => !listed.getD i true) = (List.range n).filter fun i => decide (i = j) := by
          apply List.filter_congr
          intro k hk
          have hk := List.mem_range.1 hk
          by_cases hkj : k = j
          · subst hkj; simp [hjf]
          · simp [hbut k hk hkj, hkj]
        rw [this] at hc
        have h1 : ((List.range n).filter fun i => decide (i = j)).length ≤ 1 := by
          have := List.nodup_range (n := n)
          have e : ((List.range n).filter fun i => decide (i = j)) = (List.range n).filter (· == j) := by
            apply List.filter_congr; intro k _; by_cases h : k = j <;> simp [h]
          rw [e, ← List.count_eq_length_filter]
          exact List.nodup_iff_count.1 this j
        omega
      subst hf0
      have hin' : i = n := by
        rw [he, hr1] at hi0
        simp at hi0
        omega
      subst hin'
      obtain ⟨od, hod⟩ : ∃ od, l.toArray[j]? = some od := ⟨_, Array.getElem?_eq_getElem (by omega)⟩
      have hw := hend.but od o (by simpa using hod) (by simpa using ho) a w h.same h.defers h.size (slots j h fun k hk hlk e => by subst e; rw [hjf] at hlk; cases hlk) fun k hk hkj => h.done k hk (hbut k hk hkj)
      have hw1 : wpOp P l.toArray Q i (wpList P l.toArray Q (od :: l.drop (i + 1))) a w := by unfold wpOp; simp only [ho]; exact hw
      refine wpOp_mono (fun a' w' h' => ?_) hw1
      rw [Nat.zero_add]
      obtain ⟨g, hg⟩ : ∃ g, l.toArray.size - i = g + 1 := ⟨l.toArray.size - i - 1, by omega⟩
      rw [hg]
      refine ⟨fun h1 => ?_, fun k hk => ?_⟩
      · rw [he, hr2] at h1; cases h1
      · rw [he, hr2] at hk
        obtain rfl : k = j := by simpa using hk
        have hw2 : wpOp P l.toArray Q k (wpList P l.toArray Q (l.drop (i + 1))) a' w' := by unfold wpOp; simp only [hod]; exact h'
        refine wpOp_mono (fun a'' w'' h'' => ?_) hw2
        have hdl : (l.drop (i + 1)).length = g := by rw [List.length_drop]; omega
        have := wpAny_of_seq (P := P) (md := .any) (ops := l.toArray) (Q' := Q) (l.drop (i + 1)) (i + 1) ((listed.setIfInBounds i true).setIfInBounds k true) a'' w'' (fun j => by simp)
          (by rw [hdl, he, show g = l.toArray.size - i - 1 by omega]; exact hseq2) h''
        rwa [hdl] at this
end
end Go.Proofs.YtpbekhcogpkbpaaDoor
