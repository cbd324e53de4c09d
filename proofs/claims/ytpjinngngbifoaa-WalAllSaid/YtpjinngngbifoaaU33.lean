/-
  Words, plain models, laws and walks that the claims of this layer share (joined by shake.py). No condition.
-/
import Derived.Test.YtpjinngngbifoaaU1
import Derived.Test.YtpjinngngbifoaaU11
import Derived.Test.YtpjinngngbifoaaU12
import Derived.Test.YtpjinngngbifoaaU13
set_option linter.unusedSimpArgs false
set_option linter.unusedVariables false
namespace Go.Proofs.Ytpjinngngbifoaa
/-- One more is done. -/
def also (f : Nat → Bool) (i : Nat) : Nat → Bool := fun j => if i = j then true else f j
/-- What an operation is shown to do. -/
def OpDoesS (P : Program) (ops : Array Oper) (φ : Nat → Value → World → Prop) (T : Nat → Prop) (Ψ : (Nat → Bool) → World → Prop) (a0 : Act) (w0 : World) (Q : Exit → Act → World → Prop) (i : Nat) (o : Oper) : Prop :=
  ∀ (a : Act) (w : World) (f : Nat → Bool), Same T w0 w → Ψ f w → f i = false → (∀ j, waits o j = true → f j = true) → a.defers = a0.defers → a.tmps.size = a0.tmps.size →
    (∀ d, freeAt ops i d = true → a.tmps.getD d undef = a0.tmps.getD d undef) →
    (∀ j, waits o j = true → φ j (a.tmps.getD (slotOf ops j) undef) w) →
    ∀ K : Act → World → Prop, (∀ v w', φ i v w' → Same T w w' → Ψ (also f i) w' → K (a.put o.dst v) w') →
      if Region.wanted o (yielded ops a.tmps) = true then Oper.wp P o a w K Q else K (a.put o.dst undef) w
structure StInv (ops : Array Oper) (n : Nat) (φ : Nat → Value → World → Prop) (T : Nat → Prop) (Ψ : (Nat → Bool) → World → Prop) (a0 : Act) (w0 : World) (listed : Array Bool) (a : Act) (w : World) : Prop where
  defers : a.defers = a0.defers
  size : a.tmps.size = a0.tmps.size
  same : Same T w0 w
  st : Ψ (fun j => listed.getD j true) w
  kept : ∀ d, (∀ j o, ops[j]? = some o → listed.getD j true = true → o.dst ≠ some d) → a.tmps[d]? = a0.tmps[d]?
  done : ∀ j, j < n → listed.getD j true = true → φ j (a.tmps.getD (slotOf ops j) undef) w
  down : ∀ j o e, ops[j]? = some o → listed.getD j true = true → e ∈ o.after → Region.binds .any e = true → listed.getD e.on true = true
  tail : ∀ t, n ≤ t → t < ops.size → listed.getD t true = false
section
variable {P : Program} {ops : Array Oper} {n : Nat} {φ : Nat → Value → World → Prop} {T : Nat → Prop} {Ψ : (Nat → Bool) → World → Prop} {a0 : Act} {w0 : World} {Q : Exit → Act → World → Prop}
theorem StInv.step (hp : plainN ops n = true) (hstab : ∀ i v w w', φ i v w → Same T w w' → φ i v w') (hsz : ∀ (i : Nat) (o : Oper) (d : Nat), ops[i]? = some o → o.dst = some d → d < a0.tmps.size)
    {listed : Array Bool} {a : Act} {w w' : World} {i : Nat} {o : Oper} {v : Value} (hl : listed.size = ops.size) (hin : i < n) (ho : ops[i]? = some o) (hni : listed.getD i true = false) (hr : ∀ e ∈ o.after, Region.binds .any e = true → listed.getD e.on true = true)
    (h : StInv ops n φ T Ψ a0 w0 listed a w) (hs : Same T w w') (hv : φ i v w') (hst : Ψ (also (fun j => listed.getD j true) i) w') : StInv ops n φ T Ψ a0 w0 (listed.setIfInBounds i true) (a.put o.dst v) w' := by
  have hi : i < ops.size := (Array.getElem?_eq_some_iff.1 ho).1
  obtain ⟨hback, ⟨d, hd⟩, hdist⟩ := plainN_at hp hin ho
  have hdl : d < a.tmps.size := by rw [h.size]; exact hsz i o d ho hd
  have hset := set_getD (listed := listed) (i := i) (by omega)
  refine ⟨by rw [hd]; exact h.defers, by rw [hd]; simp [Act.put]; exact h.size, h.same.trans hs, ?_, ?_, ?_, ?_, ?_⟩
  · have e : (fun j => (listed.setIfInBounds i true).getD j true) = also (fun j => listed.getD j true) i := funext hset
    rw [e]
    exact hst
  · intro k hk
    have hkd : d ≠ k := by
      intro e
      exact hk i o ho (by rw [hset, if_pos rfl]) (by rw [hd, e])
    have : (a.put o.dst v).tmps[k]? = a.tmps[k]? := by
      rw [hd]
      simp only [Act.put, Array.getElem?_setIfInBounds, if_neg hkd]
    rw [this]
    refine h.kept k fun j oj hoj hlj => hk j oj hoj ?_
    rw [hset]; split
    · rfl
    · exact hlj
  · intro j hj hlj
    rw [hset] at hlj
    rw [hd, getD_put _ _ _ _ hdl]
    by_cases hij : i = j
    · subst hij
      rw [if_pos (slot_of ho hd).symm]
      exact hv
    · rw [if_neg hij] at hlj
      rw [if_neg (fun e => hdist j hj (fun e' => hij e'.symm) (by rw [slot_of ho hd]; exact e.symm))]
      exact hstab _ _ _ _ (h.done j hj hlj) hs
  · intro j oj e hoj hlj he hb
    rw [hset] at hlj ⊢
    split
    · rfl
    · by_cases hij : i = j
      · subst hij
        rw [ho] at hoj
        injection hoj with hoj
        subst hoj
        exact hr e he hb
      · rw [if_neg hij] at hlj
        exact h.down j oj e hoj hlj he hb
  · intro t ht hts
    rw [hset, if_neg (by omega)]
    exact h.tail t ht hts
theorem wpAny_st {l : List Oper} (hB : tailB l.toArray n l.length = true) (hstab : ∀ i v w w', φ i v w → Same T w w' → φ i v w') (hsz : ∀ (i : Nat) (o : Oper) (d : Nat), l.toArray[i]? = some o → o.dst = some d → d < a0.tmps.size)
    (hstep : ∀ i o, i < n → l.toArray[i]? = some o → OpDoesS P l.toArray φ T Ψ a0 w0 Q i o)
    (hend : ∀ a w f, Same T w0 w → Ψ f w → (∀ j, j < n → f j = true) → a.defers = a0.defers → a.tmps.size = a0.tmps.size → (∀ k, (∀ j, j < n → slotOf l.toArray j ≠ k) → a.tmps.getD k undef = a0.tmps.getD k undef) →
      (∀ j, j < n → φ j (a.tmps.getD (slotOf l.toArray j) undef) w) → wpList P l.toArray Q (l.drop n) a w) :
    ∀ (fuel : Nat) (listed : Array Bool) (a : Act) (w : World), listed.size = l.toArray.size → ((List.range n).filter fun i => !listed.getD i true).length = fuel →
      StInv l.toArray n φ T Ψ a0 w0 listed a w → wpAny P .any l.toArray Q (fuel + (l.toArray.size - n)) listed a w := by
  simp only [tailB, Bool.and_eq_true, decide_eq_true_eq, Bool.or_eq_true] at hB
  obtain ⟨⟨⟨⟨hn, hp⟩, hlate⟩, hseq⟩, -⟩ := hB
  have hlen : l.toArray.size = l.length := by simp
  have late : ∀ t, n ≤ t → t < l.toArray.size → ∀ i, i < n → reachB l.toArray 6 t i = true := by
    intro t ht hts i hi
    have h := List.all_eq_true.1 hlate t (List.mem_range.2 hts)
    simp only [Bool.or_eq_true, decide_eq_true_eq, List.all_eq_true, List.mem_range] at h
    rcases h with h | h
    · omega
    · exact (h i hi).resolve_left (by simp at hts; omega)
  have reach : ∀ {listed : Array Bool} {a : Act} {w : World}, StInv l.toArray n φ T Ψ a0 w0 listed a w → ∀ (f t i : Nat), (∀ ot, l.toArray[t]? = some ot → ∀ e ∈ ot.after, Region.binds .any e = true → listed.getD e.on true = true) → reachB l.toArray f t i = true → listed.getD i true = true := by
    intro listed a w h f
    have one : ∀ t i, (∀ ot, l.toArray[t]? = some ot → ∀ e ∈ ot.after, Region.binds .any e = true → listed.getD e.on true = true) → waitsAt l.toArray t i = true → listed.getD i true = true := by
      intro t i ht hw
      obtain ⟨ot, hot⟩ : ∃ ot, l.toArray[t]? = some ot := by
        cases e : l.toArray[t]? with
        | none => simp [waitsAt, e] at hw
        | some ot => exact ⟨ot, rfl⟩
      simp only [waitsAt, hot, Option.map_some, Option.getD_some, waits, List.any_eq_true, Bool.and_eq_true, beq_iff_eq, Array.mem_toList_iff] at hw
      obtain ⟨e, he, h2, h3⟩ := hw
      rw [← h2]
      exact ht ot hot e he h3
    induction f with
    | zero => exact one
    | succ f ihf =>
      intro t i ht hr
      simp only [reachB, Bool.or_eq_true, List.any_eq_true, List.mem_range, Bool.and_eq_true] at hr
      rcases hr with hr | ⟨j, hj, h1, h2⟩
      · exact one t i ht hr
      · exact ihf j i (fun oj hoj e he hb => h.down j oj e hoj (one t j ht h1) he hb) h2
  have slots : ∀ {listed : Array Bool} {a : Act} {w : World} (D : Nat), StInv l.toArray n φ T Ψ a0 w0 listed a w → (∀ j, j < n → listed.getD j true = true → j ≠ D) → ∀ k, (∀ j, j < n → j ≠ D → slotOf l.toArray j ≠ k) → a.tmps.getD k undef = a0.tmps.getD k undef := by
    intro listed a w D h hD k hk
    have : a.tmps[k]? = a0.tmps[k]? := by
      refine h.kept k fun j oj hoj hlj e => ?_
      rcases Nat.lt_or_ge j n with hj | hj
      · exact hk j hj (hD j hj hlj) (slot_of hoj e)
      · rw [h.tail j hj (Array.getElem?_eq_some_iff.1 hoj).1] at hlj
        cases hlj
    simp [Array.getD_eq_getD_getElem?, this]
  intro fuel
  induction fuel with
  | zero =>
    intro listed a w hl hc h
    have hall : ∀ j, j < n → listed.getD j true = true := by
      intro j hj
      have hf := List.eq_nil_of_length_eq_zero hc
      rw [List.filter_eq_nil_iff] at hf
      have := hf j (List.mem_range.2 hj)
      simpa using this
    have he : listed = headArr l.toArray.size n l.toArray.size := headArr_eq hl fun j hj => by
      rcases Nat.lt_or_ge j n with h1 | h1
      · rw [hall j h1]; simp [h1]; simp at hj; omega
      · rw [h.tail j h1 hj]; simp; omega
    rw [Nat.zero_add]
    have hdl : (l.drop n).length = l.toArray.size - n := by simp
    have := wpAny_of_seq (P := P) (md := .any) (ops := l.toArray) (Q' := Q) (l.drop n) n listed a w (fun j => by simp [List.getElem?_drop]) (by rw [hdl, he]; exact hseq)
      (hend a w _ h.same h.st hall h.defers h.size (fun k hk => slots l.toArray.size h (fun j hj _ => by omega) k fun j hj _ => hk j hj) fun j hj => h.done j hj (hall j hj))
    rwa [hdl] at this
  | succ fuel ih =>
    intro listed a w hl hc h
    rw [show fuel + 1 + (l.toArray.size - n) = (fuel + (l.toArray.size - n)) + 1 by omega]
    have hex : ∃ j, j < n ∧ listed.getD j true = false := by
      have : 0 < ((List.range n).filter fun i => !listed.getD i true).length := by omega
      obtain ⟨j, hj⟩ := List.exists_mem_of_length_pos this
      rw [List.mem_filter, List.mem_range] at hj
      exact ⟨j, hj.1, by simpa using hj.2⟩
    refine ⟨fun hr => ?_, fun i hi => ?_⟩
    · exfalso
      have key : ∀ i, i < n → listed.getD i true = true := by
        intro i
        induction i using Nat.strongRecOn with
        | _ i ihi =>
          intro hi
          cases hli : listed.getD i true with
          | true => rfl
          | false =>
            exfalso
            obtain ⟨o, ho⟩ : ∃ o, l.toArray[i]? = some o := ⟨_, Array.getElem?_eq_getElem (by omega)⟩
            have : i ∈ Region.ready .any l.toArray listed := by
              unfold Region.ready
              rw [List.mem_filter]
              refine ⟨List.mem_range.2 (by omega), ?_⟩
              rw [ho, hli]
              simp only [Bool.not_false, Bool.true_and, Option.map_some, Option.getD_some, Array.all_eq_true_iff_forall_mem]
              intro e he
              by_cases hb : Region.binds .any e = true
              · have hlt := (plainN_at hp hi ho).1 e he hb
                have hz : listed.getD e.on false = true := getD_one (by omega) (ihi e.on hlt (by omega))
                rw [hz]; simp
              · simp [hb]
            rw [hr] at this
            cases this
      obtain ⟨j, hj, hjf⟩ := hex
      rw [key j hj] at hjf
      cases hjf
    have hi0 := hi
    unfold Region.ready at hi
    rw [List.mem_filter] at hi
    obtain ⟨hi, hrd⟩ := hi
    have hi := List.mem_range.1 hi
    obtain ⟨o, ho⟩ : ∃ o, l.toArray[i]? = some o := ⟨_, Array.getElem?_eq_getElem hi⟩
    rw [ho] at hrd
    simp only [Bool.and_eq_true, Bool.not_eq_true', Option.map_some, Option.getD_some, Array.all_eq_true_iff_forall_mem] at hrd
    obtain ⟨hni, hrd⟩ := hrd
    have hrr : ∀ e ∈ o.after, Region.binds .any e = true → listed.getD e.on true = true := by
      intro e he hb
      have := hrd e he
      rw [hb] at this
      exact getD_two (by simpa using this)
    by_cases hin : i < n
    · refine wpOp_step ho fun K hK => ?_
      refine hstep i o hin ho a w _ h.same h.st hni (fun j hj => ?_) h.defers h.size (fun d hd => ?_) (fun j hj => ?_) K (fun v w' hv hs hst => hK _ _ ?_)
      · simp only [waits, List.any_eq_true, Bool.and_eq_true, beq_iff_eq, Array.mem_toList_iff] at hj
        obtain ⟨e, he, h2, h3⟩ := hj
        rw [← h2]
        exact hrr e he h3
      · have : a.tmps[d]? = a0.tmps[d]? := by
          refine h.kept d fun j oj hoj hlj e => ?_
          have hm : oj ∈ l.toArray.toList := by
            rw [Array.mem_toList_iff]
            exact Array.mem_of_getElem? hoj
          have := List.all_eq_true.1 hd oj hm
          simp only [e, beq_self_eq_true, Bool.not_true, Bool.false_or, waits, List.any_eq_true, Bool.and_eq_true, beq_iff_eq, Array.mem_toList_iff] at this
          obtain ⟨ed, h1, h2, h3⟩ := this
          have := h.down j oj ed hoj hlj h1 h3
          rw [h2, hni] at this
          cases this
        simp [Array.getD_eq_getD_getElem?, this]
      · simp only [waits, List.any_eq_true, Bool.and_eq_true, beq_iff_eq, Array.mem_toList_iff] at hj
        obtain ⟨e, he, h2, h3⟩ := hj
        have hlt := (plainN_at hp hin ho).1 e he h3
        exact h.done j (by omega) (by rw [← h2]; exact hrr e he h3)
      · refine ih _ _ _ (by simpa using hl) ?_ (StInv.step hp hstab hsz hl hin ho hni hrr h hs hv hst)
        refine count_less (i := i) (p := fun i => !listed.getD i true) hin (by rw [hni]; rfl) (fun j => ?_) hc
        show (!(listed.setIfInBounds i true).getD j true) = _
        rw [set_getD (by omega)]
        by_cases hij : i = j
        · subst hij; simp
        · rw [if_neg hij]
          have : (j != i) = true := by simpa using fun e : j = i => hij e.symm
          rw [this, Bool.and_true]
    · exfalso
      obtain ⟨j, hj, hjf⟩ := hex
      have := reach h 6 i j (fun ot hot e he hb => by
          rw [ho] at hot
          injection hot with hot
          subst hot
          exact hrr e he hb) (late i (by omega) hi j hj)
      rw [this] at hjf
      cases hjf
end
/-- A predicate on a value that the region's writes keep. -/
structure SPT (T : Nat → Prop) where
  p : Value → World → Prop
  st : ∀ v w w', p v w → Same T w w' → p v w'
def SPT.eq {T : Nat → Prop} (u : Value) : SPT T := ⟨fun v _ => v = u, fun _ _ _ h _ => h⟩
def SPT.any {T : Nat → Prop} : SPT T := ⟨fun _ _ => True, fun _ _ _ _ _ => trivial⟩
def stAt {T : Nat → Prop} (L : List (SPT T)) (i : Nat) : SPT T := L.getD i SPT.any
def OpDoesT (P : Program) (ops : Array Oper) {T : Nat → Prop} (L : List (SPT T)) (Ψ : (Nat → Bool) → World → Prop) (a0 : Act) (w0 : World) (Q : Exit → Act → World → Prop) (i : Nat) (o : Oper) : Prop :=
  OpDoesS P ops (fun j v w => (stAt L j).p v w) T Ψ a0 w0 Q i o
def OpsDoT (P : Program) (ops : Array Oper) {T : Nat → Prop} (L : List (SPT T)) (Ψ : (Nat → Bool) → World → Prop) (a0 : Act) (w0 : World) (Q : Exit → Act → World → Prop) : Nat → List Oper → Prop
  | _, [] => True
  | i, o :: l => OpDoesT P ops L Ψ a0 w0 Q i o ∧ OpsDoT P ops L Ψ a0 w0 Q (i + 1) l
theorem OpsDoT.at_ {P : Program} {ops : Array Oper} {T : Nat → Prop} {L : List (SPT T)} {Ψ : (Nat → Bool) → World → Prop} {a0 : Act} {w0 : World} {Q : Exit → Act → World → Prop} : ∀ (l : List Oper) (k : Nat), OpsDoT P ops L Ψ a0 w0 Q k l → ∀ i o, l[i]? = some o → OpDoesT P ops L Ψ a0 w0 Q (k + i) o
  | [], k, _, i, o, h => by simp at h
  | p :: l, k, hd, i, o, h => by
    cases i with
    | zero => simp at h; subst h; exact hd.1
    | succ i =>
      have := OpsDoT.at_ l (k + 1) hd.2 i o (by simpa using h)
      rwa [show k + 1 + i = k + (i + 1) by omega] at this
theorem wp_region_st_lit {P : Program} {l : List Oper} {id : Nat} {T : Nat → Prop} {L : List (SPT T)} {a0 : Act} {w0 : World} {Q : Exit → Act → World → Prop} (Ψ : (Nat → Bool) → World → Prop) (n : Nat) (hm : P.follows .mixedOrders = true) (hB : tailB l.toArray n l.length = true)
    (hsz : (l.all fun o => (o.dst.map fun d => decide (d < a0.tmps.size)).getD true) = true) (h0 : Ψ (fun j => (Array.replicate l.length false).getD j true) w0.drew) (hstep : OpsDoT P l.toArray L Ψ a0 w0 Q 0 (l.take n))
    (hA : ∀ vs w f, vs.length = n → (∀ j, j < n → (stAt L j).p (vs.getD j undef) w) → Same T w0 w → Ψ f w → (∀ j, j < n → f j = true) → wpList P l.toArray Q (l.drop n) (putAll a0 (l.take n) vs) w) : (Code.region id l.toArray true).wp P Q a0 w0 := by
  obtain ⟨hn, hp⟩ := tailB_parts hB
  obtain ⟨f1, f2, f3⟩ := heads_facts hB
  have hln : (l.take n).length = n := by rw [List.length_take]; omega
  refine wp_region_any hm ?_
  have hcount : ((List.range n).filter fun i => !(Array.replicate l.toArray.size false).getD i true).length = n := by
    have : ((List.range n).filter fun i => !(Array.replicate l.toArray.size false).getD i true) = List.range n := by
      rw [List.filter_eq_self]
      intro i hi
      have := List.mem_range.1 hi
      have : i < l.length := by omega
      simp [Array.getD_eq_getD_getElem?, this]
    rw [this, List.length_range]
  have := wpAny_st (P := P) (Q := Q) (a0 := a0) (l := l) (w0 := w0) (φ := fun j v w => (stAt L j).p v w) (T := T) (Ψ := Ψ) hB (fun i v w w' h hs => (stAt L i).st v w w' h hs) (fun i o k ho hk => ?_) (fun i o hi ho => ?_) (fun a w f h1 hst hf h2 h3 h4 h5 => ?_) n (Array.replicate l.toArray.size false) a0 { w0 with drawn := w0.drawn + 1 } (by simp) hcount ?_
  · rwa [show n + (l.toArray.size - n) = l.toArray.size by simp; omega] at this
  · have hmem : o ∈ l := by
      have : o ∈ l.toArray.toList := by rw [Array.mem_toList_iff]; exact Array.mem_of_getElem? ho
      simpa using this
    have := List.all_eq_true.1 hsz o hmem
    rw [hk] at this
    simpa using this
  · have := OpsDoT.at_ (l.take n) 0 hstep i o (by rw [List.getElem?_take, if_pos hi]; simpa using ho)
    rw [Nat.zero_add] at this
    exact this
  · have hval : ∀ j, j < n → ((l.take n).map fun o => a.tmps.getD (o.dst.getD 0) undef).getD j undef = a.tmps.getD (slotOf l.toArray j) undef := fun j hj => by
      rw [(f3 j hj (by omega)).1]
      have hj2 : j < l.length := by omega
      simp [List.getD_eq_getElem?_getD, hj, hj2]
    rw [act_putAll (a := a) (a0 := a0) (lj := l.take n) h2 h3 f1 f2 fun k hk => h4 k fun j hj e => ?_]
    · exact hA _ w f (by rw [List.length_map, hln]) (fun j hj => by rw [hval j hj]; exact h5 j hj) h1 hst hf
    · refine hk ((l.take n)[j]'(by omega)) (List.getElem_mem _) ?_
      rw [(f3 j hj (by omega)).2, e]
  · refine ⟨rfl, rfl, (Same.refl _ _).drew, by simpa using h0, fun _ _ => rfl, fun j hj h => ?_, fun j o e ho h => ?_, fun t h1 h2 => ?_⟩
    · have : j < l.length := by omega
      simp [Array.getD_eq_getD_getElem?, this] at h
    · have hj := (Array.getElem?_eq_some_iff.1 ho).1
      have hj : j < l.length := by simpa using hj
      simp [Array.getD_eq_getD_getElem?, hj] at h
    · have h2 : t < l.length := by simpa using h2
      simp [Array.getD_eq_getD_getElem?, h2]
end Go.Proofs.Ytpjinngngbifoaa
