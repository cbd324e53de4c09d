/-
  Words, plain models, laws and walks that the claims of this layer share (joined by shake.py). No condition.
-/
import Derived.Test.YtdfojghhpdkpfaaGreatDoorG3
set_option linter.unusedSimpArgs false
set_option linter.unusedVariables false
namespace Go.Proofs.YtdfojghhpdkpfaaGreatDoor
/-- What operation k left in its slot. -/
def valF (ops : Array Oper) (a : Act) (k : Nat) : Value := ((ops[k]?).bind (·.dst)).elim undef fun d => a.tmps.getD d undef
def setF (u : Nat → Value) (i : Nat) (v : Value) : Nat → Value := fun j => if i = j then v else u j
/-- Each edge leads back; no two operations have one slot. -/
def plainF (ops : Array Oper) : Bool :=
 (List.range ops.size).all fun i => ((ops[i]?).map fun o => o.after.all (fun e => decide (e.on < i) || !Region.binds .any e) && (List.range ops.size).all fun j => decide (j = i) || ((ops[j]?).bind (·.dst)).isNone || ((ops[j]?).bind (·.dst)) != o.dst).getD false
/-- What an operation is shown to do. -/
def OpDoesF (P : Program) (ops : Array Oper) (φ : Nat → Value → World → Prop) (T : Nat → Prop) (Ψ : (Nat → Bool) → (Nat → Value) → World → Prop) (a0 : Act) (w0 : World) (Q : Exit → Act → World → Prop) (i : Nat) (o : Oper) : Prop :=
 ∀ (a : Act) (w : World) (f : Nat → Bool), Same T w0 w → Ψ f (valF ops a) w → f i = false → (∀ j, waits o j = true → f j = true) → (∀ j k, waitsAt ops j k = true → f j = true → f k = true) → a.defers = a0.defers → a.tmps.size = a0.tmps.size →
  (∀ d, freeAt ops i d = true → a.tmps.getD d undef = a0.tmps.getD d undef) →
  (∀ j, waits o j = true → φ j (valF ops a j) w) →
  ∀ K : Act → World → Prop, (∀ v w', (o.dst.isSome = true → φ i v w') → Same T w w' → Ψ (also f i) (setF (valF ops a) i (if o.dst.isSome then v else undef)) w' → K (a.put o.dst v) w') →
   if Region.wanted o (yielded ops a.tmps) = true then Oper.wp P o a w K Q else K (a.put o.dst undef) w
structure FuInv (ops : Array Oper) (φ : Nat → Value → World → Prop) (T : Nat → Prop) (Ψ : (Nat → Bool) → (Nat → Value) → World → Prop) (a0 : Act) (w0 : World) (listed : Array Bool) (a : Act) (w : World) : Prop where
 defers : a.defers = a0.defers
 size : a.tmps.size = a0.tmps.size
 same : Same T w0 w
 st : Ψ (fun j => listed.getD j true) (valF ops a) w
 kept : ∀ d, (∀ j o, ops[j]? = some o → listed.getD j true = true → o.dst ≠ some d) → a.tmps[d]? = a0.tmps[d]?
 done : ∀ j o, ops[j]? = some o → o.dst.isSome = true → listed.getD j true = true → φ j (valF ops a j) w
 down : ∀ j o e, ops[j]? = some o → listed.getD j true = true → e ∈ o.after → Region.binds .any e = true → listed.getD e.on true = true
section
variable {P : Program} {ops : Array Oper} {φ : Nat → Value → World → Prop} {T : Nat → Prop} {Ψ : (Nat → Bool) → (Nat → Value) → World → Prop} {a0 : Act} {w0 : World} {Q : Exit → Act → World → Prop}
theorem plainF_at (hp : plainF ops = true) {i : Nat} {o : Oper} (ho : ops[i]? = some o) :
  (∀ e ∈ o.after, Region.binds .any e = true → e.on < i) ∧ ∀ j oj d, ops[j]? = some oj → j ≠ i → oj.dst = some d → o.dst ≠ some d := by
 have hi : i < ops.size := (Array.getElem?_eq_some_iff.1 ho).1;have h := List.all_eq_true.1 hp i (List.mem_range.2 hi);rw [ho] at h;simp only [Option.map_some, Option.getD_some, Bool.and_eq_true, Array.all_eq_true_iff_forall_mem, List.all_eq_true, List.mem_range] at h;obtain ⟨h1, h2⟩ := h;refine ⟨fun e he hb => ?_, fun j oj d hj hne hd e => ?_⟩
 ·have := h1 e he;simpa [hb] using this
 ·have := h2 j (Array.getElem?_eq_some_iff.1 hj).1;rw [hj, Option.bind_some, hd, e] at this;simp [hne] at this
theorem valF_at {a : Act} {j : Nat} {o : Oper} {d : Nat} (ho : ops[j]? = some o) (hd : o.dst = some d) : valF ops a j = a.tmps.getD d undef := by simp [valF, ho, hd]
theorem valF_no {a : Act} {j : Nat} {o : Oper} (ho : ops[j]? = some o) (hd : o.dst = none) : valF ops a j = undef := by simp [valF, ho, hd]
theorem valF_put (hp : plainF ops = true) {a : Act} {i : Nat} {o : Oper} {v : Value} (ho : ops[i]? = some o) (hsz : ∀ d, o.dst = some d → d < a.tmps.size) : valF ops (a.put o.dst v) = setF (valF ops a) i (if o.dst.isSome then v else undef) := by
 funext j
 unfold setF;cases hd : o.dst with
 | none =>
  have e : a.put none v = a := rfl;rw [e];split
  ·rename_i e; subst e;rw [valF_no ho hd];simp
  ·rfl
 | some d =>
  split
  ·rename_i e; subst e;rw [valF_at ho hd, getD_put _ _ _ _ (hsz d hd), if_pos rfl];simp
  ·rename_i hne;cases hj : ops[j]? with
   | none => simp [valF, hj]
   | some oj =>
    cases hdj : oj.dst with
    | none => rw [valF_no hj hdj, valF_no hj hdj]
    | some d' =>
     rw [valF_at hj hdj, valF_at hj hdj, getD_put _ _ _ _ (hsz d hd), if_neg];intro e;exact (plainF_at hp ho).2 j oj d' hj (fun e' => hne e'.symm) hdj (by rw [hd, e])
theorem FuInv.step (hp : plainF ops = true) (hstab : ∀ i v w w', φ i v w → Same T w w' → φ i v w') (hsz : ∀ (i : Nat) (o : Oper) (d : Nat), ops[i]? = some o → o.dst = some d → d < a0.tmps.size)
  {listed : Array Bool} {a : Act} {w w' : World} {i : Nat} {o : Oper} {v : Value} (hl : listed.size = ops.size) (ho : ops[i]? = some o) (hni : listed.getD i true = false) (hr : ∀ e ∈ o.after, Region.binds .any e = true → listed.getD e.on true = true)
  (h : FuInv ops φ T Ψ a0 w0 listed a w) (hs : Same T w w') (hv : o.dst.isSome = true → φ i v w') (hst : Ψ (also (fun j => listed.getD j true) i) (setF (valF ops a) i (if o.dst.isSome then v else undef)) w') : FuInv ops φ T Ψ a0 w0 (listed.setIfInBounds i true) (a.put o.dst v) w' := by
 have hi : i < ops.size := (Array.getElem?_eq_some_iff.1 ho).1;have hset := set_getD (listed := listed) (i := i) (by omega);have hdz : ∀ d, o.dst = some d → d < a.tmps.size := fun d hd => by rw [h.size]; exact hsz i o d ho hd
 have hval := valF_put (v := v) hp ho hdz;refine ⟨by rw [put_defers]; exact h.defers, by rw [put_size]; exact h.size, h.same.trans hs, ?_, ?_, ?_, ?_⟩
 ·have e : (fun j => (listed.setIfInBounds i true).getD j true) = also (fun j => listed.getD j true) i := funext hset;rw [e, hval];exact hst
 ·intro k hk;have hkd : o.dst ≠ some k := hk i o ho (by rw [hset, if_pos rfl])
  have : (a.put o.dst v).tmps[k]? = a.tmps[k]? := by
   cases hd : o.dst with
   | none => rfl
   | some d =>
    have hne : d ≠ k := fun e => hkd (by rw [hd, e])
    simp only [Act.put, Array.getElem?_setIfInBounds, if_neg hne]
  rw [this];refine h.kept k fun j oj hoj hlj => hk j oj hoj ?_
  rw [hset]; split
  ·rfl
  ·exact hlj
 ·intro j oj hoj hdj hlj;rw [hset] at hlj;rw [hval];unfold setF;by_cases hij : i = j
  ·subst hij;rw [ho] at hoj;injection hoj with hoj;subst hoj;rw [if_pos rfl, if_pos hdj];exact hv hdj
  ·rw [if_neg hij] at hlj;rw [if_neg hij];exact hstab _ _ _ _ (h.done j oj hoj hdj hlj) hs
 ·intro j oj e hoj hlj he hb;rw [hset] at hlj ⊢;split
  ·rfl
  ·by_cases hij : i = j
   ·subst hij;rw [ho] at hoj;injection hoj with hoj;subst hoj;exact hr e he hb
   ·rw [if_neg hij] at hlj;exact h.down j oj e hoj hlj he hb
theorem wpAny_full (hp : plainF ops = true) (hstab : ∀ i v w w', φ i v w → Same T w w' → φ i v w') (hsz : ∀ (i : Nat) (o : Oper) (d : Nat), ops[i]? = some o → o.dst = some d → d < a0.tmps.size)
  (hany : ∀ i v w, (∀ o, ops[i]? = some o → o.dst = none) → φ i v w)
  (hstep : ∀ i o, ops[i]? = some o → OpDoesF P ops φ T Ψ a0 w0 Q i o)
  (hend : ∀ a w, FuInv ops φ T Ψ a0 w0 (Array.replicate ops.size true) a w → Q .normal a w) :
  ∀ (fuel : Nat) (listed : Array Bool) (a : Act) (w : World), listed.size = ops.size → ((List.range ops.size).filter fun i => !listed.getD i true).length = fuel →
   FuInv ops φ T Ψ a0 w0 listed a w → wpAny P .any ops Q fuel listed a w := by
 have ready_nil : ∀ listed : Array Bool, listed.size = ops.size → Region.ready .any ops listed = [] → ∀ i, i < ops.size → listed.getD i true = true := by
  intro listed hlz hr i
  induction i using Nat.strongRecOn with
  | _ i ih =>
   intro hi;cases hli : listed.getD i true with
   | true => rfl
   | false =>
    exfalso;obtain ⟨o, ho⟩ : ∃ o, ops[i]? = some o := ⟨_, Array.getElem?_eq_getElem hi⟩
    have : i ∈ Region.ready .any ops listed := by
     unfold Region.ready;rw [List.mem_filter];refine ⟨List.mem_range.2 (by omega), ?_⟩;rw [ho, hli];simp only [Bool.not_false, Bool.true_and, Option.map_some, Option.getD_some, Array.all_eq_true_iff_forall_mem];intro e he;by_cases hb : Region.binds .any e = true
     ·have hlt := (plainF_at hp ho).1 e he hb
      have hz : listed.getD e.on false = true := by
       exact getD_one (by omega) (ih e.on hlt (by omega))
      rw [hz]; simp
     ·simp [hb]
    rw [hr] at this;cases this
 have fin : ∀ (listed : Array Bool) (a : Act) (w : World), listed.size = ops.size → Region.ready .any ops listed = [] → FuInv ops φ T Ψ a0 w0 listed a w → Q .normal a w := by
  intro listed a w hlz hr h;have hall := ready_nil listed hlz hr
  have e : listed = Array.replicate ops.size true := by
   apply Array.ext
   ·simp [hlz]
   ·intro i h1 h2;have := hall i (by omega);simp [Array.getD_eq_getD_getElem?, h1] at this;simp [this]
  rw [e] at h;exact hend a w h
 intro fuel
 induction fuel with
 | zero =>
  intro listed a w hl hc h
  have hr : Region.ready .any ops listed = [] := by
   unfold Region.ready;rw [List.filter_eq_nil_iff];intro i hi hh;have hf := List.eq_nil_of_length_eq_zero hc;rw [List.filter_eq_nil_iff] at hf;have := hf i hi;simp only [Bool.and_eq_true] at hh;exact this hh.1
  exact ⟨hr, fin listed a w hl hr h⟩
 | succ fuel ih =>
  intro listed a w hl hc h;refine ⟨fun hr => fin listed a w hl hr h, fun i hi => ?_⟩;unfold Region.ready at hi;rw [List.mem_filter] at hi;obtain ⟨hi, hrd⟩ := hi;have hi := List.mem_range.1 hi;obtain ⟨o, ho⟩ : ∃ o, ops[i]? = some o := ⟨_, Array.getElem?_eq_getElem hi⟩;rw [ho] at hrd;simp only [Bool.and_eq_true, Bool.not_eq_true', Option.map_some, Option.getD_some, Array.all_eq_true_iff_forall_mem] at hrd;obtain ⟨hni, hrd⟩ := hrd
  have hrr : ∀ e ∈ o.after, Region.binds .any e = true → listed.getD e.on true = true := by
   intro e he hb;have := hrd e he;rw [hb] at this;exact getD_two (by simpa using this)
  refine wpOp_step ho fun K hK => ?_
  refine hstep i o ho a w _ h.same h.st hni (fun j hj => ?_) ?_ h.defers h.size (fun d hd => ?_) (fun j hj => ?_) K (fun v w' hv hs hst => hK _ _ ?_)
  ·simp only [waits, List.any_eq_true, Bool.and_eq_true, beq_iff_eq, Array.mem_toList_iff] at hj;obtain ⟨e, he, h2, h3⟩ := hj;rw [← h2];exact hrr e he h3
  ·intro j k hjk hfj;cases hoj : ops[j]? with
   | none => simp [waitsAt, hoj] at hjk
   | some oj =>
    simp only [waitsAt, hoj, Option.map_some, Option.getD_some, waits, List.any_eq_true, Bool.and_eq_true, beq_iff_eq, Array.mem_toList_iff] at hjk;obtain ⟨e, he, h2, h3⟩ := hjk;rw [← h2];exact h.down j oj e hoj hfj he h3
  ·have : a.tmps[d]? = a0.tmps[d]? := by
    refine h.kept d fun j oj hoj hlj e => ?_
    have hm : oj ∈ ops.toList := by
     rw [Array.mem_toList_iff];exact Array.mem_of_getElem? hoj
    have := List.all_eq_true.1 hd oj hm;simp only [e, beq_self_eq_true, Bool.not_true, Bool.false_or, waits, List.any_eq_true, Bool.and_eq_true, beq_iff_eq, Array.mem_toList_iff] at this;obtain ⟨ed, h1, h2, h3⟩ := this;have := h.down j oj ed hoj hlj h1 h3;rw [h2, hni] at this;cases this
   simp [Array.getD_eq_getD_getElem?, this]
  ·simp only [waits, List.any_eq_true, Bool.and_eq_true, beq_iff_eq, Array.mem_toList_iff] at hj;obtain ⟨e, he, h2, h3⟩ := hj;have hlt := (plainF_at hp ho).1 e he h3;obtain ⟨oj, hoj⟩ : ∃ oj, ops[j]? = some oj := ⟨_, Array.getElem?_eq_getElem (by omega)⟩;cases hdj : oj.dst with
   | none => exact hany j _ _ fun o' ho' => by rw [hoj] at ho'; injection ho' with ho'; rw [← ho', hdj]
   | some d => exact h.done j oj hoj (by rw [hdj]; rfl) (by rw [← h2]; exact hrr e he h3)
  ·refine ih _ _ _ (by simpa using hl) ?_ (FuInv.step hp hstab hsz hl ho hni hrr h hs hv hst);refine count_less (i := i) (p := fun i => !listed.getD i true) hi (by rw [hni]; rfl) (fun j => ?_) hc;show (!(listed.setIfInBounds i true).getD j true) = _;rw [set_getD (by omega)];by_cases hij : i = j
   ·subst hij; simp
   ·rw [if_neg hij];have : (j != i) = true := by simpa using fun e : j = i => hij e.symm
    rw [this, Bool.and_true]
end
/-- The frame is what the operations' slots hold, laid one after the other. -/
theorem act_putAllF {lj : List Oper} {a a0 : Act} (hd : a.defers = a0.defers) (hs : a.tmps.size = a0.tmps.size) (hne : lj.Pairwise fun x y => ∀ d, x.dst = some d → y.dst ≠ some d)
  (hot : ∀ d, (∀ o ∈ lj, o.dst ≠ some d) → a.tmps.getD d undef = a0.tmps.getD d undef) : a = putAll a0 lj (lj.map fun o => o.dst.elim undef fun d => a.tmps.getD d undef) := by
 refine act_ext (by rw [hd, putAll_defers]) (by rw [hs, putAll_size]) (fun d hdl => ?_);by_cases h : ∃ (j : Nat) (hj : j < lj.length), lj[j].dst = some d
 ·obtain ⟨j, hj, hjd⟩ := h;rw [putAll_at lj _ a0 j hj (by simpa using hj) hjd (fun k hk hjk hkd => ?_) (by rw [← hs]; exact hdl)]
  ·simp [hjd]
  ·exact List.pairwise_iff_getElem.1 hne j k hj hk hjk d hjd hkd
 ·rw [putAll_other lj _ a0 (fun o ho hod => h (by
   obtain ⟨j, hj, rfl⟩ := List.mem_iff_getElem.1 ho
   exact ⟨j, hj, hod⟩))]
  exact hot d fun o ho hod => h (by
   obtain ⟨j, hj, rfl⟩ := List.mem_iff_getElem.1 ho
   exact ⟨j, hj, hod⟩)
def ssAt {T : Nat → Prop} (L : List (Option (SPT T))) (i : Nat) : SPT T := (L.getD i none).getD SPT.any
def OpDoesG (P : Program) (ops : Array Oper) {T : Nat → Prop} (L : List (Option (SPT T))) (Ψ : (Nat → Bool) → (Nat → Value) → World → Prop) (a0 : Act) (w0 : World) (Q : Exit → Act → World → Prop) (i : Nat) (o : Oper) : Prop :=
 OpDoesF P ops (fun j v w => (ssAt L j).p v w) T Ψ a0 w0 Q i o
def OpsDoG (P : Program) (ops : Array Oper) {T : Nat → Prop} (L : List (Option (SPT T))) (Ψ : (Nat → Bool) → (Nat → Value) → World → Prop) (a0 : Act) (w0 : World) (Q : Exit → Act → World → Prop) : Nat → List Oper → Prop
 | _, [] => True
 | i, o :: l => OpDoesG P ops L Ψ a0 w0 Q i o ∧ OpsDoG P ops L Ψ a0 w0 Q (i + 1) l
theorem OpsDoG.at_ {P : Program} {ops : Array Oper} {T : Nat → Prop} {L : List (Option (SPT T))} {Ψ : (Nat → Bool) → (Nat → Value) → World → Prop} {a0 : Act} {w0 : World} {Q : Exit → Act → World → Prop} : ∀ (l : List Oper) (k : Nat), OpsDoG P ops L Ψ a0 w0 Q k l → ∀ i o, l[i]? = some o → OpDoesG P ops L Ψ a0 w0 Q (k + i) o
 | [], k, _, i, o, h => by simp at h
 | p :: l, k, hd, i, o, h => by
  cases i with
  | zero => simp at h; subst h; exact hd.1
  | succ i =>
   have := OpsDoG.at_ l (k + 1) hd.2 i o (by simpa using h);rwa [show k + 1 + i = k + (i + 1) by omega] at this
/-- The stores' places on the list are empty. -/
def noneB {T : Nat → Prop} (l : List Oper) (L : List (Option (SPT T))) : Bool := decide (L.length ≤ l.length) && (List.range l.length).all fun i => ((l[i]?).bind (·.dst)).isSome || (L.getD i none).isNone
theorem wp_region_full_lit {P : Program} {l : List Oper} {id : Nat} {T : Nat → Prop} {L : List (Option (SPT T))} {a0 : Act} {w0 : World} {Q : Exit → Act → World → Prop} (Ψ : (Nat → Bool) → (Nat → Value) → World → Prop) (hm : P.follows .mixedOrders = true) (hB : plainF l.toArray = true) (hN : noneB l L = true)
  (hsz : (l.all fun o => (o.dst.map fun d => decide (d < a0.tmps.size)).getD true) = true) (h0 : Ψ (fun j => (Array.replicate l.length false).getD j true) (valF l.toArray a0) w0.drew) (hstep : OpsDoG P l.toArray L Ψ a0 w0 Q 0 l)
  (hA : ∀ vs w f, vs.length = l.length → (∀ j, j < l.length → (ssAt L j).p (vs.getD j undef) w) → Same T w0 w → Ψ f (fun j => vs.getD j undef) w → (∀ j, f j = true) → Q .normal (putAll a0 l vs) w) : (Code.region id l.toArray true).wp P Q a0 w0 := by
 refine wp_region_any hm ?_
 have hcount : ((List.range l.toArray.size).filter fun i => !(Array.replicate l.toArray.size false).getD i true).length = l.toArray.size := by
  have : ((List.range l.toArray.size).filter fun i => !(Array.replicate l.toArray.size false).getD i true) = List.range l.toArray.size := by
   rw [List.filter_eq_self];intro i hi;have := List.mem_range.1 hi;have hi' : i < l.length := by simpa using this
   simp [Array.getD_eq_getD_getElem?, hi']
  rw [this, List.length_range]
 have hany : ∀ i v w, (∀ o, l.toArray[i]? = some o → o.dst = none) → (ssAt L i).p v w := by
  intro i v w h;simp only [noneB, Bool.and_eq_true, decide_eq_true_eq] at hN
  have : L.getD i none = none := by
   rcases Nat.lt_or_ge i l.length with hi | hi
   ·have := List.all_eq_true.1 hN.2 i (List.mem_range.2 hi);have ho : l[i]? = some l[i] := List.getElem?_eq_getElem hi;rw [ho, Option.bind_some, h l[i] (by simp)] at this;simpa using this
   ·simp [List.getD_eq_getElem?_getD, List.getElem?_eq_none (Nat.le_trans hN.1 hi)]
  unfold ssAt;rw [this];trivial
 refine wpAny_full (P := P) (Q := Q) (a0 := a0) (ops := l.toArray) (w0 := w0) (φ := fun j v w => (ssAt L j).p v w) (T := T) (Ψ := Ψ) hB (fun i v w w' h hs => (ssAt L i).st v w w' h hs) (fun i o k ho hk => ?_) hany (fun i o ho => ?_) (fun a w h => ?_) l.toArray.size (Array.replicate l.toArray.size false) a0 { w0 with drawn := w0.drawn + 1 } (by simp) hcount ?_
 ·have hmem : o ∈ l := by
   have : o ∈ l.toArray.toList := by rw [Array.mem_toList_iff]; exact Array.mem_of_getElem? ho
   simpa using this
  have := List.all_eq_true.1 hsz o hmem;rw [hk] at this;simpa using this
 ·have := OpsDoG.at_ l 0 hstep i o (by simpa using ho);rw [Nat.zero_add] at this;exact this
 ·have hval : ∀ j, (l.map fun o => o.dst.elim undef fun d => a.tmps.getD d undef).getD j undef = valF l.toArray a j := fun j => by
   unfold valF;rw [List.getD_eq_getElem?_getD, List.getElem?_map];cases hj : l[j]? with
   | none => simp [hj]
   | some o => simp [hj]
  have hall : ∀ j, (Array.replicate l.toArray.size true).getD j true = true := fun j => by
   simp only [Array.getD_eq_getD_getElem?, Array.getElem?_replicate];split <;> rfl
  rw [act_putAllF (a := a) (a0 := a0) (lj := l) h.defers h.size ?_ fun d hd => ?_]
  ·refine hA _ w (fun j => (Array.replicate l.toArray.size true).getD j true) (by rw [List.length_map]) (fun j hj => ?_) h.same (by rw [funext hval]; exact h.st) hall;rw [hval j];have ho : l.toArray[j]? = some l[j] := by simp [hj]
   cases hd : l[j].dst with
   | none => exact hany j _ _ fun o' ho' => by rw [ho] at ho'; injection ho' with ho'; rw [← ho', hd]
   | some d => exact h.done j l[j] ho (by rw [hd]; rfl) (hall j)
  ·rw [List.pairwise_iff_getElem];intro i j hi hj hij d hdi hdj;exact (plainF_at hB (i := j) (o := l[j]) (by simp [hj])).2 i l[i] d (by simp [hi]) (by omega) hdi hdj
  ·have : a.tmps[d]? = a0.tmps[d]? := h.kept d fun j o ho _ => hd o (by
    have : o ∈ l.toArray.toList := by rw [Array.mem_toList_iff]; exact Array.mem_of_getElem? ho
    simpa using this)
   simp [Array.getD_eq_getD_getElem?, this]
 ·refine ⟨rfl, rfl, SR.drew, by simpa using h0, fun _ _ => rfl, fun j o ho _ h => ?_, fun j o e ho h => ?_⟩
  ·have hj := (Array.getElem?_eq_some_iff.1 ho).1;have hj : j < l.length := by simpa using hj
   simp [Array.getD_eq_getD_getElem?, hj] at h
  ·have hj := (Array.getElem?_eq_some_iff.1 ho).1;have hj : j < l.length := by simpa using hj
   simp [Array.getD_eq_getD_getElem?, hj] at h
end Go.Proofs.YtdfojghhpdkpfaaGreatDoor
namespace Go.Proofs.YtdfojghhpdkpfaaGreatDoor
open Go.RowKit
def Shal (x : PR Dp) : Prop := ∀ d l, x = .ok (d, l) → d.n ≤ 16
theorem op_shal (pl : Nat) (s : List UInt8) (args : List Dp) (l : List PT) : Shal (opT pl s args l) := by
 intro d l' h;unfold opT at h;split at h
 ·cases h
 ·injection h with h; injection h with h _; subst h; dsimp only; omega
theorem then_shal {α : Type} {x : PR α} {f : α → List PT → PR Dp} (hf : ∀ a l, Shal (f a l)) : Shal (thenT x f) := by
 intro d l h;obtain ⟨a, l1, _, h2⟩ := thenT_inv h;exact hf a l1 d l h2
theorem chain_shal (f : List PT → PR Dp) (signs : List (List UInt8)) : ∀ (k : Nat) (d : Dp) (l : List PT), d.n ≤ 16 → Shal (chainT f signs k d l)
 | 0, d, l, h => by rintro d' l' ⟨⟩; exact h
 | k + 1, d, l, h => by
  unfold chainT;split
  ·intro d' l' h';obtain ⟨d2, l2, _, h2⟩ := thenT_inv h';obtain ⟨d3, l3, h3, h4⟩ := thenT_inv h2;exact chain_shal f signs k d3 l3 (op_shal _ _ _ _ _ _ h3) d' l' h4
  ·rintro d' l' ⟨⟩; exact h
theorem run_shal {f : List PT → PR Dp} (hf : ∀ l, Shal (f l)) (signs : List (List UInt8)) (l : List PT) : Shal (runT f signs l) := by
 intro d l' h;obtain ⟨d1, l1, h1, h2⟩ := thenT_inv h;exact chain_shal f signs _ d1 l1 (hf l _ _ h1) d l' h2
theorem leaf_shal (v : Val) (l : List PT) : Shal (.ok (leafV v, l)) := by rintro d l' ⟨⟩; show 1 ≤ 16; omega
theorem step_shal {f : Rl → List PT → PR Dp} (hf : ∀ r l, Shal (f r l)) (r : Rl) (l : List PT) : Shal (stepT f r l) := by
 cases r with
 | or => exact run_shal (hf _) _ l
 | and => exact run_shal (hf _) _ l
 | sum => exact run_shal (hf _) _ l
 | prod => exact run_shal (hf _) _ l
 | not =>
  simp only [stepT];split
  ·exact then_shal fun d l1 => op_shal _ _ _ _
  ·exact hf _ _
 | cmp =>
  simp only [stepT];intro d l' h;obtain ⟨d1, l1, h1, h2⟩ := thenT_inv h;split at h2
  ·exact then_shal (fun d2 l2 => op_shal _ _ _ _) _ _ h2
  ·split at h2
   ·split at h2
    ·exact then_shal (fun d2 l2 => op_shal _ _ _ _) _ _ h2
    ·exact then_shal (fun d2 l2 => op_shal _ _ _ _) _ _ h2
   ·injection h2 with h2; injection h2 with h2 _; subst h2; exact hf _ _ _ _ h1
 | unary =>
  simp only [stepT];split
  ·exact then_shal fun d l1 => op_shal _ _ _ _
  ·split
   ·intro d l' h;obtain ⟨d1, l1, h1, h2⟩ := thenT_inv h;obtain ⟨_, l2, _, h3⟩ := thenT_inv h2;injection h3 with h3; injection h3 with h3 _; subst h3; exact hf _ _ _ _ h1
   ·split
    ·exact leaf_shal _ _
    ·split
     ·exact leaf_shal _ _
     ·split
      ·exact leaf_shal _ _
      ·split
       ·exact leaf_shal _ _
       ·split
        ·exact leaf_shal _ _
        ·exact then_shal fun s l1 => by rintro d l' ⟨⟩; show 1 ≤ 16; omega
theorem rule_shal : ∀ (n : Nat) (r : Rl) (l : List PT), Shal (ruleT n r l)
 | 0, r, l => by intro d l' h; cases h
 | n + 1, r, l => step_shal (rule_shal n) r l
def DpG (B : Nat) (d : Dp) (w : World) (v : Value) : Prop := ∃ u, v = dpV u d ∧ ExR w (fun q => B ≤ q) u d.e
/-- The rule that is the function value f reads as F does, where o rules are open. -/
def RuleC (g t o : Nat) (f : Value) (F : List PT → PR Dp) : Prop := ∀ (l : List PT) (w : World), PS w g t l o → Calls Tryz.prog 128 #[pV g, f] w (DoP g t o (F l) (DpG w.heap.size) w)
theorem size_set (w : World) (p : Addr) (v : Value) : (w.setCell p v).heap.size = w.heap.size := by simp [World.setCell]
def zdp : List Value := [.int .i64 0, .string ⟨#[]⟩, .int .i64 0, .int .i64 0, .string ⟨#[]⟩, .slice none 0 0, .int .i64 0]
theorem DoP.err {α : Type} {g t o : Nat} {p : PE} {good : α → World → Value → Prop} {w w1 w' : World} {S : Nat → Prop} {e : Ending} (h : FailP g p w1 e w') (hs : Same S w w1) (hS : ∀ k, k ≠ g → S k := by intros; trivial) : DoP g t o (.error p : PR α) good w e w' := h.after hs hS
/-- How many tokens the parser has. -/
def tokLen (w : World) (g : Nat) : Nat := match w.cell? ⟨g, 0, none⟩ with
 | some (.slice _ n _) => n
 | _ => 0
theorem PS.len {w : World} {g t : Nat} {l : List PT} {o : Nat} (h : PS w g t l o) : tokLen w g = l.length := by
 obtain ⟨off, c, hrow, _⟩ := h.open_;unfold tokLen;rw [hrow.cell 0];rfl
def valT (x : PR Dp) : Dp := match x with
 | .ok (d, _) => d
 | .error _ => ⟨.zero, 0⟩
def leftT (x : PR Dp) : List PT := match x with
 | .ok (_, l) => l
 | .error _ => []
/-- What a region holds in which a rule reads and an operator is made: where the parser is, and what lies in row gd. -/
def RegS (g t o gd B : Nat) (l0 l1 : List PT) (L0 : List Value) (d3 : Dp) (ok : Prop) (b6 b9 : Bool) (W : World) : Prop :=
 PS W g t (cond b6 l1 l0) o ∧ (b9 = false → Row W gd 155 L0) ∧ (b9 = true → ok ∧ ∃ u, Row W gd 155 (dpCs u d3) ∧ ExR W (fun q => B ≤ q ∧ q ≠ gd) u d3.e)
theorem RegS.keep {g t o gd B : Nat} {l0 l1 : List PT} {L0 : List Value} {d3 : Dp} {ok : Prop} {b6 b9 : Bool} {W W' : World} (h : RegS g t o gd B l0 l1 L0 d3 ok b6 b9 W) (hs : Same (fun _ => True) W W') : RegS g t o gd B l0 l1 L0 d3 ok b6 b9 W' :=
 ⟨h.1.keep hs, fun e => (h.2.1 e).keep hs tv, fun e => let ⟨a, u, b, c⟩ := h.2.2 e; ⟨a, u, b.keep hs tv, c.keepAll hs⟩⟩
abbrev TR (g gd : Nat) : Nat → Prop := fun q => q ≠ g ∧ q ≠ gd
def RuS (g gd B : Nat) (hg : g < B) (x : PR Dp) : SPT (TR g gd) :=
 ⟨fun v w => ∃ u, v = dpV u (valT x) ∧ ExR w (fun q => B ≤ q ∧ q ≠ gd) u (valT x).e ∧ x = .ok (valT x, leftT x), fun _ _ _ ⟨u, h1, h2, h3⟩ hs => ⟨u, h1, h2.keep (hs.mono fun q _ h => ⟨by have := h.1; omega, h.2⟩), h3⟩⟩
def SlS (g gd B : Nat) (hg : g < B) (ds : List Dp) (ok : Prop) : SPT (TR g gd) :=
 ⟨fun v w => DpR w (fun q => B ≤ q ∧ q ≠ gd) v ds ∧ ok, fun _ _ _ ⟨⟨us, h1, h2, h3⟩, ho⟩ hs => ⟨⟨us, h1, RowR.keep h2 (hs.mono fun q _ h => ⟨by have := h.1; omega, h.2⟩), fun i u d a b => (h3 i u d a b).keep (hs.mono fun q _ h => ⟨by have := h.1; omega, h.2⟩)⟩, ho⟩⟩
def OpS (g gd B : Nat) (hg : g < B) (d3 : Dp) (ok : Prop) : SPT (TR g gd) :=
 ⟨fun v w => ∃ u, v = dpV u d3 ∧ ExR w (fun q => B ≤ q ∧ q ≠ gd) u d3.e ∧ ok, fun _ _ _ ⟨u, h1, h2, h3⟩ hs => ⟨u, h1, h2.keep (hs.mono fun q _ h => ⟨by have := h.1; omega, h.2⟩), h3⟩⟩
theorem DpR.one {w : World} {S : Nat → Prop} {u : Value} {d : Dp} (hu : ExR w S u d.e) (hS : S w.heap.size) (hS' : ∀ q, S q → S q := fun _ h => h) : DpR (w.alloc (.cells (dpCs u d).toArray 155)) S (.slice (some ⟨w.heap.size, 0, none⟩) 1 1) [d] := by
 have hr := Row.new w 155 (dpCs u d);have hs := (Same.refl (fun _ => True) w).alloc (.cells (dpCs u d).toArray 155);refine ⟨[u], rfl, ⟨_, 1, rfl, Nat.le_refl _, by simp [maxLen], rfl, fun _ => ⟨_, rfl, hS, fun j v hv => ?_⟩⟩, fun i u' d' h1 h2 => ?_⟩
 ·rw [add_none, hr.cell];simpa [dpP] using hv
 ·cases i with
  | zero => simp at h1 h2; subst h1 h2; exact hu.keepAll hs
  | succ i => simp at h1
theorem DpR.two {w : World} {S : Nat → Prop} {u1 u2 : Value} {d1 d2 : Dp} (h1 : ExR w S u1 d1.e) (h2 : ExR w S u2 d2.e) (hS : S w.heap.size) : DpR (w.alloc (.cells (dpCs u1 d1 ++ dpCs u2 d2).toArray 155)) S (.slice (some ⟨w.heap.size, 0, none⟩) 2 2) [d1, d2] := by
 have hr := Row.new w 155 (dpCs u1 d1 ++ dpCs u2 d2);have hs := (Same.refl (fun _ => True) w).alloc (.cells (dpCs u1 d1 ++ dpCs u2 d2).toArray 155);refine ⟨[u1, u2], rfl, ⟨_, 2, rfl, Nat.le_refl _, by simp [maxLen], rfl, fun _ => ⟨_, rfl, hS, fun j v hv => ?_⟩⟩, fun i u' d' k1 k2 => ?_⟩
 ·rw [add_none, hr.cell];simpa [dpP] using hv
 ·match i, k1, k2 with
  | 0, k1, k2 => simp at k1 k2; subst k1 k2; exact h1.keepAll hs
  | 1, k1, k2 => simp at k1 k2; subst k1 k2; exact h2.keepAll hs
  | i + 2, k1, k2 => simp at k1
theorem rule_results {W : World} {k : Nat} {u : Value} {d : Dp} (R : Row W k 155 (dpCs u d)) {tmps : Array Value} (h1 : tmps.getD 4 undef = .pointer (some ⟨k, 0, none⟩)) :
  (results Tryz.f128 tmps).run Tryz.prog W = .ok (dpV u d) W := by
 have d0 : W.cell? ⟨k, 0, none⟩ = some (.int .i64 d.e.kind) := R.cell 0;have d1 : W.cell? ⟨k, 1, none⟩ = some (.string (str d.e.s)) := R.cell 1;have d2 : W.cell? ⟨k, 2, none⟩ = some (.int .i64 d.e.v.kind) := R.cell 2;have d3 : W.cell? ⟨k, 3, none⟩ = some (.int .i64 d.e.v.n) := R.cell 3;have d4 : W.cell? ⟨k, 4, none⟩ = some (.string (str d.e.v.s)) := R.cell 4;have d5 : W.cell? ⟨k, 5, none⟩ = some u := R.cell 5;have d6 : W.cell? ⟨k, 6, none⟩ = some (.int .i64 d.n) := R.cell 6;simp at h1;simp [results, Tryz.results128, h1, go_sem, d0, d1, d2, d3, d4, d5, d6]
theorem chain_results {W : World} {k : Nat} {u : Value} {d : Dp} (R : Row W k 155 (dpCs u d)) {tmps : Array Value} (h1 : tmps.getD 6 undef = .pointer (some ⟨k, 0, none⟩)) :
  (results Tryz.f134 tmps).run Tryz.prog W = .ok (dpV u d) W := by
 have d0 : W.cell? ⟨k, 0, none⟩ = some (.int .i64 d.e.kind) := R.cell 0;have d1 : W.cell? ⟨k, 1, none⟩ = some (.string (str d.e.s)) := R.cell 1;have d2 : W.cell? ⟨k, 2, none⟩ = some (.int .i64 d.e.v.kind) := R.cell 2;have d3 : W.cell? ⟨k, 3, none⟩ = some (.int .i64 d.e.v.n) := R.cell 3;have d4 : W.cell? ⟨k, 4, none⟩ = some (.string (str d.e.v.s)) := R.cell 4;have d5 : W.cell? ⟨k, 5, none⟩ = some u := R.cell 5;have d6 : W.cell? ⟨k, 6, none⟩ = some (.int .i64 d.n) := R.cell 6;simp at h1;simp [results, Tryz.results134, h1, go_sem, d0, d1, d2, d3, d4, d5, d6]
set_option maxRecDepth 100000 in
set_option maxHeartbeats 2000000 in
/-- A rule opens, the function's own part is done, it closes. -/
theorem rule_any (g t o : Nat) (ho : o < 200) (fm : FuncId) (hen : ∀ (args : Array Value) (w : World), (callFunc fm args).run Tryz.prog w = .ok (.enter fm args) w) (F : List PT → PR Dp) (hF : ∀ (l : List PT) (w : World), PS w g t l (o + 1) → Calls Tryz.prog fm #[pV g] w (DoP g t (o + 1) (F l) (DpG w.heap.size) w)) : RuleC g t o (.func (.func fm) #[pV g] #[]) F := by
 intro l w h;have H := LH h;have hg := h.lt;obtain ⟨off, c, hrow, -⟩ := h.open_;have b1 := hrow.cell 1;simp only [LG] at b1;have f1 := hrow.frozen 1;have ho1 : (0 : Int) ≤ (o : Int) := by omega
 have ho2 : ¬ (200 : Int) < (o : Int) + 1 := by omega
 have hp0 := (h.opened (o' := o + 1) (by omega) (v := .int .i64 ((o : Int) + 1)) (by simp)).keep ((ST).alloc (.cells zdp.toArray 155));have hS0 : Same (fun q => q ≠ g) w ((w.setCell ⟨g, 1, none⟩ (.int .i64 ((o : Int) + 1))).alloc (.cells zdp.toArray 155)) := ((Same.refl _ w).setCell (fun _ h => h rfl) _).alloc _;have r0 := Row.new (w.setCell ⟨g, 1, none⟩ (.int .i64 ((o : Int) + 1))) 155 zdp;have hz0 : ((w.setCell ⟨g, 1, none⟩ (.int .i64 ((o : Int) + 1))).alloc (.cells zdp.toArray 155)).heap.size = w.heap.size + 1 := by rw [World.size_alloc, size_set]
 have r0 : Row ((w.setCell ⟨g, 1, none⟩ (.int .i64 ((o : Int) + 1))).alloc (.cells zdp.toArray 155)) w.heap.size 155 zdp := by rw [size_set] at r0; exact r0
 clear h hrow;go_enter Tryz.func128, Tryz.ntmps128;go_wp2;simp only [zdp] at hp0 hS0 r0 hz0;revert hp0 hS0 r0 hz0;generalize (w.setCell _ _).alloc _ = w0;intro hp0 hS0 hz0 r0;have h1 := hF l w0 hp0;refine h1.mono ?_;clear h1;intro e w1 h1;cases hx : F l with
 | error p =>
  rw [hx] at h1;obtain ⟨rfl, hS1⟩ := h1;exact ⟨rfl, DoP.err ⟨rfl, hS1⟩ hS0 fun _ h => h⟩
 | ok q =>
  obtain ⟨d, l1⟩ := q;rw [hx] at h1;obtain ⟨v, rfl, ⟨u, rfl, hex⟩, hp1, hS1⟩ := h1;obtain ⟨Au, cu, rfl, -, -⟩ := hex.toL.form;generalize d.e.args.length = nu at *;have hg1 := hp1.lt;obtain ⟨off1, c1, hrow1, -⟩ := hp1.open_;have b1 := hrow1.cell 1;simp only [LG] at b1;rw [show ((o + 1 : Nat) : Int) = (o : Int) + 1 from by omega] at b1;have f1 := hrow1.frozen 1;have r1 := r0.keep hS1 (by omega);have hz1 := hS1.size;obtain ⟨q0, q1, q2, q3, q4, q5, q6⟩ := CN7 r1;obtain ⟨x0, x1, x2, x3, x4, x5, x6⟩ := FN7 r1;have zr := r1.lt;have HX := LH hx;have HE := LH hex;have HP1 := LH hp1;have HS1 := LH (hS0.trans hS1);have R1 := LH r1;clear hx hex hp1 hS0 hS1 r1 r0 hrow1 hp0;obtain ⟨l3, l4, l5⟩ := H.out.lt3;have hp2 := HP1.out.opened (o' := o) (by omega) (v := .int .i64 (o : Int)) rfl;have hs2 : Same (fun q => q ≠ g) w1 (w1.setCell ⟨g, 1, none⟩ (.int .i64 (o : Int))) := SR.setCell (fun _ h => h rfl) _;have hs3 : Same (fun q => q ≠ w.heap.size) (w1.setCell ⟨g, 1, none⟩ (.int .i64 (o : Int))) (setsW (w1.setCell ⟨g, 1, none⟩ (.int .i64 (o : Int))) w.heap.size 0 (dpCs (.slice Au nu cu) d)) := Same.sets (fun h => h rfl) _ 0 SR;have hs4 := (Same.refl (fun _ => True) (setsW (w1.setCell ⟨g, 1, none⟩ (.int .i64 (o : Int))) w.heap.size 0 (dpCs (.slice Au nu cu) d))).alloc (.cells (dpCs (.slice Au nu cu) d).toArray 155);have hp4 := (hp2.keepB hs3 (by omega) (by omega) (by omega)).keep hs4;have hr4 := ((R1.out.keep hs2 (by omega)).sets (dpCs (.slice Au nu cu) d) 0).keep hs4 tv;have hx4 := ((HE.out.keep (hs2.mono fun q _ (h : w0.heap.size ≤ q) => by omega)).keep (hs3.mono fun q _ (h : w0.heap.size ≤ q) => by omega)).keepAll hs4;have hS4 : Same (fun q => q ≠ g) w (setsW (w1.setCell ⟨g, 1, none⟩ (.int .i64 (o : Int))) w.heap.size 0 (dpCs (.slice Au nu cu) d)) := Same.sets' (Nat.le_refl _) _ 0 (HS1.out.trans hs2);have HP4 := LH hp4;have HR4 := LH hr4;have HX4 := LH (hx4.mono (S' := fun q => w.heap.size ≤ q) fun q _ (h : w0.heap.size ≤ q) => by omega);have HS4 := LH (hS4.trans (hs4.mono fun _ _ _ => tv));clear hp2 hs2 hs3 hs4 hp4 hr4 hx4 hS4;go_wp2;refine bodyPost_ret (rule_results (u := .slice Au nu cu) (d := d) (show Row _ _ _ (dpCs (.slice Au nu cu) d) from HR4.out) rfl) rfl ?_;rw [HX.out];exact ⟨_, rfl, ⟨_, rfl, HX4.out⟩, HP4.out, HS4.out⟩
set_option maxRecDepth 100000 in
set_option maxHeartbeats 4000000 in
theorem chain_any (g t o : Nat) (fv : Value) (F : List PT → PR Dp) (hR : RuleC g t o fv F) (h16 : ∀ l, Shal (F l)) (hfit : ∀ l, EndOk l → Fit l (F l)) (ss : List (List UInt8)) (v : Value) (l : List PT) (w : World) (h : PS w g t l o) (hv : StrR w (fun q => q ≠ g) v ss) :
  Calls Tryz.prog 134 #[pV g, fv, v] w (DoP g t o (runT F ss l) (DpG w.heap.size) w) := by
 obtain ⟨l3, l4, l5⟩ := h.lt3;have Hv := LH (RowR.mono hv (by omega) (S' := fun q => q ≠ g ∧ q < w.heap.size) fun k hk h => ⟨h, hk⟩);have hS0 := (Same.refl (fun _ => True) w).alloc (.cells zdp.toArray 155);have r0 := Row.new w 155 zdp;have hz0 : (w.alloc (.cells zdp.toArray 155)).heap.size = w.heap.size + 1 := by simp
 have hp0 := h.keep hS0;have HR := LH hR;have H16 := LH h16;have Hfit := LH hfit;have H := LH h;clear h hv hR h16 hfit;go_enter Tryz.func134, Tryz.ntmps134;go_wp2_with (go_at_call 128; refine stopAt ?_);unfold Hid;simp only [zdp] at hp0 hS0 r0 hz0;revert hp0 hS0 r0 hz0;generalize w.alloc _ = w0;intro hS0 r0 hz0 hp0;have h1 := HR.out l w0 hp0;refine h1.mono ?_;clear h1;intro e w1 h1;cases hx : F l with
 | error p =>
  rw [hx] at h1;obtain ⟨rfl, hS1⟩ := h1
  have hd : DoP g t o (runT F ss l) (DpG w.heap.size) w (.panicked [{ v := failV p.1 p.2, recovered := false }]) w1 := by
   unfold runT;rw [hx];exact DoP.err ⟨rfl, hS1⟩ hS0
  exact ⟨rfl, hd⟩
 | ok q =>
  obtain ⟨d, l1⟩ := q;rw [hx] at h1;obtain ⟨v1, rfl, ⟨u, rfl, hex⟩, hp1, hS1⟩ := h1;obtain ⟨Au, cu, rfl, -, -⟩ := hex.toL.form;generalize d.e.args.length = nu at *;have hd16 := H16.out l d l1 hx;obtain ⟨X, hX⟩ : ∃ X, X = runT F ss l := ⟨_, rfl⟩;have hX1 : chainT F ss l1.length d l1 = X := by rw [hX]; unfold runT; rw [hx]; rfl
  have hz1 := hS1.size;have r1 := r0.keep hS1 (by omega);have rd := Row.new w1 155 (dpCs (.slice Au nu cu) d);have hSd := (Same.refl (fun _ => True) w1).alloc (.cells (dpCs (.slice Au nu cu) d).toArray 155);have hzd : (w1.alloc (.cells (dpCs (.slice Au nu cu) d).toArray 155)).heap.size = w1.heap.size + 1 := by simp
  have HX := LH hX1;have HXd := LH hX;have HS1 := LH ((hS0.mono (S' := fun q => q ≠ g) fun _ _ _ => tv).trans hS1);have HE := LH (hex.mono (S' := fun q => w.heap.size + 1 ≤ q ∧ q < w1.heap.size) fun q hq (h : w0.heap.size ≤ q) => ⟨by omega, hq⟩);have HP := LH hp1;have R1 := LH r1;clear hx hX hX1 hex hp1 hS0 hS1 r0 r1 hp0;go_wp2_with (go_at_call 38; refine stopAt ?_);simp only [dpCs] at rd hSd hzd;revert rd hSd hzd;generalize w1.alloc _ = w2;intro rd hSd hzd;obtain ⟨gd, hgd⟩ : ∃ gd, gd = w1.heap.size := ⟨_, rfl⟩;rw [← hgd] at rd hzd HE ⊢;have HP2 := LH (HP.out.keep hSd);have HE2 := LH ((HE.out.mono (S' := fun q => w.heap.size + 1 ≤ q ∧ q ≠ gd) fun q _ h => ⟨h.1, by have := h.2; omega⟩).keepAll hSd);have HRD := LH rd;have HR2 := LH (R1.out.keep hSd tv);have HS2 := LH (HS1.out.trans (hSd.mono (S' := fun q => q ≠ g) fun _ _ _ => tv));have hgw : w.heap.size + 1 ≤ gd := by omega
  clear rd hSd HE R1 hgd;go_loopw [] (fun wr => ∃ (k : Nat) (d : Dp) (l' : List PT) (u : Value), chainT F ss k d l' = X ∧ l'.length ≤ k ∧ d.n ≤ 16 ∧ PS wr g t l' o ∧ Row wr gd 155 (dpCs u d) ∧ ExR wr (fun q => w.heap.size + 1 ≤ q ∧ q ≠ gd) u d.e ∧ Same (fun q => q ≠ g ∧ q ≠ gd) w2 wr) (fun wr => tokLen wr g)
  case atStart => exact ⟨_, d, l1, _, HX.out, Nat.le_refl _, hd16, HP2.out, HRD.out, HE2.out, Same.refl _ _⟩
  case round =>
   obtain ⟨k, d, l', u, hX, hk, hd16, hp, hr, hex, hS⟩ := hrel;clear HX HP2 HRD HE2 HP;obtain ⟨Au, cu, rfl, -, -⟩ := hex.toL.form;generalize d.e.args.length = nu at *;have hzr := hS.size;have hrr := HR2.out.keep hS (by omega);have hS3 : Same (fun q => q ≠ g) w wr := HS2.out.trans' hS fun q hq h => ⟨h, by omega⟩
   have hb := begins_any g t l' o ss v _ wr hp (RowR.keep (S := fun q => q ≠ g ∧ q < w.heap.size) Hv.out (hS3.mono fun q _ h => h.1));have HRR := LH hrr;have HRD := LH hr;have HE := LH hex;have HS := LH hS;have HS3 := LH hS3;have HP := LH hp;have HPw := HP;have Hk := LH hk;clear hr hex hS hS3 hrr;cases hq : beginsT ss l'
   ·rw [hq] at hb
    have hXe : X = .ok (d, l') := by
     rw [← hX];cases k with
     | zero => rfl
     | succ k => unfold chainT; rw [hq]; rfl
    have HXe := LH hXe;clear hX hXe hq hp;go_wp2_with (go_at_call 38; refine stopAt ?_);unfold Hid;refine hb.mono ?_;rintro e wb ⟨rfl, hSb⟩;have hrd := HRD.out.keep hSb tv;have hrr := HRR.out.keep hSb tv;have HPb := LH (HP.out.keep hSb);have HEb := LH (HE.out.keepAll hSb);have HSb := LH (HS3.out.trans (hSb.mono (S' := fun q => q ≠ g) fun _ _ _ => tv));obtain ⟨p0, p1, p2, p3, p4, p5, p6⟩ := CN7 hrd;obtain ⟨q0, q1, q2, q3, q4, q5, q6⟩ := CN7 hrr;obtain ⟨x0, x1, x2, x3, x4, x5, x6⟩ := FN7 hrr;have zr := hrr.lt;have HRR := LH hrr;clear hrd hrr hSb hb;have hss : Same (fun q => q ≠ w.heap.size) wb (setsW wb w.heap.size 0 (dpCs (.slice Au nu cu) d)) := Same.sets (fun h => h rfl) _ 0 SR;have hA := (HEb.out.keep (hss.mono (S' := fun q => w.heap.size + 1 ≤ q ∧ q ≠ gd) fun q _ h => by have := h.1; omega)).mono (S' := fun q => w.heap.size ≤ q) fun q _ h => by have := h.1; omega
    have hB := HPb.out.keepB hss (by omega) (by omega) (by omega);have hC := Same.sets' (Nat.le_refl w.heap.size) (dpCs (.slice Au nu cu) d) 0 HSb.out;have hD := HRR.out.sets (dpCs (.slice Au nu cu) d) 0;have HA := LH hA;have HB := LH hB;have HC := LH hC;have HD := LH hD;clear hss hA hB hC hD;go_wp2;refine bodyPost_ret (chain_results (u := .slice Au nu cu) (d := d) (show Row _ _ _ (dpCs (.slice Au nu cu) d) from HD.out) rfl) rfl ?_;rw [← HXd.out, HXe.out];exact ⟨_, rfl, ⟨_, rfl, HA.out⟩, HB.out, HC.out⟩
   ·rw [hq] at hb;have hkd := begins_kind hq;obtain ⟨k, rfl⟩ : ∃ m, k = m + 1 := ⟨k - 1, by have := hp.end_.pos; omega⟩
    have hX' : thenT (F l'.tail) (fun d2 l2 => thenT (opT (hdT l').1 (hdT l').2.s [d, d2] l2) fun d3 l3 => chainT F ss k d3 l3) = X := by
     rw [← hX]
     conv => rhs; unfold chainT
     rw [hq];rfl
    have Hq := LH hX';have Hkd := LH hkd;clear hX hX' hq hp hkd;go_wp2_with (go_at_call 38; refine stopAt ?_);unfold Hid;refine hb.mono ?_;rintro e wb ⟨rfl, hSb⟩;have hpb := HP.out.keep hSb;obtain ⟨off, c, hrow, hc, hm, hl, hl2, hc1, t0, t1, t2, t3, hN⟩ := PS.step hpb Hkd.out;obtain ⟨m3, m4, m5⟩ := hpb.lt3;unfold maxLen at hm;have b0 := hrow.cell 0;simp only [List.getElem?_cons_zero] at b0;have f0 := hrow.frozen 0;have hl0 : (0 : Int) < (l'.length : Int) := by omega
    obtain ⟨tk, htk⟩ : ∃ tk, tk = hdT l' := ⟨_, rfl⟩;have htl := (hpb.end_.tail Hkd.out);have HTL := LH htl;rw [← htk] at t0 t1 t2 t3 Hq;clear htk;have rk := Row.new (wb.setCell ⟨g, 0, none⟩ (.slice (some ⟨t, off + 4, none⟩) (l'.length - 1) (c - 1))) 75 (tokCs tk);rw [size_set] at rk;have hSk := (Same.refl (fun _ => True) (wb.setCell ⟨g, 0, none⟩ (.slice (some ⟨t, off + 4, none⟩) (l'.length - 1) (c - 1)))).alloc (.cells (tokCs tk).toArray 75);have hzk : ((wb.setCell ⟨g, 0, none⟩ (.slice (some ⟨t, off + 4, none⟩) (l'.length - 1) (c - 1))).alloc (.cells (tokCs tk).toArray 75)).heap.size = wb.heap.size + 1 := by rw [World.size_alloc, size_set]
    have hSg : Same (fun q => q ≠ g) wb (wb.setCell ⟨g, 0, none⟩ (.slice (some ⟨t, off + 4, none⟩) (l'.length - 1) (c - 1))) := SR.setCell (fun _ h => h rfl) _;have hpk := hN.keep hSk;have hzb := hSb.size;have hSbk := hSg.trans (hSk.mono (S' := fun q => q ≠ g) fun _ _ _ => tv);have HRD3 := LH ((HRD.out.keep hSb tv).keep hSbk (by omega));have HRR3 := LH ((HRR.out.keep hSb tv).keep hSbk (by omega));have HE3 := LH ((HE.out.keepAll hSb).keep (hSbk.mono fun q _ h => by have := h.1; omega));have HS3 := LH ((HS3.out.trans (hSb.mono (S' := fun q => q ≠ g) fun _ _ _ => tv)).trans hSbk);have HSr := LH ((HS.out.trans (hSb.mono (S' := fun q => q ≠ g ∧ q ≠ gd) fun _ _ _ => tv)).trans (hSbk.mono (S' := fun q => q ≠ g ∧ q ≠ gd) fun _ _ h => h.1));clear hpb hrow hN hSg hSb hb htl HRD HRR HE HS HP;go_upto_region 5 with (fail);simp only [tokCs] at rk hSk hzk hpk HRD3 HRR3 HE3 HS3 HSr;revert rk hSk hzk hpk HRD3 HRR3 HE3 HS3 HSr hSbk;generalize ((wb.setCell _ _).alloc _) = w3;intro rk hSk hzk hpk hSbk HRD3 HRR3 HE3 HS3 HSr;obtain ⟨gk, hgk⟩ : ∃ gk, gk = wb.heap.size := ⟨_, rfl⟩;rw [← hgk] at rk ⊢;have Hgk := LH hgk;obtain ⟨k0, k1, k2, k3⟩ := CN4 rk;obtain ⟨x, hxe⟩ : ∃ x, x = F l'.tail := ⟨_, rfl⟩;have Hxe := LH hxe;have hz3 : wb.heap.size + 1 = w3.heap.size := hzk.symm;have hgB : g < w.heap.size + 1 := by omega
    have htok : TR g gd gk := ⟨by omega, by omega⟩;have HXr : Hid (∀ p, x = .error p → runT F ss l = .error p) := LH fun p hp => by rw [← HXd.out, ← Hq.out, ← hxe, hp]; rfl
    have HXo : Hid (x = .ok (valT x, leftT x) → 16 < deepOf [d, valT x] + 1 → runT F ss l = .error (tk.1, 3)) := LH fun hp hd => by
     rw [← HXd.out, ← Hq.out, ← hxe]
     conv => lhs; rw [hp]
     rw [thenT_ok];unfold opT;rw [if_pos hd];rfl
    have HXk : Hid (x = .ok (valT x, leftT x) → deepOf [d, valT x] ≤ 15 → chainT F ss k (opD tk.2.s [d, valT x]) (leftT x) = X) := LH fun hp hd => by
     rw [← Hq.out, ← hxe]
     conv => rhs; rw [hp]
     rw [thenT_ok, opT_ok hd, thenT_ok]
    have HD16 : Hid (x = .ok (valT x, leftT x) → ∀ d' ∈ [d, valT x], d'.n ≤ 1000000) := LH fun hp d' hd' => by
     have := H16.out l'.tail (valT x) (leftT x) (hxe.symm.trans hp);simp only [List.mem_cons, List.not_mem_nil, or_false] at hd';rcases hd' with rfl | rfl <;> omega
    have HFT : Hid (x = .ok (valT x, leftT x) → (leftT x).length + 1 ≤ l'.length) := LH fun hp => by
     have := (Hfit.out l'.tail HTL.out.1 (valT x) (leftT x) (hxe.symm.trans hp)).2;have := HTL.out.2;omega
    have HEd : Hid (∀ wc, Same (TR g gd) w3 wc → ExR wc (fun q => w.heap.size + 1 ≤ q ∧ q ≠ gd) (.slice Au nu cu) d.e) := LH fun wc hs => HE3.out.keep (hs.mono fun q _ h => ⟨by have := h.1; omega, h.2⟩)
    have HST : Hid (RegS g t o gd (w.heap.size + 1) l'.tail (leftT x) (dpCs (.slice Au nu cu) d) (opD tk.2.s [d, valT x]) (x = .ok (valT x, leftT x) ∧ deepOf [d, valT x] ≤ 15) false false w3.drew) := LH (RegS.keep (W := w3) ⟨hpk, fun _ => HRD3.out, fun h => by cases h⟩ SR.drew);clear hxe rk hSk hpk hSbk t0 t1 t2 t3 b0 f0 hgk;refine wp_region_full_lit (T := TR g (gd)) (L := [some (.eq (tokV4 tk)), some (.eq (.pointer (some ⟨gk, 2, none⟩))), some (.eq (.string (str tk.2.s))), some (.eq (dpV (.slice Au nu cu) d)), some (.eq (pV g)), some (.eq fv), some (RuS g (gd) (w.heap.size + 1) hgB x), some (SlS g (gd) (w.heap.size + 1) hgB [d, valT x] (x = .ok (valT x, leftT x))), some (OpS g (gd) (w.heap.size + 1) hgB (opD tk.2.s [d, valT x]) (x = .ok (valT x, leftT x) ∧ deepOf [d, valT x] ≤ 15)), none]) (fun f _ W => RegS g t o (gd) (w.heap.size + 1) l'.tail (leftT x) (dpCs (.slice Au nu cu) d) (opD tk.2.s [d, valT x]) (x = .ok (valT x, leftT x) ∧ deepOf [d, valT x] ≤ 15) (f 6) (f 9) W) (by kernel_rfl) (by kernel_rfl) (by rfl) rfl ?_ ?_ ?_
    ·exact HST.out
    ·refine ⟨?_, ?_, ?_, ?_, ?_, ?_, ?_, ?_, ?_, ?_, tv⟩
     all_goals (intro ac wc f hs hst hni hwt hdn hd hz hf hw K hK;generalize hU : valF _ ac = U at hst hK)
     ·have e0 := EP 8 gk 0 (hf 8 rfl);have m0 := MC k0 hs htok;have m1 := MC k1 hs htok;have m2 := MC k2 hs htok;have m3 := MC k3 hs htok;clear hd hz hf hw;simp only [if_true, RL, e0];go_simp;exact hK _ _ (fun _ => rfl) SR hst
     ·have e0 := EP 8 gk 0 (hf 8 rfl);clear hd hz hf hw;simp only [if_true, RL, e0];go_simp;exact hK _ _ (fun _ => rfl) SR hst
     ·have e0 := EP 30 gk 2 (hw 1 rfl);have m0 := MC k2 hs htok;clear hd hz hf hw;simp only [if_true, RL, e0];go_simp;exact hK _ _ (fun _ => rfl) SR hst
     ·have e0 := EP 7 gd 0 (hf 7 rfl)
      have h9 : f 9 = false := by
       cases h : f 9 with
       | false => rfl
       | true => (have h8 := hdn 9 8 rfl h; have h7 := hdn 8 7 rfl h8; have h6 := hdn 7 3 rfl h7; rw [hni] at h6; cases h6)
      have hr_ := hst.2.1 h9;obtain ⟨m0, m1, m2, m3, m4, m5, m6⟩ := CN7 hr_;clear hr_;clear hd hz hf hw;simp only [if_true, RL, e0];go_simp;exact hK _ _ (fun _ => rfl) SR hst
     ·have e0 := EV 0 (pV g) (hf 0 rfl);clear hd hz hf hw;simp only [if_true, RL, e0];go_simp;exact hK _ _ (fun _ => rfl) SR hst
     ·have e0 := EV 1 fv (hf 1 rfl);clear hd hz hf hw;simp only [if_true, RL, e0];go_simp;exact hK _ _ (fun _ => rfl) SR hst
     ·have e0 := EV 33 (pV g) (hw 4 rfl);have e1 := EV 34 fv (hw 5 rfl);have Hdf := LH (show ac.defers = [] from hd)
      have h9 : f 9 = false := by
       cases h : f 9 with
       | false => rfl
       | true => (have h8 := hdn 9 8 rfl h; have h7 := hdn 8 7 rfl h8; have h6 := hdn 7 6 rfl h7; rw [hni] at h6; cases h6)
      have hps : PS wc g t l'.tail o := by
       have := hst.1;rw [hni] at this;exact this
      have hrd := hst.2.1 h9;clear hd hz hf hw;simp only [if_true, RL, e0, e1];go_simp;refine (HR.out l'.tail wc hps).mono ?_;intro e wd h1;cases hx : F l'.tail with
      | error p =>
       rw [hx] at h1;obtain ⟨rfl, hSp⟩ := h1
       have hq : DoP g t o (runT F ss l) (DpG w.heap.size) w (.panicked [{ v := failV p.1 p.2, recovered := false }]) wd := by
        rw [HXr.out p (Hxe.out.trans hx)];exact DoP.err ⟨rfl, hSp⟩ (HS3.out.trans' hs fun q hq h => ⟨h, by omega⟩) fun _ h => h
       exact ⟨Hdf.out, hq⟩
      | ok q =>
       rw [hx] at h1;obtain ⟨v', rfl, ⟨u2, rfl, hex2⟩, hp2, hS2⟩ := h1;have hxx : x = .ok (valT x, leftT x) := by rw [Hxe.out, hx]; rfl
       have hx1 : valT x = q.1 := by rw [Hxe.out, hx]; rfl
       have hx2 : leftT x = q.2 := by rw [Hxe.out, hx]; rfl
       have hzc := hs.size;refine hK _ _ (fun _ => ⟨u2, by rw [hx1], by rw [hx1]; exact hex2.mono fun k hk (h : wc.heap.size ≤ k) => ⟨by omega, by omega⟩, hxx⟩) (hS2.mono fun k hk h => h.1) ⟨?_, ?_, ?_⟩
       ·show PS wd g t (leftT x) o;rw [hx2];exact hp2
       ·intro _;exact hrd.keep hS2 (by omega)
       ·intro h;have h : f 9 = true := h;rw [h9] at h;cases h
     ·have e0 := EV 32 (dpV (.slice Au nu cu) d) (hw 3 rfl);have p1 : (RuS g (gd) (w.heap.size + 1) hgB x : SPT (TR g (gd))).p (ac.eval (.tmp 35)) wc := hw 6 rfl;obtain ⟨u1, e1⟩ : ∃ u, ac.eval (.tmp 35) = u := ⟨_, rfl⟩;have v1 : U 6 = u1 := by rw [← hU]; exact e1
      rw [e1] at p1;obtain ⟨u2, rfl, hex2, hxx⟩ := p1;obtain ⟨A2, c2, rfl, -, -⟩ := hex2.toL.form;have Hxx := LH hxx;clear hxx;have Hex2 := LH hex2;clear hex2;clear hd hz hf hw;simp only [if_true, RL, e0, e1];go_simp;have hzc := hs.size;have hex2 := Hex2.out;have hxx := Hxx.out;exact hK _ _ (fun _ => ⟨DpR.two (HEd.out wc hs) hex2 ⟨by omega, by omega⟩, hxx⟩) (SR.alloc _) (RegS.keep hst (SR.alloc _))
     ·have e0 := EV 29 (tokV4 tk) (hw 0 rfl);have e1 := EV 31 (.string (str tk.2.s)) (hw 2 rfl);have p2 : (SlS g (gd) (w.heap.size + 1) hgB [d, valT x] (x = .ok (valT x, leftT x)) : SPT (TR g (gd))).p (ac.eval (.tmp 36)) wc := hw 7 rfl;obtain ⟨u2, e2⟩ : ∃ u, ac.eval (.tmp 36) = u := ⟨_, rfl⟩;have v2 : U 7 = u2 := by rw [← hU]; exact e2
      rw [e2] at p2;have Hdf := LH (show ac.defers = [] from hd);have HSB := LH p2;clear p2;clear hd hz hf hw;simp only [if_true, RL, e0, e1, e2];go_simp;obtain ⟨hsb, hxx⟩ := HSB.out;refine (op_any tk tk.2.s _ [d, valT x] _ wc hsb (by simp) (HD16.out hxx)).mono ?_;intro e wd ⟨hA1, hA2, hS2⟩;have hzc := hs.size;by_cases hdp : 16 < deepOf [d, valT x] + 1
      ·obtain rfl := hA1 hdp
       have hq : DoP g t o (runT F ss l) (DpG w.heap.size) w (.panicked [{ v := failV tk.1 3, recovered := false }]) wd := by
        rw [HXo.out hxx hdp];exact DoP.err ⟨rfl, hS2.mono fun _ _ _ => tv⟩ (HS3.out.trans' hs fun q hq h => ⟨h, by omega⟩) fun _ h => h
       exact ⟨Hdf.out, hq⟩
      ·obtain ⟨u3, rfl, hex3⟩ := hA2 hdp;exact hK _ _ (fun _ => ⟨u3, rfl, hex3.mono fun k hk h => h.elim id fun h => ⟨by omega, by omega⟩, hxx, by omega⟩) (hS2.mono fun _ _ _ => tv) (RegS.keep hst hS2)
     ·have e0 := EP 7 gd 0 (hf 7 rfl);have p1 : (OpS g (gd) (w.heap.size + 1) hgB (opD tk.2.s [d, valT x]) (x = .ok (valT x, leftT x) ∧ deepOf [d, valT x] ≤ 15) : SPT (TR g (gd))).p (ac.eval (.tmp 37)) wc := hw 8 rfl;obtain ⟨u1, e1⟩ : ∃ u, ac.eval (.tmp 37) = u := ⟨_, rfl⟩;have v1 : U 8 = u1 := by rw [← hU]; exact e1
      rw [e1] at p1;obtain ⟨u3, rfl, hex3, hok⟩ := p1;have Hok := LH hok;clear hok;obtain ⟨A3, c3, rfl, -, -⟩ := hex3.toL.form;generalize (opD tk.2.s [d, valT x]).e.args.length = n3 at *;have hr_ := hst.2.1 hni;obtain ⟨m0, m1, m2, m3, m4, m5, m6⟩ := CN7 hr_;obtain ⟨n0_, n1_, n2_, n3_, n4_, n5_, n6_⟩ := FN7 hr_;have zr := hr_.lt;clear hd hz hf hw;simp only [if_true, RL, e0, e1];go_simp;have hss : Same (fun q => q ≠ gd) wc (setsW wc (gd) 0 (dpCs (.slice A3 n3 c3) (opD tk.2.s [d, valT x]))) := Same.sets (fun h => h rfl) _ 0 SR;have hA := hst.1.keepB hss (by omega) (by omega) (by omega);have hB := hr_.sets (dpCs (.slice A3 n3 c3) (opD tk.2.s [d, valT x])) 0;have hC := hex3.keep (hss.mono (S' := fun q => w.heap.size + 1 ≤ q ∧ q ≠ gd) fun k _ h => h.2);have hD := hss.mono (S' := TR g (gd)) fun k _ h => h.2
      refine hK undef _ (fun h => (by cases h)) ?_ ⟨?_, ?_, ?_⟩
      ·exact hD
      ·exact hA
      ·exact fun h => (by cases h)
      ·exact fun _ => ⟨Hok.out, .slice A3 n3 c3, hB, hC⟩
    ·intro vs wR f hvl hvp hsR hst hfR;obtain ⟨z0, z1, z2, z3, z4, z5, z6, z7, z8, z9, rfl⟩ := LN10 hvl
     ·obtain rfl : z0 = (tokV4 tk) := hvp 0 (by simp);obtain rfl : z1 = (.pointer (some ⟨gk, 2, none⟩)) := hvp 1 (by simp);obtain rfl : z2 = (.string (str tk.2.s)) := hvp 2 (by simp);obtain rfl : z3 = (dpV (.slice Au nu cu) d) := hvp 3 (by simp);obtain rfl : z4 = (pV g) := hvp 4 (by simp);obtain rfl : z5 = fv := hvp 5 (by simp);have hru : (RuS g (gd) (w.heap.size + 1) hgB x : SPT (TR g (gd))).p z6 wR := hvp 6 (by simp);have hsb : (SlS g (gd) (w.heap.size + 1) hgB [d, valT x] (x = .ok (valT x, leftT x)) : SPT (TR g (gd))).p z7 wR := hvp 7 (by simp);have hpo : (OpS g (gd) (w.heap.size + 1) hgB (opD tk.2.s [d, valT x]) (x = .ok (valT x, leftT x) ∧ deepOf [d, valT x] ≤ 15) : SPT (TR g (gd))).p z8 wR := hvp 8 (by simp);clear hvl hvp;simp only [putAll, Act.put, LP];clear hru hsb hpo;have hst := hst;rw [hfR 6, hfR 9] at hst;obtain ⟨hpR, -, hnew⟩ := hst;obtain ⟨⟨hxx, hdo⟩, u3, hrN, hexN⟩ := hnew rfl;have hpR : PS wR g t (leftT x) o := hpR;have hlen1 := hpR.len;have hlen2 := HPw.out.len;go_wp2;go_roundw
      case rel => exact ⟨k, _, leftT x, u3, HXk.out hxx hdo, by have := HFT.out hxx; have := Hk.out; omega, by show deepOf [d, valT x] + 1 ≤ 16; omega, hpR, hrN, hexN, HSr.out.trans hsR⟩
      case measure =>
       have := HFT.out hxx;have := Hk.out;omega
def strCs (ss : List (List UInt8)) : List Value := ss.map fun s => .string (str s)
theorem str_flat : ∀ ss : List (List UInt8), (ss.flatMap fun s => [Value.string (str s)]) = strCs ss
 | [] => rfl
 | a :: l => by rw [List.flatMap_cons, str_flat l]; rfl
theorem StrR.new (w : World) (g : Nat) (hg : g < w.heap.size) (ss : List (List UInt8)) (hn : ss.length ≤ maxLen) : StrR (w.alloc (.cells (strCs ss).toArray 9)) (fun q => q ≠ g) (.slice (some ⟨w.heap.size, 0, none⟩) ss.length ss.length) ss := by
 have hr := Row.new w 9 (strCs ss);have e := str_flat ss;refine ⟨_, _, rfl, Nat.le_refl _, hn, by rw [e]; simp [strCs], fun _ => ⟨_, rfl, by show w.heap.size ≠ g; omega, fun j u hu => ?_⟩⟩;rw [add_none, hr.cell, Nat.zero_add, ← e];exact hu
/-- A result that is written whole. -/
theorem fin_dp {w wa : World} {g t o : Nat} {l' : List PT} {u : Value} {d : Dp} (h : PS wa g t l' o) (h3 : g < w.heap.size ∧ t < w.heap.size ∧ 1 < w.heap.size) (hr : Row wa w.heap.size 155 zdp) (hx : ExR wa (fun q => w.heap.size + 1 ≤ q) u d.e) (hs : Same (fun q => q ≠ g) w wa) :
  Row (setsW wa w.heap.size 0 (dpCs u d)) w.heap.size 155 (dpCs u d) ∧ DpG w.heap.size d (setsW wa w.heap.size 0 (dpCs u d)) (dpV u d) ∧ PS (setsW wa w.heap.size 0 (dpCs u d)) g t l' o ∧ Same (fun q => q ≠ g) w (setsW wa w.heap.size 0 (dpCs u d)) := by
 have hss : Same (fun q => q ≠ w.heap.size) wa (setsW wa w.heap.size 0 (dpCs u d)) := Same.sets (fun h => h rfl) _ 0 SR;exact ⟨hr.sets (dpCs u d) 0, ⟨u, rfl, (hx.keep (hss.mono fun q _ (h : w.heap.size + 1 ≤ q) => by omega)).mono fun q _ (h : w.heap.size + 1 ≤ q) => by omega⟩, h.keepB hss (by omega) (by omega) (by omega), Same.sets' (Nat.le_refl _) _ 0 hs⟩
theorem or_results {W : World} {k : Nat} {u : Value} {d : Dp} (R : Row W k 155 (dpCs u d)) {tmps : Array Value} (h1 : tmps.getD 2 undef = .pointer (some ⟨k, 0, none⟩)) :
  (results Tryz.f129 tmps).run Tryz.prog W = .ok (dpV u d) W := by
 have d0 : W.cell? ⟨k, 0, none⟩ = some (.int .i64 d.e.kind) := R.cell 0;have d1 : W.cell? ⟨k, 1, none⟩ = some (.string (str d.e.s)) := R.cell 1;have d2 : W.cell? ⟨k, 2, none⟩ = some (.int .i64 d.e.v.kind) := R.cell 2;have d3 : W.cell? ⟨k, 3, none⟩ = some (.int .i64 d.e.v.n) := R.cell 3;have d4 : W.cell? ⟨k, 4, none⟩ = some (.string (str d.e.v.s)) := R.cell 4;have d5 : W.cell? ⟨k, 5, none⟩ = some u := R.cell 5;have d6 : W.cell? ⟨k, 6, none⟩ = some (.int .i64 d.n) := R.cell 6;simp at h1;simp [results, Tryz.results129, h1, go_sem, d0, d1, d2, d3, d4, d5, d6]
set_option maxRecDepth 100000 in
set_option maxHeartbeats 2000000 in
theorem or_any (g t o : Nat) (F : List PT → PR Dp) (hR : RuleC g t o (.func (.func 135) #[pV g] #[]) F) (h16 : ∀ l, Shal (F l)) (hfit : ∀ l, EndOk l → Fit l (F l)) (l : List PT) (w : World) (h : PS w g t l o) : Calls Tryz.prog 129 #[pV g] w (DoP g t o (runT F [wOR] l) (DpG w.heap.size) w) := by
 obtain ⟨l3, l4, l5⟩ := h.lt3;have HL3 := LH h.lt3;have hS0 := (Same.refl (fun _ => True) w).alloc (.cells zdp.toArray 155);have r0 := Row.new w 155 zdp;have hz0 : (w.alloc (.cells zdp.toArray 155)).heap.size = w.heap.size + 1 := by simp
 have hs1 := StrR.new (w.alloc (.cells zdp.toArray 155)) g (by omega) [wOR] (by simp [maxLen]);have hS1 := hS0.alloc (.cells (strCs [wOR]).toArray 9);have r1 := r0.keep ((ST).alloc (.cells (strCs [wOR]).toArray 9)) tv;have hz1 : ((w.alloc (.cells zdp.toArray 155)).alloc (.cells (strCs [wOR]).toArray 9)).heap.size = w.heap.size + 2 := by simp
 rw [hz0] at hs1;have hp1 := h.keep hS1;have hc := chain_any g t o (.func (.func 135) #[pV g] #[]) F hR h16 hfit [wOR] _ l _ hp1 hs1;simp only [List.length_cons, List.length_nil, Nat.zero_add, Nat.reduceAdd] at hc;clear hR h16 hfit hS0 r0 hs1 hz0;obtain ⟨X, hX⟩ : ∃ X, X = runT F [wOR] l := ⟨_, rfl⟩;rw [← hX] at hc ⊢;clear hX h;have hmf : ∀ (fn : Fn) (first cap : Array Value) (w : World), (Instr.makeFunc fn first cap).run Tryz.prog w = .ok (.func fn first cap) w := fun _ _ _ _ => rfl
 go_enter Tryz.func129, Tryz.ntmps129;go_wp2_with (go_at_call 134; refine stopAt ?_);unfold Hid;simp only [zdp, strCs, List.map_cons, List.map_nil, wOR, wAND, str] at hS1 r1 hz1 hp1 hc;revert hS1 r1 hz1 hp1 hc;generalize (w.alloc _).alloc _ = w1;intro hS1 r1 hz1 hp1 hc;refine hc.mono ?_;clear hc;intro e w2 h2;cases X with
 | error p =>
  obtain ⟨rfl, hS2⟩ := h2;exact ⟨rfl, DoP.err ⟨rfl, hS2⟩ hS1⟩
 | ok q =>
  obtain ⟨d, l2⟩ := q;obtain ⟨v, rfl, ⟨u, rfl, hex⟩, hp2, hS2⟩ := h2;obtain ⟨Au, cu, rfl, -, -⟩ := hex.toL.form;generalize d.e.args.length = nu at *;have HPx := LH hp2;have HRx : Hid (Row w2 w.heap.size 155 zdp) := LH (r1.keep hS2 (by omega));have HEx := LH (hex.mono (S' := fun q => w.heap.size + 1 ≤ q) fun q _ (h : w1.heap.size ≤ q) => by omega);have HSx := LH ((hS1.mono (S' := fun q => q ≠ g) fun _ _ _ => tv).trans hS2);clear hex hp2 hS1 hS2 r1 hp1;obtain ⟨hD, hG, hB, hC⟩ := fin_dp (u := .slice Au nu cu) (d := d) HPx.out HL3.out HRx.out HEx.out HSx.out;have HD := LH hD;have HG := LH hG;have HB := LH hB;have HC := LH hC;clear hD hG hB hC;have rr := HRx.out;obtain ⟨q0, q1, q2, q3, q4, q5, q6⟩ := CN7 rr;obtain ⟨x0, x1, x2, x3, x4, x5, x6⟩ := FN7 rr;have zr := rr.lt;clear rr;go_wp2;refine bodyPost_ret (or_results (u := .slice Au nu cu) (d := d) (show Row _ _ _ (dpCs (.slice Au nu cu) d) from HD.out) rfl) rfl ?_;exact ⟨_, rfl, HG.out, HB.out, HC.out⟩
theorem and_results {W : World} {k : Nat} {u : Value} {d : Dp} (R : Row W k 155 (dpCs u d)) {tmps : Array Value} (h1 : tmps.getD 2 undef = .pointer (some ⟨k, 0, none⟩)) :
  (results Tryz.f135 tmps).run Tryz.prog W = .ok (dpV u d) W := by
 have d0 : W.cell? ⟨k, 0, none⟩ = some (.int .i64 d.e.kind) := R.cell 0;have d1 : W.cell? ⟨k, 1, none⟩ = some (.string (str d.e.s)) := R.cell 1;have d2 : W.cell? ⟨k, 2, none⟩ = some (.int .i64 d.e.v.kind) := R.cell 2;have d3 : W.cell? ⟨k, 3, none⟩ = some (.int .i64 d.e.v.n) := R.cell 3;have d4 : W.cell? ⟨k, 4, none⟩ = some (.string (str d.e.v.s)) := R.cell 4;have d5 : W.cell? ⟨k, 5, none⟩ = some u := R.cell 5;have d6 : W.cell? ⟨k, 6, none⟩ = some (.int .i64 d.n) := R.cell 6;simp at h1;simp [results, Tryz.results135, h1, go_sem, d0, d1, d2, d3, d4, d5, d6]
set_option maxRecDepth 100000 in
set_option maxHeartbeats 2000000 in
theorem and_any (g t o : Nat) (F : List PT → PR Dp) (hR : RuleC g t o (.func (.func 143) #[pV g] #[]) F) (h16 : ∀ l, Shal (F l)) (hfit : ∀ l, EndOk l → Fit l (F l)) (l : List PT) (w : World) (h : PS w g t l o) : Calls Tryz.prog 135 #[pV g] w (DoP g t o (runT F [wAND] l) (DpG w.heap.size) w) := by
 obtain ⟨l3, l4, l5⟩ := h.lt3;have HL3 := LH h.lt3;have hS0 := (Same.refl (fun _ => True) w).alloc (.cells zdp.toArray 155);have r0 := Row.new w 155 zdp;have hz0 : (w.alloc (.cells zdp.toArray 155)).heap.size = w.heap.size + 1 := by simp
 have hs1 := StrR.new (w.alloc (.cells zdp.toArray 155)) g (by omega) [wAND] (by simp [maxLen]);have hS1 := hS0.alloc (.cells (strCs [wAND]).toArray 9);have r1 := r0.keep ((ST).alloc (.cells (strCs [wAND]).toArray 9)) tv;have hz1 : ((w.alloc (.cells zdp.toArray 155)).alloc (.cells (strCs [wAND]).toArray 9)).heap.size = w.heap.size + 2 := by simp
 rw [hz0] at hs1;have hp1 := h.keep hS1;have hc := chain_any g t o (.func (.func 143) #[pV g] #[]) F hR h16 hfit [wAND] _ l _ hp1 hs1;simp only [List.length_cons, List.length_nil, Nat.zero_add, Nat.reduceAdd] at hc;clear hR h16 hfit hS0 r0 hs1 hz0;obtain ⟨X, hX⟩ : ∃ X, X = runT F [wAND] l := ⟨_, rfl⟩;rw [← hX] at hc ⊢;clear hX h;have hmf : ∀ (fn : Fn) (first cap : Array Value) (w : World), (Instr.makeFunc fn first cap).run Tryz.prog w = .ok (.func fn first cap) w := fun _ _ _ _ => rfl
 go_enter Tryz.func135, Tryz.ntmps135;go_wp2_with (go_at_call 134; refine stopAt ?_);unfold Hid;simp only [zdp, strCs, List.map_cons, List.map_nil, wOR, wAND, str] at hS1 r1 hz1 hp1 hc;revert hS1 r1 hz1 hp1 hc;generalize (w.alloc _).alloc _ = w1;intro hS1 r1 hz1 hp1 hc;refine hc.mono ?_;clear hc;intro e w2 h2;cases X with
 | error p =>
  obtain ⟨rfl, hS2⟩ := h2;exact ⟨rfl, DoP.err ⟨rfl, hS2⟩ hS1⟩
 | ok q =>
  obtain ⟨d, l2⟩ := q;obtain ⟨v, rfl, ⟨u, rfl, hex⟩, hp2, hS2⟩ := h2;obtain ⟨Au, cu, rfl, -, -⟩ := hex.toL.form;generalize d.e.args.length = nu at *;have HPx := LH hp2;have HRx : Hid (Row w2 w.heap.size 155 zdp) := LH (r1.keep hS2 (by omega));have HEx := LH (hex.mono (S' := fun q => w.heap.size + 1 ≤ q) fun q _ (h : w1.heap.size ≤ q) => by omega);have HSx := LH ((hS1.mono (S' := fun q => q ≠ g) fun _ _ _ => tv).trans hS2);clear hex hp2 hS1 hS2 r1 hp1;obtain ⟨hD, hG, hB, hC⟩ := fin_dp (u := .slice Au nu cu) (d := d) HPx.out HL3.out HRx.out HEx.out HSx.out;have HD := LH hD;have HG := LH hG;have HB := LH hB;have HC := LH hC;clear hD hG hB hC;have rr := HRx.out;obtain ⟨q0, q1, q2, q3, q4, q5, q6⟩ := CN7 rr;obtain ⟨x0, x1, x2, x3, x4, x5, x6⟩ := FN7 rr;have zr := rr.lt;clear rr;go_wp2;refine bodyPost_ret (and_results (u := .slice Au nu cu) (d := d) (show Row _ _ _ (dpCs (.slice Au nu cu) d) from HD.out) rfl) rfl ?_;exact ⟨_, rfl, HG.out, HB.out, HC.out⟩
theorem sum_results {W : World} {k : Nat} {u : Value} {d : Dp} (R : Row W k 155 (dpCs u d)) {tmps : Array Value} (h1 : tmps.getD 2 undef = .pointer (some ⟨k, 0, none⟩)) :
  (results Tryz.f150 tmps).run Tryz.prog W = .ok (dpV u d) W := by
 have d0 : W.cell? ⟨k, 0, none⟩ = some (.int .i64 d.e.kind) := R.cell 0;have d1 : W.cell? ⟨k, 1, none⟩ = some (.string (str d.e.s)) := R.cell 1;have d2 : W.cell? ⟨k, 2, none⟩ = some (.int .i64 d.e.v.kind) := R.cell 2;have d3 : W.cell? ⟨k, 3, none⟩ = some (.int .i64 d.e.v.n) := R.cell 3;have d4 : W.cell? ⟨k, 4, none⟩ = some (.string (str d.e.v.s)) := R.cell 4;have d5 : W.cell? ⟨k, 5, none⟩ = some u := R.cell 5;have d6 : W.cell? ⟨k, 6, none⟩ = some (.int .i64 d.n) := R.cell 6;simp at h1;simp [results, Tryz.results150, h1, go_sem, d0, d1, d2, d3, d4, d5, d6]
set_option maxRecDepth 100000 in
set_option maxHeartbeats 2000000 in
theorem sum_any (g t o : Nat) (F : List PT → PR Dp) (hR : RuleC g t o (.func (.func 151) #[pV g] #[]) F) (h16 : ∀ l, Shal (F l)) (hfit : ∀ l, EndOk l → Fit l (F l)) (l : List PT) (w : World) (h : PS w g t l o) : Calls Tryz.prog 150 #[pV g] w (DoP g t o (runT F [[43], [45]] l) (DpG w.heap.size) w) := by
 obtain ⟨l3, l4, l5⟩ := h.lt3;have HL3 := LH h.lt3;have hS0 := (Same.refl (fun _ => True) w).alloc (.cells zdp.toArray 155);have r0 := Row.new w 155 zdp;have hz0 : (w.alloc (.cells zdp.toArray 155)).heap.size = w.heap.size + 1 := by simp
 have hs1 := StrR.new (w.alloc (.cells zdp.toArray 155)) g (by omega) [[43], [45]] (by simp [maxLen]);have hS1 := hS0.alloc (.cells (strCs [[43], [45]]).toArray 9);have r1 := r0.keep ((ST).alloc (.cells (strCs [[43], [45]]).toArray 9)) tv;have hz1 : ((w.alloc (.cells zdp.toArray 155)).alloc (.cells (strCs [[43], [45]]).toArray 9)).heap.size = w.heap.size + 2 := by simp
 rw [hz0] at hs1;have hp1 := h.keep hS1;have hc := chain_any g t o (.func (.func 151) #[pV g] #[]) F hR h16 hfit [[43], [45]] _ l _ hp1 hs1;simp only [List.length_cons, List.length_nil, Nat.zero_add, Nat.reduceAdd] at hc;clear hR h16 hfit hS0 r0 hs1 hz0;obtain ⟨X, hX⟩ : ∃ X, X = runT F [[43], [45]] l := ⟨_, rfl⟩;rw [← hX] at hc ⊢;clear hX h;have hmf : ∀ (fn : Fn) (first cap : Array Value) (w : World), (Instr.makeFunc fn first cap).run Tryz.prog w = .ok (.func fn first cap) w := fun _ _ _ _ => rfl
 go_enter Tryz.func150, Tryz.ntmps150;go_wp2_with (go_at_call 134; refine stopAt ?_);unfold Hid;simp only [zdp, strCs, List.map_cons, List.map_nil, wOR, wAND, str] at hS1 r1 hz1 hp1 hc;revert hS1 r1 hz1 hp1 hc;generalize (w.alloc _).alloc _ = w1;intro hS1 r1 hz1 hp1 hc;refine hc.mono ?_;clear hc;intro e w2 h2;cases X with
 | error p =>
  obtain ⟨rfl, hS2⟩ := h2;exact ⟨rfl, DoP.err ⟨rfl, hS2⟩ hS1⟩
 | ok q =>
  obtain ⟨d, l2⟩ := q;obtain ⟨v, rfl, ⟨u, rfl, hex⟩, hp2, hS2⟩ := h2;obtain ⟨Au, cu, rfl, -, -⟩ := hex.toL.form;generalize d.e.args.length = nu at *;have HPx := LH hp2;have HRx : Hid (Row w2 w.heap.size 155 zdp) := LH (r1.keep hS2 (by omega));have HEx := LH (hex.mono (S' := fun q => w.heap.size + 1 ≤ q) fun q _ (h : w1.heap.size ≤ q) => by omega);have HSx := LH ((hS1.mono (S' := fun q => q ≠ g) fun _ _ _ => tv).trans hS2);clear hex hp2 hS1 hS2 r1 hp1;obtain ⟨hD, hG, hB, hC⟩ := fin_dp (u := .slice Au nu cu) (d := d) HPx.out HL3.out HRx.out HEx.out HSx.out;have HD := LH hD;have HG := LH hG;have HB := LH hB;have HC := LH hC;clear hD hG hB hC;have rr := HRx.out;obtain ⟨q0, q1, q2, q3, q4, q5, q6⟩ := CN7 rr;obtain ⟨x0, x1, x2, x3, x4, x5, x6⟩ := FN7 rr;have zr := rr.lt;clear rr;go_wp2;refine bodyPost_ret (sum_results (u := .slice Au nu cu) (d := d) (show Row _ _ _ (dpCs (.slice Au nu cu) d) from HD.out) rfl) rfl ?_;exact ⟨_, rfl, HG.out, HB.out, HC.out⟩
theorem prod_results {W : World} {k : Nat} {u : Value} {d : Dp} (R : Row W k 155 (dpCs u d)) {tmps : Array Value} (h1 : tmps.getD 2 undef = .pointer (some ⟨k, 0, none⟩)) :
  (results Tryz.f151 tmps).run Tryz.prog W = .ok (dpV u d) W := by
 have d0 : W.cell? ⟨k, 0, none⟩ = some (.int .i64 d.e.kind) := R.cell 0;have d1 : W.cell? ⟨k, 1, none⟩ = some (.string (str d.e.s)) := R.cell 1;have d2 : W.cell? ⟨k, 2, none⟩ = some (.int .i64 d.e.v.kind) := R.cell 2;have d3 : W.cell? ⟨k, 3, none⟩ = some (.int .i64 d.e.v.n) := R.cell 3;have d4 : W.cell? ⟨k, 4, none⟩ = some (.string (str d.e.v.s)) := R.cell 4;have d5 : W.cell? ⟨k, 5, none⟩ = some u := R.cell 5;have d6 : W.cell? ⟨k, 6, none⟩ = some (.int .i64 d.n) := R.cell 6;simp at h1;simp [results, Tryz.results151, h1, go_sem, d0, d1, d2, d3, d4, d5, d6]
set_option maxRecDepth 100000 in
set_option maxHeartbeats 2000000 in
theorem prod_any (g t o : Nat) (F : List PT → PR Dp) (hR : RuleC g t o (.func (.func 152) #[pV g] #[]) F) (h16 : ∀ l, Shal (F l)) (hfit : ∀ l, EndOk l → Fit l (F l)) (l : List PT) (w : World) (h : PS w g t l o) : Calls Tryz.prog 151 #[pV g] w (DoP g t o (runT F [[42], [47], [37]] l) (DpG w.heap.size) w) := by
 obtain ⟨l3, l4, l5⟩ := h.lt3;have HL3 := LH h.lt3;have hS0 := (Same.refl (fun _ => True) w).alloc (.cells zdp.toArray 155);have r0 := Row.new w 155 zdp;have hz0 : (w.alloc (.cells zdp.toArray 155)).heap.size = w.heap.size + 1 := by simp
 have hs1 := StrR.new (w.alloc (.cells zdp.toArray 155)) g (by omega) [[42], [47], [37]] (by simp [maxLen]);have hS1 := hS0.alloc (.cells (strCs [[42], [47], [37]]).toArray 9);have r1 := r0.keep ((ST).alloc (.cells (strCs [[42], [47], [37]]).toArray 9)) tv;have hz1 : ((w.alloc (.cells zdp.toArray 155)).alloc (.cells (strCs [[42], [47], [37]]).toArray 9)).heap.size = w.heap.size + 2 := by simp
 rw [hz0] at hs1;have hp1 := h.keep hS1;have hc := chain_any g t o (.func (.func 152) #[pV g] #[]) F hR h16 hfit [[42], [47], [37]] _ l _ hp1 hs1;simp only [List.length_cons, List.length_nil, Nat.zero_add, Nat.reduceAdd] at hc;clear hR h16 hfit hS0 r0 hs1 hz0;obtain ⟨X, hX⟩ : ∃ X, X = runT F [[42], [47], [37]] l := ⟨_, rfl⟩;rw [← hX] at hc ⊢;clear hX h;have hmf : ∀ (fn : Fn) (first cap : Array Value) (w : World), (Instr.makeFunc fn first cap).run Tryz.prog w = .ok (.func fn first cap) w := fun _ _ _ _ => rfl
 go_enter Tryz.func151, Tryz.ntmps151;go_wp2_with (go_at_call 134; refine stopAt ?_);unfold Hid;simp only [zdp, strCs, List.map_cons, List.map_nil, wOR, wAND, str] at hS1 r1 hz1 hp1 hc;revert hS1 r1 hz1 hp1 hc;generalize (w.alloc _).alloc _ = w1;intro hS1 r1 hz1 hp1 hc;refine hc.mono ?_;clear hc;intro e w2 h2;cases X with
 | error p =>
  obtain ⟨rfl, hS2⟩ := h2;exact ⟨rfl, DoP.err ⟨rfl, hS2⟩ hS1⟩
 | ok q =>
  obtain ⟨d, l2⟩ := q;obtain ⟨v, rfl, ⟨u, rfl, hex⟩, hp2, hS2⟩ := h2;obtain ⟨Au, cu, rfl, -, -⟩ := hex.toL.form;generalize d.e.args.length = nu at *;have HPx := LH hp2;have HRx : Hid (Row w2 w.heap.size 155 zdp) := LH (r1.keep hS2 (by omega));have HEx := LH (hex.mono (S' := fun q => w.heap.size + 1 ≤ q) fun q _ (h : w1.heap.size ≤ q) => by omega);have HSx := LH ((hS1.mono (S' := fun q => q ≠ g) fun _ _ _ => tv).trans hS2);clear hex hp2 hS1 hS2 r1 hp1;obtain ⟨hD, hG, hB, hC⟩ := fin_dp (u := .slice Au nu cu) (d := d) HPx.out HL3.out HRx.out HEx.out HSx.out;have HD := LH hD;have HG := LH hG;have HB := LH hB;have HC := LH hC;clear hD hG hB hC;have rr := HRx.out;obtain ⟨q0, q1, q2, q3, q4, q5, q6⟩ := CN7 rr;obtain ⟨x0, x1, x2, x3, x4, x5, x6⟩ := FN7 rr;have zr := rr.lt;clear rr;go_wp2;refine bodyPost_ret (prod_results (u := .slice Au nu cu) (d := d) (show Row _ _ _ (dpCs (.slice Au nu cu) d) from HD.out) rfl) rfl ?_;exact ⟨_, rfl, HG.out, HB.out, HC.out⟩
theorem not_results {W : World} {k : Nat} {u : Value} {d : Dp} (R : Row W k 155 (dpCs u d)) {tmps : Array Value} (h1 : tmps.getD 2 undef = .pointer (some ⟨k, 0, none⟩)) :
  (results Tryz.f143 tmps).run Tryz.prog W = .ok (dpV u d) W := by
 have d0 : W.cell? ⟨k, 0, none⟩ = some (.int .i64 d.e.kind) := R.cell 0;have d1 : W.cell? ⟨k, 1, none⟩ = some (.string (str d.e.s)) := R.cell 1;have d2 : W.cell? ⟨k, 2, none⟩ = some (.int .i64 d.e.v.kind) := R.cell 2;have d3 : W.cell? ⟨k, 3, none⟩ = some (.int .i64 d.e.v.n) := R.cell 3;have d4 : W.cell? ⟨k, 4, none⟩ = some (.string (str d.e.v.s)) := R.cell 4;have d5 : W.cell? ⟨k, 5, none⟩ = some u := R.cell 5;have d6 : W.cell? ⟨k, 6, none⟩ = some (.int .i64 d.n) := R.cell 6;simp at h1;simp [results, Tryz.results143, h1, go_sem, d0, d1, d2, d3, d4, d5, d6]
set_option maxRecDepth 100000 in
set_option maxHeartbeats 4000000 in
theorem not_any (g t o : Nat) (F G : List PT → PR Dp) (hR : RuleC g t o (.func (.func 143) #[pV g] #[]) F) (hC : RuleC g t o (.func (.func 149) #[pV g] #[]) G) (h16 : ∀ l, Shal (F l)) (l' : List PT) (w : World) (h : PS w g t l' o) : Calls Tryz.prog 143 #[pV g] w (DoP g t o (if isT wNOT l' then thenT (F l'.tail) fun d l1 => opT (hdT l').1 wNOT [d] l1 else G l') (DpG w.heap.size) w) := by
 obtain ⟨l3, l4, l5⟩ := h.lt3;have HL3 := LH h.lt3;have HR := LH hR;have HC := LH hC;have H16 := LH h16;obtain ⟨off, c, hrow, hc, hm, hpos, t0, t1, t2, t3⟩ := h.open_;unfold maxLen at hm;have b0 := hrow.cell 0;simp only [List.getElem?_cons_zero] at b0;have hl0 : (0 : Int) < (l'.length : Int) := by omega
 obtain ⟨tk, htk⟩ : ∃ tk, tk = hdT l' := ⟨_, rfl⟩;rw [← htk] at t0 t1 t2 t3;have r0 := (Row.new w 155 zdp).keep ((ST).alloc (.cells (tokCs tk).toArray 75)) tv;have r1 := Row.new (w.alloc (.cells zdp.toArray 155)) 75 (tokCs tk);have hS1 := (((Same.refl (fun _ => True) w).alloc (.cells zdp.toArray 155)).alloc (.cells (tokCs tk).toArray 75));have hz1 : ((w.alloc (.cells zdp.toArray 155)).alloc (.cells (tokCs tk).toArray 75)).heap.size = w.heap.size + 2 := by simp
 rw [World.size_alloc] at r1;have hp1 := h.keep hS1;obtain ⟨X, hX⟩ : ∃ X, X = (if isT wNOT l' then thenT (F l'.tail) fun d l1 => opT (hdT l').1 wNOT [d] l1 else G l') := ⟨_, rfl⟩;rw [← hX];rw [← htk] at hX;have ht := take_any g t l' o wNOT _ hp1;have HX := LH hX;clear h htk hR hC h16 hrow hX;have hmf : ∀ (fn : Fn) (first cap : Array Value) (w : World), (Instr.makeFunc fn first cap).run Tryz.prog w = .ok (.func fn first cap) w := fun _ _ _ _ => rfl
 go_enter Tryz.func143, Tryz.ntmps143;go_wp2_with (go_at_call 37; refine stopAt ?_);unfold Hid;simp only [zdp, tokCs] at r0 r1 hS1 hz1 hp1 ht;revert r0 r1 hS1 hz1 hp1 ht;generalize (w.alloc _).alloc _ = w1;intro r0 r1 hS1 hz1 hp1 ht;refine ht.mono ?_;clear ht;rintro e w2 ⟨rfl, hp2, hS2⟩;have r0 := r0.keep hS2 (by omega);have r1 := r1.keep hS2 (by omega);have hz2 := hS2.size;have HSw := LH ((hS1.mono (S' := fun q => q ≠ g) fun _ _ _ => tv).trans hS2);have HRw : Hid (Row w2 w.heap.size 155 zdp) := LH r0;obtain ⟨k0, k1, k2, k3⟩ := CN4 r1;clear hS1 hS2 r0 r1 hp1 t0 t1 t2 t3 b0;have hX := HX.out;clear HX;cases hq : isT wNOT l'
 ·rw [hq, if_neg (by simp)] at hp2 hX;have HPw := LH hp2;have HX0 := LH hX;clear hq hp2 hX;go_wp2_with (go_at_call 128; refine stopAt ?_);unfold Hid;refine (HC.out l' w2 HPw.out).mono ?_;intro e w3 h3;rw [← HX0.out] at h3;cases X with
  | error p =>
   obtain ⟨rfl, hS3⟩ := h3;exact ⟨rfl, DoP.err ⟨rfl, hS3⟩ HSw.out fun _ h => h⟩
  | ok q =>
   obtain ⟨d, l2⟩ := q;obtain ⟨v, rfl, ⟨u, rfl, hex⟩, hp3, hS3⟩ := h3;obtain ⟨Au, cu, rfl, -, -⟩ := hex.toL.form;generalize d.e.args.length = nu at *;have HPx := LH hp3;have HRx := LH (HRw.out.keep hS3 (by omega));have HEx := LH (hex.mono (S' := fun q => w.heap.size + 1 ≤ q) fun q _ (h : w2.heap.size ≤ q) => by omega);have HSx := LH (HSw.out.trans hS3);clear hex hp3 hS3;obtain ⟨hD, hG, hB, hC⟩ := fin_dp (u := .slice Au nu cu) (d := d) HPx.out HL3.out HRx.out HEx.out HSx.out;have HD := LH hD;have HG := LH hG;have HB := LH hB;have HC := LH hC;clear hD hG hB hC;have rr := HRx.out;obtain ⟨q0, q1, q2, q3, q4, q5, q6⟩ := CN7 rr;obtain ⟨x0, x1, x2, x3, x4, x5, x6⟩ := FN7 rr;have zr := rr.lt;clear rr;go_wp2;refine bodyPost_ret (not_results (u := .slice Au nu cu) (d := d) (show Row _ _ _ (dpCs (.slice Au nu cu) d) from HD.out) rfl) rfl ?_;exact ⟨_, rfl, HG.out, HB.out, HC.out⟩
 ·rw [hq, if_pos rfl] at hp2 hX;have HPw := LH hp2;have HX0 := LH hX;have htok : TR g w.heap.size (w.heap.size + 1) := ⟨by omega, by omega⟩;clear hq hp2 hX;go_upto_region 3 with (fail);obtain ⟨x, hxe⟩ : ∃ x, x = F l'.tail := ⟨_, rfl⟩;have Hxe := LH hxe;have hgB : g < w.heap.size + 1 := by omega
  have HXr : Hid (∀ p, x = .error p → X = .error p) := LH fun p hp => by rw [HX0.out, ← hxe, hp]; rfl
  have HXo : Hid (x = .ok (valT x, leftT x) → 16 < deepOf [valT x] + 1 → X = .error (tk.1, 3)) := LH fun hp hd => by
   rw [HX0.out, ← hxe]
   conv => lhs; rw [hp]
   rw [thenT_ok];unfold opT;rw [if_pos hd]
  have HXk : Hid (x = .ok (valT x, leftT x) → deepOf [valT x] ≤ 15 → X = .ok (opD wNOT [valT x], leftT x)) := LH fun hp hd => by
   rw [HX0.out, ← hxe]
   conv => lhs; rw [hp]
   rw [thenT_ok, opT_ok hd]
  have HD16 : Hid (x = .ok (valT x, leftT x) → ∀ d' ∈ [valT x], d'.n ≤ 1000000) := LH fun hp d' hd' => by
   have := H16.out l'.tail (valT x) (leftT x) (hxe.symm.trans hp);simp only [List.mem_cons, List.not_mem_nil, or_false] at hd';subst hd'; omega
  have HST : Hid (RegS g t o w.heap.size (w.heap.size + 1) l'.tail (leftT x) zdp (opD wNOT [valT x]) (x = .ok (valT x, leftT x) ∧ deepOf [valT x] ≤ 15) false false w2.drew) := LH (RegS.keep (W := w2) ⟨HPw.out, fun _ => HRw.out, fun h => by cases h⟩ SR.drew);have HS3 := HSw;clear hxe;refine wp_region_full_lit (T := TR g (w.heap.size)) (L := [some (.eq (tokV4 tk)), some (.eq (pV g)), some (.eq (pV g)), some (.eq (.func (.func 143) #[pV g] #[])), some (RuS g (w.heap.size) (w.heap.size + 1) hgB x), some (SlS g (w.heap.size) (w.heap.size + 1) hgB [valT x] (x = .ok (valT x, leftT x))), some (OpS g (w.heap.size) (w.heap.size + 1) hgB (opD wNOT [valT x]) (x = .ok (valT x, leftT x) ∧ deepOf [valT x] ≤ 15)), none]) (fun f _ W => RegS g t o (w.heap.size) (w.heap.size + 1) l'.tail (leftT x) (zdp) (opD wNOT [valT x]) (x = .ok (valT x, leftT x) ∧ deepOf [valT x] ≤ 15) (f 4) (f 7) W) (by kernel_rfl) (by kernel_rfl) (by rfl) rfl ?_ ?_ ?_
  ·exact HST.out
  ·refine ⟨?_, ?_, ?_, ?_, ?_, ?_, ?_, ?_, tv⟩
   all_goals (intro ac wc f hs hst hni hwt hdn hd hz hf hw K hK;generalize hU : valF _ ac = U at hst hK)
   ·have e0 := EP 3 (w.heap.size + 1) 0 (hf 3 rfl);have m0 := MC k0 hs htok;have m1 := MC k1 hs htok;have m2 := MC k2 hs htok;have m3 := MC k3 hs htok;clear hd hz hf hw;simp only [if_true, RL, e0];go_simp;exact hK _ _ (fun _ => rfl) SR hst
   ·have e0 := EV 0 (pV g) (hf 0 rfl);clear hd hz hf hw;simp only [if_true, RL, e0];go_simp;exact hK _ _ (fun _ => rfl) SR hst
   ·have e0 := EV 0 (pV g) (hf 0 rfl);clear hd hz hf hw;simp only [if_true, RL, e0];go_simp;exact hK _ _ (fun _ => rfl) SR hst
   ·have e0 := EV 14 (pV g) (hw 2 rfl);clear hd hz hf hw;simp only [if_true, RL, e0];go_simp;exact hK _ _ (fun _ => rfl) SR hst
   ·have e0 := EV 13 (pV g) (hw 1 rfl);have e1 := EV 15 (.func (.func 143) #[pV g] #[]) (hw 3 rfl);have Hdf := LH (show ac.defers = [] from hd)
    have h9 : f 7 = false := by
     cases h : f 7 with
     | false => rfl
     | true => (have h8 := hdn 7 6 rfl h; have h7 := hdn 6 5 rfl h8; have h6 := hdn 5 4 rfl h7; rw [hni] at h6; cases h6)
    have hps : PS wc g t l'.tail o := by
     have := hst.1;rw [hni] at this;exact this
    have hrd := hst.2.1 h9;clear hd hz hf hw;simp only [if_true, RL, e0, e1];go_simp;refine (HR.out l'.tail wc hps).mono ?_;intro e wd h1;cases hx : F l'.tail with
    | error p =>
     rw [hx] at h1;obtain ⟨rfl, hSp⟩ := h1
     have hq : DoP g t o X (DpG w.heap.size) w (.panicked [{ v := failV p.1 p.2, recovered := false }]) wd := by
      rw [HXr.out p (Hxe.out.trans hx)];exact DoP.err ⟨rfl, hSp⟩ (HS3.out.trans' hs fun q hq h => ⟨h, by omega⟩) fun _ h => h
     exact ⟨Hdf.out, hq⟩
    | ok q =>
     rw [hx] at h1;obtain ⟨v', rfl, ⟨u2, rfl, hex2⟩, hp2, hS2⟩ := h1;have hxx : x = .ok (valT x, leftT x) := by rw [Hxe.out, hx]; rfl
     have hx1 : valT x = q.1 := by rw [Hxe.out, hx]; rfl
     have hx2 : leftT x = q.2 := by rw [Hxe.out, hx]; rfl
     have hzc := hs.size;refine hK _ _ (fun _ => ⟨u2, by rw [hx1], by rw [hx1]; exact hex2.mono fun k hk (h : wc.heap.size ≤ k) => ⟨by omega, by omega⟩, hxx⟩) (hS2.mono fun k hk h => h.1) ⟨?_, ?_, ?_⟩
     ·show PS wd g t (leftT x) o;rw [hx2];exact hp2
     ·intro _;exact hrd.keep hS2 (by omega)
     ·intro h;have h : f 7 = true := h;rw [h9] at h;cases h
   ·have p0 : (RuS g (w.heap.size) (w.heap.size + 1) hgB x : SPT (TR g (w.heap.size))).p (ac.eval (.tmp 16)) wc := hw 4 rfl;obtain ⟨u0, e0⟩ : ∃ u, ac.eval (.tmp 16) = u := ⟨_, rfl⟩;have v0 : U 4 = u0 := by rw [← hU]; exact e0
    rw [e0] at p0;obtain ⟨u2, rfl, hex2, hxx⟩ := p0;obtain ⟨A2, c2, rfl, -, -⟩ := hex2.toL.form;have Hxx := LH hxx;clear hxx;have Hex2 := LH hex2;clear hex2;clear hd hz hf hw;simp only [if_true, RL, e0];go_simp;have hzc := hs.size;have hex2 := Hex2.out;have hxx := Hxx.out;exact hK _ _ (fun _ => ⟨DpR.one hex2 ⟨by omega, by omega⟩, hxx⟩) (SR.alloc _) (RegS.keep hst (SR.alloc _))
   ·have e0 := EV 12 (tokV4 tk) (hw 0 rfl);have p1 : (SlS g (w.heap.size) (w.heap.size + 1) hgB [valT x] (x = .ok (valT x, leftT x)) : SPT (TR g (w.heap.size))).p (ac.eval (.tmp 17)) wc := hw 5 rfl;obtain ⟨u1, e1⟩ : ∃ u, ac.eval (.tmp 17) = u := ⟨_, rfl⟩;have v1 : U 5 = u1 := by rw [← hU]; exact e1
    rw [e1] at p1;have Hdf := LH (show ac.defers = [] from hd);have HSB := LH p1;clear p1;clear hd hz hf hw;simp only [if_true, RL, e0, e1];go_simp;obtain ⟨hsb, hxx⟩ := HSB.out;refine (op_any tk wNOT _ [valT x] _ wc hsb (by simp) (HD16.out hxx)).mono ?_;intro e wd ⟨hA1, hA2, hS2⟩;have hzc := hs.size;by_cases hdp : 16 < deepOf [valT x] + 1
    ·obtain rfl := hA1 hdp
     have hq : DoP g t o X (DpG w.heap.size) w (.panicked [{ v := failV tk.1 3, recovered := false }]) wd := by
      rw [HXo.out hxx hdp];exact DoP.err ⟨rfl, hS2.mono fun _ _ _ => tv⟩ (HS3.out.trans' hs fun q hq h => ⟨h, by omega⟩) fun _ h => h
     exact ⟨Hdf.out, hq⟩
    ·obtain ⟨u3, rfl, hex3⟩ := hA2 hdp;exact hK _ _ (fun _ => ⟨u3, rfl, hex3.mono fun k hk h => h.elim id fun h => ⟨by omega, by omega⟩, hxx, by omega⟩) (hS2.mono fun _ _ _ => tv) (RegS.keep hst hS2)
   ·have e0 := EP 2 w.heap.size 0 (hf 2 rfl);have p1 : (OpS g (w.heap.size) (w.heap.size + 1) hgB (opD wNOT [valT x]) (x = .ok (valT x, leftT x) ∧ deepOf [valT x] ≤ 15) : SPT (TR g (w.heap.size))).p (ac.eval (.tmp 18)) wc := hw 6 rfl;obtain ⟨u1, e1⟩ : ∃ u, ac.eval (.tmp 18) = u := ⟨_, rfl⟩;have v1 : U 6 = u1 := by rw [← hU]; exact e1
    rw [e1] at p1;obtain ⟨u3, rfl, hex3, hok⟩ := p1;have Hok := LH hok;clear hok;obtain ⟨A3, c3, rfl, -, -⟩ := hex3.toL.form;generalize (opD wNOT [valT x]).e.args.length = n3 at *;have hr_ := hst.2.1 hni;obtain ⟨m0, m1, m2, m3, m4, m5, m6⟩ := CN7 hr_;obtain ⟨n0_, n1_, n2_, n3_, n4_, n5_, n6_⟩ := FN7 hr_;have zr := hr_.lt;clear hd hz hf hw;simp only [if_true, RL, e0, e1];go_simp;have hss : Same (fun q => q ≠ w.heap.size) wc (setsW wc (w.heap.size) 0 (dpCs (.slice A3 n3 c3) (opD wNOT [valT x]))) := Same.sets (fun h => h rfl) _ 0 SR;have hA := hst.1.keepB hss (by omega) (by omega) (by omega);have hB := hr_.sets (dpCs (.slice A3 n3 c3) (opD wNOT [valT x])) 0;have hC := hex3.keep (hss.mono (S' := fun q => w.heap.size + 1 ≤ q ∧ q ≠ w.heap.size) fun k _ h => h.2);have hD := hss.mono (S' := TR g (w.heap.size)) fun k _ h => h.2
    refine hK undef _ (fun h => (by cases h)) ?_ ⟨?_, ?_, ?_⟩
    ·exact hD
    ·exact hA
    ·exact fun h => (by cases h)
    ·exact fun _ => ⟨Hok.out, .slice A3 n3 c3, hB, hC⟩
  ·intro vs wR f hvl hvp hsR hst hfR;obtain ⟨z0, z1, z2, z3, z4, z5, z6, z7, rfl⟩ := LN8 hvl
   ·obtain rfl : z0 = (tokV4 tk) := hvp 0 (by simp);obtain rfl : z1 = (pV g) := hvp 1 (by simp);obtain rfl : z2 = (pV g) := hvp 2 (by simp);obtain rfl : z3 = (.func (.func 143) #[pV g] #[]) := hvp 3 (by simp);have hru : (RuS g (w.heap.size) (w.heap.size + 1) hgB x : SPT (TR g (w.heap.size))).p z4 wR := hvp 4 (by simp);have hsb : (SlS g (w.heap.size) (w.heap.size + 1) hgB [valT x] (x = .ok (valT x, leftT x)) : SPT (TR g (w.heap.size))).p z5 wR := hvp 5 (by simp);have hpo : (OpS g (w.heap.size) (w.heap.size + 1) hgB (opD wNOT [valT x]) (x = .ok (valT x, leftT x) ∧ deepOf [valT x] ≤ 15) : SPT (TR g (w.heap.size))).p z6 wR := hvp 6 (by simp);clear hvl hvp;simp only [putAll, Act.put, LP];clear hru hsb hpo;have hst := hst;rw [hfR 4, hfR 7] at hst;obtain ⟨hpR, -, hnew⟩ := hst;obtain ⟨⟨hxx, hdo⟩, u3, hrN, hexN⟩ := hnew rfl;have hpR : PS wR g t (leftT x) o := hpR;have HSe := LH (HSw.out.trans' hsR fun q hq h => ⟨h, by omega⟩);have HPe := LH hpR;have HRe := LH hrN;have HEe := LH (hexN.mono (S' := fun q => w.heap.size ≤ q) fun q _ h => by have := h.1; omega);have HXe := LH (HXk.out hxx hdo);clear hpR hnew hxx hdo hrN hexN;go_wp2;refine bodyPost_ret (not_results (show Row _ _ _ (dpCs u3 _) from HRe.out) rfl) rfl ?_;rw [HXe.out];exact ⟨_, rfl, ⟨_, rfl, HEe.out⟩, HPe.out, HSe.out⟩
end Go.Proofs.YtdfojghhpdkpfaaGreatDoor
