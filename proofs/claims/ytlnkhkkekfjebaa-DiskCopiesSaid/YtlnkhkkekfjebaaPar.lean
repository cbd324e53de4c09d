/-
  A region that draws its order and whose operations write: each in its own part of memory. What an operation asks of the world, leaves, and turns is told apart for each; what one turns, no other asks or leaves.
-/
import Derived.Test.YtlnkhkkekfjebaaReg
namespace Go.Proofs.Ytlnkhkkekfjebaa

structure ParInv (ops : Array Oper) (φ : Nat → Value → World → Prop) (Pre : Nat → World → Prop) (G : World → Prop) (a0 : Act) (listed : Array Bool) (a : Act) (w : World) : Prop where
  defers : a.defers = a0.defers
  size : a.tmps.size = a0.tmps.size
  good : G w
  pre : ∀ j, j < ops.size → listed.getD j true = false → Pre j w
  kept : ∀ d, (∀ j o, ops[j]? = some o → listed.getD j true = true → o.dst ≠ some d) → a.tmps[d]? = a0.tmps[d]?
  done : ∀ j, j < ops.size → listed.getD j true = true → φ j (a.tmps.getD (slotOf ops j) undef) w
  down : ∀ j o e, ops[j]? = some o → listed.getD j true = true → e ∈ o.after → Region.binds .any e = true → listed.getD e.on true = true

section
variable {P : Program} {ops : Array Oper} {φ : Nat → Value → World → Prop} {Pre : Nat → World → Prop} {R : Nat → World → World → Prop} {G : World → Prop} {a0 : Act} {w0 : World} {Q : Exit → Act → World → Prop}

/-- One more operation is done. -/
theorem ParInv.step (hp : plainB ops = true) (hstab : ∀ i j v w w', i ≠ j → φ i v w → R j w w' → φ i v w') (hpre : ∀ i j w w', i ≠ j → Pre i w → R j w w' → Pre i w') (hG : ∀ j w w', G w → R j w w' → G w') (hsz : ∀ (i : Nat) (o : Oper) (d : Nat), ops[i]? = some o → o.dst = some d → d < a0.tmps.size)
    {listed : Array Bool} {a : Act} {w w' : World} {i : Nat} {o : Oper} {v : Value} (hl : listed.size = ops.size) (ho : ops[i]? = some o) (hni : listed.getD i true = false) (hr : ∀ e ∈ o.after, Region.binds .any e = true → listed.getD e.on true = true)
    (h : ParInv ops φ Pre G a0 listed a w) (hs : R i w w') (hv : φ i v w') : ParInv ops φ Pre G a0 (listed.setIfInBounds i true) (a.put o.dst v) w' := by
  have hi : i < ops.size := (Array.getElem?_eq_some_iff.1 ho).1
  obtain ⟨hback, ⟨d, hd⟩, hdist⟩ := plain_at hp ho
  have hdl : d < a.tmps.size := by rw [h.size]; exact hsz i o d ho hd
  have hset : ∀ j, (listed.setIfInBounds i true).getD j true = if i = j then true else listed.getD j true := by
    intro j
    simp only [Array.getD_eq_getD_getElem?, Array.getElem?_setIfInBounds]
    split
    · rename_i e; subst e; simp [hl, hi]
    · rfl
  have hne : ∀ j, j < ops.size → j ≠ i → slotOf ops j ≠ d := by
    intro j hj hji e
    obtain ⟨oj, hoj⟩ : ∃ oj, ops[j]? = some oj := ⟨_, Array.getElem?_eq_getElem hj⟩
    have hsi := slot_of ho hd
    rcases Nat.lt_or_gt_of_ne hji with hlt | hgt
    · exact hdist j hlt (by rw [hsi]; exact e)
    · exact (plain_at hp hoj).2.2 i hgt (by rw [hsi]; exact e.symm)
  refine ⟨by rw [hd]; exact h.defers, by rw [hd]; simp [Act.put]; exact h.size, hG _ _ _ h.good hs, ?_, ?_, ?_, ?_⟩
  · intro j hj hlj
    rw [hset] at hlj
    split at hlj
    · cases hlj
    · rename_i hij
      exact hpre _ _ _ _ (fun e => hij e.symm) (h.pre j hj hlj) hs
  · intro k hk
    have hkd : d ≠ k := by
      intro e
      exact hk i o ho (by rw [hset, if_pos rfl]) (by rw [hd, e])
    have : (a.put o.dst v).tmps[k]? = a.tmps[k]? := by
      rw [hd]
      simp only [Act.put, Array.getElem?_setIfInBounds, if_neg hkd]
    rw [this]
    refine h.kept k fun j oj hoj hlj => hk j oj hoj ?_
    rw [hset]; split
    · rfl
    · exact hlj
  · intro j hj hlj
    rw [hset] at hlj
    rw [hd, getD_put _ _ _ _ hdl]
    by_cases hij : i = j
    · subst hij
      rw [if_pos (slot_of ho hd).symm]
      exact hv
    · rw [if_neg hij] at hlj
      rw [if_neg (fun e => hne j hj (fun e' => hij e'.symm) e.symm)]
      exact hstab _ _ _ _ _ (fun e => hij e.symm) (h.done j hj hlj) hs
  · intro j oj e hoj hlj he hb
    rw [hset] at hlj ⊢
    split
    · rfl
    · by_cases hij : i = j
      · subst hij
        rw [ho] at hoj
        injection hoj with hoj
        subst hoj
        exact hr e he hb
      · rw [if_neg hij] at hlj
        exact h.down j oj e hoj hlj he hb

/-- What an operation is shown to do: it leaves a value that its predicate tells, and a world that keeps all. -/
def OpDoesP (P : Program) (ops : Array Oper) (φ : Nat → Value → World → Prop) (Pre : Nat → World → Prop) (R : Nat → World → World → Prop) (G : World → Prop) (a0 : Act) (Q : Exit → Act → World → Prop) (i : Nat) (o : Oper) : Prop :=
  ∀ (a : Act) (w : World), G w → Pre i w → a.defers = a0.defers → a.tmps.size = a0.tmps.size →
    (∀ d, freeAt ops i d = true → a.tmps.getD d undef = a0.tmps.getD d undef) →
    (∀ j, waits o j = true → φ j (a.tmps.getD (slotOf ops j) undef) w) →
    ∀ K : Act → World → Prop, (∀ v w', φ i v w' → R i w w' → K (a.put o.dst v) w') →
      if Region.wanted o (yielded ops a.tmps) = true then Oper.wp P o a w K Q else K (a.put o.dst undef) w

theorem wpAny_par (hp : plainB ops = true) (hstab : ∀ i j v w w', i ≠ j → φ i v w → R j w w' → φ i v w') (hpre : ∀ i j w w', i ≠ j → Pre i w → R j w w' → Pre i w') (hG : ∀ j w w', G w → R j w w' → G w') (hsz : ∀ (i : Nat) (o : Oper) (d : Nat), ops[i]? = some o → o.dst = some d → d < a0.tmps.size)
    (hstep : ∀ i o, ops[i]? = some o → OpDoesP P ops φ Pre R G a0 Q i o)
    (hend : ∀ a w, G w → a.defers = a0.defers → a.tmps.size = a0.tmps.size → (∀ d, (∀ j, j < ops.size → slotOf ops j ≠ d) → a.tmps.getD d undef = a0.tmps.getD d undef) →
      (∀ j, j < ops.size → φ j (a.tmps.getD (slotOf ops j) undef) w) → Q .normal a w) :
    ∀ (fuel : Nat) (listed : Array Bool) (a : Act) (w : World), listed.size = ops.size → ((List.range ops.size).filter fun i => !listed.getD i true).length = fuel →
      ParInv ops φ Pre G a0 listed a w → wpAny P .any ops Q fuel listed a w := by
  have ready_nil : ∀ listed : Array Bool, listed.size = ops.size → Region.ready .any ops listed = [] → ∀ i, i < ops.size → listed.getD i true = true := by
    intro listed hlz hr i
    induction i using Nat.strongRecOn with
    | _ i ih =>
      intro hi
      cases hli : listed.getD i true with
      | true => rfl
      | false =>
        exfalso
        obtain ⟨o, ho⟩ : ∃ o, ops[i]? = some o := ⟨_, Array.getElem?_eq_getElem hi⟩
        have : i ∈ Region.ready .any ops listed := by
          unfold Region.ready
          rw [List.mem_filter]
          refine ⟨List.mem_range.2 hi, ?_⟩
          rw [ho, hli]
          simp only [Bool.not_false, Bool.true_and, Option.map_some, Option.getD_some, Array.all_eq_true_iff_forall_mem]
          intro e he
          have hlt := (plain_at hp ho).1 e he
          have hz : listed.getD e.on false = true := by
            exact getD_one (by omega) (ih e.on hlt (by omega))
          rw [hz]; simp
        rw [hr] at this
        cases this
  have fin : ∀ (listed : Array Bool) (a : Act) (w : World), listed.size = ops.size → Region.ready .any ops listed = [] → ParInv ops φ Pre G a0 listed a w → Q .normal a w := by
    intro listed a w hlz hr h
    have hall := ready_nil listed hlz hr
    refine hend a w h.good h.defers h.size (fun d hd => ?_) (fun j hj => h.done j hj (hall j hj))
    have := h.kept d fun j o ho _ e => hd j (Array.getElem?_eq_some_iff.1 ho).1 (slot_of ho e)
    simp [Array.getD_eq_getD_getElem?, this]
  intro fuel
  induction fuel with
  | zero =>
    intro listed a w hl hc h
    have hr : Region.ready .any ops listed = [] := by
      unfold Region.ready
      rw [List.filter_eq_nil_iff]
      intro i hi hh
      have hf := List.eq_nil_of_length_eq_zero hc
      rw [List.filter_eq_nil_iff] at hf
      have := hf i hi
      simp only [Bool.and_eq_true] at hh
      exact this hh.1
    exact ⟨hr, fin listed a w hl hr h⟩
  | succ fuel ih =>
    intro listed a w hl hc h
    refine ⟨fun hr => fin listed a w hl hr h, fun i hi => ?_⟩
    unfold Region.ready at hi
    rw [List.mem_filter] at hi
    obtain ⟨hi, hrd⟩ := hi
    have hi := List.mem_range.1 hi
    obtain ⟨o, ho⟩ : ∃ o, ops[i]? = some o := ⟨_, Array.getElem?_eq_getElem hi⟩
    rw [ho] at hrd
    simp only [Bool.and_eq_true, Bool.not_eq_true', Option.map_some, Option.getD_some, Array.all_eq_true_iff_forall_mem] at hrd
    obtain ⟨hni, hrd⟩ := hrd
    have hrr : ∀ e ∈ o.after, Region.binds .any e = true → listed.getD e.on true = true := by
      intro e he hb
      have := hrd e he
      rw [hb] at this
      exact getD_two (by simpa using this)
    refine wpOp_step ho fun K hK => ?_
    refine hstep i o ho a w h.good (h.pre i hi hni) h.defers h.size (fun d hd => ?_) (fun j hj => ?_) K (fun v w' hv hs => hK _ _ ?_)
    · have : a.tmps[d]? = a0.tmps[d]? := by
        refine h.kept d fun j oj hoj hlj e => ?_
        have hm : oj ∈ ops.toList := by
          rw [Array.mem_toList_iff]
          exact Array.mem_of_getElem? hoj
        have := List.all_eq_true.1 hd oj hm
        simp only [e, beq_self_eq_true, Bool.not_true, Bool.false_or, waits, List.any_eq_true, Bool.and_eq_true, beq_iff_eq, Array.mem_toList_iff] at this
        obtain ⟨ed, h1, h2, h3⟩ := this
        have := h.down j oj ed hoj hlj h1 h3
        rw [h2, hni] at this
        cases this
      simp [Array.getD_eq_getD_getElem?, this]
    · simp only [waits, List.any_eq_true, Bool.and_eq_true, beq_iff_eq, Array.mem_toList_iff] at hj
      obtain ⟨e, he, h2, h3⟩ := hj
      have hlt := (plain_at hp ho).1 e he
      exact h.done j (by omega) (by rw [← h2]; exact hrr e he h3)
    · refine ih _ _ _ (by simpa using hl) ?_ (ParInv.step hp hstab hpre hG hsz hl ho hni hrr h hs hv)
      refine count_less (i := i) (p := fun i => !listed.getD i true) hi (by rw [hni]; rfl) (fun j => ?_) hc
      simp only [Array.getD_eq_getD_getElem?, Array.getElem?_setIfInBounds]
      by_cases hij : i = j
      · subst hij
        have : i < listed.size := by omega
        simp [this]
      · rw [if_neg hij]
        have : (j != i) = true := by simpa using fun e : j = i => hij e.symm
        rw [this, Bool.and_true]

theorem wp_region_par {id : Nat} (hG0 : G w0.drew) (hPre0 : ∀ j, j < ops.size → Pre j w0.drew) (hm : P.follows .mixedOrders = true) (hp : plainB ops = true) (hstab : ∀ i j v w w', i ≠ j → φ i v w → R j w w' → φ i v w') (hpre : ∀ i j w w', i ≠ j → Pre i w → R j w w' → Pre i w') (hG : ∀ j w w', G w → R j w w' → G w') (hsz : (ops.toList.all fun o => (o.dst.map fun d => decide (d < a0.tmps.size)).getD true) = true)
    (hstep : ∀ i o, ops[i]? = some o → OpDoesP P ops φ Pre R G a0 Q i o)
    (hend : ∀ a w, G w → a.defers = a0.defers → a.tmps.size = a0.tmps.size → (∀ d, (∀ j, j < ops.size → slotOf ops j ≠ d) → a.tmps.getD d undef = a0.tmps.getD d undef) →
      (∀ j, j < ops.size → φ j (a.tmps.getD (slotOf ops j) undef) w) → Q .normal a w) : (Code.region id ops true).wp P Q a0 w0 := by
  refine wp_region_any hm (wpAny_par hp hstab hpre hG (fun i o d ho hd => ?_) hstep hend ops.size _ a0 _ (by simp) ?_ ?_)
  · have hmem : o ∈ ops.toList := by rw [Array.mem_toList_iff]; exact Array.mem_of_getElem? ho
    have := List.all_eq_true.1 hsz o hmem
    rw [hd] at this
    simpa using this
  · have : ((List.range ops.size).filter fun i => !(Array.replicate ops.size false).getD i true) = List.range ops.size := by
      rw [List.filter_eq_self]
      intro i hi
      have := List.mem_range.1 hi
      simp [Array.getD_eq_getD_getElem?, this]
    rw [this, List.length_range]
  · refine ⟨rfl, rfl, hG0, fun j hj _ => hPre0 j hj, fun _ _ => rfl, fun j hj h => ?_, fun j o e ho h => ?_⟩
    · simp [Array.getD_eq_getD_getElem?, hj] at h
    · have hj := (Array.getElem?_eq_some_iff.1 ho).1
      simp [Array.getD_eq_getD_getElem?, hj] at h
end

/-- What an operation asks of the world, leaves of its value and the world, and turns. -/
structure SX where
  pre : World → Prop
  p : Value → World → Prop
  r : World → World → Prop
/-- What b turns, a neither asks nor leaves. -/
def SX.apart (a b : SX) : Prop := (∀ w w', a.pre w → b.r w w' → a.pre w') ∧ (∀ v w w', a.p v w → b.r w w' → a.p v w')
/-- An operation that turns nothing and whose value is known; or one that does more. -/
inductive SK where
  | q (u : Value)
  | x (s : SX)
def SK.sx : SK → SX
  | .q u => ⟨fun _ => True, fun v _ => v = u, fun w w' => w = w'⟩
  | .x s => s
def SK.list : List SK → List SX
  | [] => []
  | .q _ :: l => SK.list l
  | .x s :: l => s :: SK.list l
theorem SK.mem_list {s : SX} : ∀ {L : List SK}, .x s ∈ L → s ∈ SK.list L
  | .q u :: l, h => by
    rcases List.mem_cons.1 h with h | h
    · cases h
    · exact SK.mem_list (L := l) h
  | .x t :: l, h => by
    rcases List.mem_cons.1 h with h | h
    · injection h with h; subst h; exact List.mem_cons_self
    · exact List.mem_cons_of_mem _ (SK.mem_list (L := l) h)
def SK.none_ : SK := .x ⟨fun _ => True, fun _ _ => True, fun w w' => w = w'⟩
def skAt (L : List SK) (i : Nat) : SX := (L.getD i SK.none_).sx
theorem SK.apart_of : ∀ {L : List SK}, (SK.list L).Pairwise (fun a b => a.apart b ∧ b.apart a) → ∀ i j, i ≠ j → (skAt L i).apart (skAt L j)
  | [], _, i, j, _ => by
    simp only [skAt, List.getD_nil]
    exact ⟨fun w w' h e => by have e : w = w' := e; rw [← e]; exact h, fun v w w' h e => trivial⟩
  | k :: l, h, i, j, hij => by
    have hl : (SK.list l).Pairwise (fun a b => a.apart b ∧ b.apart a) := by
      cases k with
      | q u => exact h
      | x s => exact (List.pairwise_cons.1 h).2
    have quietL : ∀ u (b : SX), (SK.q u).sx.apart b := fun u b => ⟨fun _ _ _ _ => trivial, fun _ _ _ h _ => h⟩
    have quietR : ∀ u (a : SX), a.apart (SK.q u).sx := fun u a => ⟨fun w w' h e => by have e : w = w' := e; rw [← e]; exact h, fun v w w' h e => by have e : w = w' := e; rw [← e]; exact h⟩
    have noneL : ∀ b : SX, SK.none_.sx.apart b := fun b => ⟨fun _ _ _ _ => trivial, fun _ _ _ h _ => h⟩
    have noneR : ∀ a : SX, a.apart SK.none_.sx := fun a => ⟨fun w w' h e => by have e : w = w' := e; rw [← e]; exact h, fun v w w' h e => by have e : w = w' := e; rw [← e]; exact h⟩
    have one : ∀ (s : SX) (m : Nat), k = .x s → s.apart (skAt l m) ∧ (skAt l m).apart s := by
      rintro s m rfl
      have hh := (List.pairwise_cons.1 h).1
      unfold skAt
      rw [List.getD_eq_getElem?_getD]
      cases hm : l[m]? with
      | none => exact ⟨noneR _, noneL _⟩
      | some t =>
        cases t with
        | q u => exact ⟨quietR _ _, quietL _ _⟩
        | x t => exact hh t (SK.mem_list (List.mem_of_getElem? hm))
    match i, j, hij with
    | 0, 0, hij => exact absurd rfl hij
    | 0, m + 1, _ =>
      show k.sx.apart (skAt l m)
      cases k with
      | q u => exact quietL _ _
      | x s => exact (one s m rfl).1
    | m + 1, 0, _ =>
      show (skAt l m).apart k.sx
      cases k with
      | q u => exact quietR _ _
      | x s => exact (one s m rfl).2
    | i + 1, j + 1, hij => exact SK.apart_of hl i j (fun e => hij (by rw [e]))

def ParDo (P : Program) (ops : Array Oper) (L : List SK) (G : World → Prop) (a0 : Act) (Q : Exit → Act → World → Prop) : Nat → List Oper → Prop
  | _, [] => True
  | k, o :: l => OpDoesP P ops (fun i => (skAt L i).p) (fun i => (skAt L i).pre) (fun i => (skAt L i).r) G a0 Q k o ∧ ParDo P ops L G a0 Q (k + 1) l
theorem ParDo.at_ {P : Program} {ops : Array Oper} {L : List SK} {G : World → Prop} {a0 : Act} {Q : Exit → Act → World → Prop} : ∀ (l : List Oper) (k : Nat), ParDo P ops L G a0 Q k l → ∀ i o, l[i]? = some o →
    OpDoesP P ops (fun i => (skAt L i).p) (fun i => (skAt L i).pre) (fun i => (skAt L i).r) G a0 Q (k + i) o
  | [], _, _, i, o, h => by simp at h
  | o' :: l, k, h, 0, o, ho => by simp at ho; subst ho; exact h.1
  | o' :: l, k, h, i + 1, o, ho => by
    have := ParDo.at_ l (k + 1) h.2 i o (by simpa using ho)
    rwa [show k + (i + 1) = k + 1 + i from by omega]
/-- The law, the operations written out: what is common to all worlds is that the blocks of S0 stay. -/
theorem wp_region_par_lit {P : Program} {l : List Oper} (L : List SK) (S0 : Nat → Prop) {a0 : Act} {w0 : World} {Q : Exit → Act → World → Prop} {id : Nat} (hm : P.follows .mixedOrders = true) (hp : plainB l.toArray = true)
    (hsz : (l.all fun o => (o.dst.map fun d => decide (d < a0.tmps.size)).getD true) = true)
    (hap : (SK.list L).Pairwise (fun a b => a.apart b ∧ b.apart a)) (hpre : ∀ s ∈ SK.list L, s.pre w0.drew) (hS : ∀ s ∈ SK.list L, ∀ w w', s.r w w' → Same S0 w w')
    (hstep : ParDo P l.toArray L (fun w => Same S0 w0 w) a0 Q 0 l)
    (hend : ∀ a w, Same S0 w0 w → a.defers = a0.defers → a.tmps.size = a0.tmps.size → (∀ d, (l.all fun o => o.dst != some d) = true → a.tmps.getD d undef = a0.tmps.getD d undef) →
      (∀ j, j < l.length → (skAt L j).p (a.tmps.getD (slotOf l.toArray j) undef) w) → Q .normal a w) : (Code.region id l.toArray true).wp P Q a0 w0 := by
  have hap' := SK.apart_of hap
  have hrS : ∀ j w w', (skAt L j).r w w' → Same S0 w w' := by
    intro j w w' h
    unfold skAt at h
    rw [List.getD_eq_getElem?_getD] at h
    cases hj : L[j]? with
    | none => rw [hj] at h; have e : w = w' := h; rw [e]; exact Same.refl _ _
    | some k =>
      rw [hj] at h
      cases k with
      | q u => have e : w = w' := h; rw [e]; exact Same.refl _ _
      | x s => exact hS s (SK.mem_list (List.mem_of_getElem? hj)) _ _ h
  have hp0 : ∀ j, (skAt L j).pre w0.drew := by
    intro j
    unfold skAt
    rw [List.getD_eq_getElem?_getD]
    cases hj : L[j]? with
    | none => trivial
    | some k =>
      cases k with
      | q u => trivial
      | x s => exact hpre s (SK.mem_list (List.mem_of_getElem? hj))
  refine wp_region_par (φ := fun i => (skAt L i).p) (Pre := fun i => (skAt L i).pre) (R := fun i => (skAt L i).r) (G := fun w => Same S0 w0 w) (Same.refl _ _).drew (fun j _ => hp0 j) hm hp
    (fun i j v w w' hij h hr => (hap' i j hij).2 v w w' h hr) (fun i j w w' hij h hr => (hap' i j hij).1 w w' h hr) (fun j w w' h hr => h.trans (hrS j w w' hr)) (by simpa using hsz)
    (fun i o ho => ?_) (fun a w h1 h2 h3 h4 h5 => hend a w h1 h2 h3 (fun d hd => h4 d fun j hj e => ?_) (fun j hj => h5 j (by simpa using hj)))
  · have := ParDo.at_ l 0 hstep i o (by simpa using ho)
    rwa [Nat.zero_add] at this
  · have hj' : j < l.length := by simpa using hj
    have hd' := List.all_eq_true.1 hd l[j] (List.getElem_mem hj')
    obtain ⟨d', hd2⟩ := (plain_at hp (i := j) (o := l[j]) (by simp [hj'])).2.1
    have : slotOf l.toArray j = d' := slot_of (by simp [hj']) hd2
    rw [hd2] at hd'
    rw [this] at e
    subst e
    simp at hd'
end Go.Proofs.Ytlnkhkkekfjebaa
