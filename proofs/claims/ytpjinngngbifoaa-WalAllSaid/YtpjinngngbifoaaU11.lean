/-
  Words, plain models, laws and walks that the claims of this layer share (joined by shake.py). No condition.
-/
import Derived.Orders
import Derived.Test.YtpjinngngbifoaaU1
import Derived.Test.YtpjinngngbifoaaU2
import Derived.Test.YtpjinngngbifoaaU3
import Derived.Test.YtpjinngngbifoaaU4
import Derived.Test.YtpjinngngbifoaaU5
import Derived.Test.YtpjinngngbifoaaU6
import Derived.Test.YtpjinngngbifoaaU7
import Derived.Test.YtpjinngngbifoaaU8
import Derived.Test.YtpjinngngbifoaaU9
import Derived.Test.YtpjinngngbifoaaU10
set_option linter.unusedSimpArgs false
set_option linter.unusedVariables false
namespace Go.Proofs.Ytpjinngngbifoaa
open Go.RowKit
def genF (g : Nat) : List UInt8 := 71 :: putN 8 g
/-- The records of a whole file. -/
def logL (g : Nat) (rs : List (List UInt8)) : List (List UInt8) := genF g :: (rs.map (82 :: ·) ++ [[69]])
def fileW (g : Nat) (rs : List (List UInt8)) : List UInt8 := recsF (logL g rs)
theorem recsF_app (a b : List (List UInt8)) : recsF (a ++ b) = recsF a ++ recsF b := by simp [recsF]
theorem recsF_cons (a : List UInt8) (b : List (List UInt8)) : recsF (a :: b) = recF a ++ recsF b := by simp [recsF]
theorem recsF_length : ∀ l : List (List UInt8), (recsF l).length = 8 * l.length + l.flatten.length
  | [] => rfl
  | r :: l => by rw [recsF_cons, List.length_append, recF_len, recsF_length l]; simp; omega
theorem flat_R (rs : List (List UInt8)) : (rs.map (82 :: ·)).flatten.length = rs.length + rs.flatten.length := by
  induction rs with
  | nil => rfl
  | cons r rs ih => simp at ih ⊢; omega
theorem genF_len (g : Nat) : (genF g).length = 9 := by simp [genF, putN_len]
theorem fileW_len (g : Nat) (rs : List (List UInt8)) : (fileW g rs).length = 26 + 9 * rs.length + rs.flatten.length := by
  unfold fileW
  rw [recsF_length]
  have := flat_R rs
  simp only [logL, List.length_cons, List.length_append, List.length_map, List.flatten_cons, List.flatten_append, genF_len, this]
  simp
  omega
theorem appR_len (rs : List (List UInt8)) : (recsF (rs.map (82 :: ·))).length = 9 * rs.length + rs.flatten.length := by
  rw [recsF_length, flat_R]; simp; omega
theorem getN_genF {g : Nat} (hg : g < 4611686018427387904) : getN ((genF g).drop 1) = g := by
  show getN (putN 8 g) = g
  exact getN_putN 8 g (by omega)
theorem walkL_recs : ∀ (rs rest : List (List UInt8)) (whole : Bool) (acc : List (List UInt8)), walkL (rs.map (82 :: ·) ++ rest) whole acc = walkL rest whole (acc ++ rs)
  | [], rest, whole, acc => by simp
  | r :: rs, rest, whole, acc => by
    simp only [List.map_cons, List.cons_append, walkL, List.head?_cons, List.tail_cons, if_true]
    rw [walkL_recs rs rest whole (acc ++ [r])]
    simp
theorem lookL_log {g : Nat} (hg : 1 ≤ g ∧ g < 4611686018427387904) (rs more : List (List UInt8)) (sp : Bool) : lookL (logL g rs ++ more.map (82 :: ·)) sp = some ⟨g, rs ++ more, sp⟩ := by
  have e : logL g rs ++ more.map (82 :: ·) = genF g :: (rs.map (82 :: ·) ++ ([69] :: more.map (82 :: ·))) := by simp [logL]
  rw [e]
  simp only [lookL]
  rw [if_neg (by simp [genF_len]; simp [genF]), getN_genF hg.2, if_neg (by omega), walkL_recs]
  have e2 : walkL (more.map (82 :: ·)) true rs = some (rs ++ more, false) := by
    have := walkL_recs more [] true rs
    rw [List.append_nil] at this
    rw [this]; simp [walkL]
  simp [walkL, e2]
theorem lookL_part {g : Nat} (rs : List (List UInt8)) (j : Nat) (hj : j < (logL g rs).length) (sp : Bool) : lookL ((logL g rs).take j) sp = none := by
  match j with
  | 0 => rfl
  | j + 1 =>
    have hj' : j ≤ rs.length := by simp [logL] at hj; omega
    have e : (logL g rs).take (j + 1) = genF g :: (rs.take j).map (82 :: ·) := by
      simp only [logL, List.take_succ_cons]
      rw [List.take_append_of_le_length (by simpa using hj'), List.map_take]
    rw [e]
    simp only [lookL]
    split
    · rfl
    split
    · rfl
    have := walkL_recs (rs.take j) [] false []
    rw [List.append_nil] at this
    rw [this]
    rfl
theorem cut_find (l : List (List UInt8)) (cut : Nat) (hcut : cut ≤ (recsF l).length) : ∃ j, j ≤ l.length ∧ (recsF (l.take j)).length ≤ cut ∧ ∀ h : j < l.length, cut < (recsF (l.take (j + 1))).length := by
  have key : ∀ n, n ≤ l.length → (∃ j, j ≤ n ∧ (recsF (l.take j)).length ≤ cut ∧ ∀ h : j < n, cut < (recsF (l.take (j + 1))).length) := by
    intro n
    induction n with
    | zero => intro _; exact ⟨0, Nat.le_refl _, by simp [recsF], fun h => absurd h (by omega)⟩
    | succ n ih =>
      intro hn
      obtain ⟨j, h1, h2, h3⟩ := ih (by omega)
      by_cases hj : j < n
      · exact ⟨j, by omega, h2, fun _ => h3 hj⟩
      · obtain rfl : j = n := by omega
        by_cases hc : (recsF (l.take (j + 1))).length ≤ cut
        · exact ⟨j + 1, Nat.le_refl _, hc, fun h => absurd h (by omega)⟩
        · exact ⟨j, by omega, h2, fun _ => by omega⟩
  exact key l.length (Nat.le_refl _)
theorem take_len_mono (l : List (List UInt8)) {i j : Nat} (h : i ≤ j) : (recsF (l.take i)).length ≤ (recsF (l.take j)).length := by
  rw [recsF_length, recsF_length]
  have e : l.take i = (l.take j).take i := by rw [List.take_take, Nat.min_eq_left h]
  have e2 := List.take_append_drop i (l.take j)
  have h2 : (l.take i).length + ((l.take j).drop i).length = (l.take j).length := by rw [e, ← List.length_append, e2]
  have h3 : (l.take i).flatten.length + ((l.take j).drop i).flatten.length = (l.take j).flatten.length := by rw [e, ← List.length_append, ← List.flatten_append, e2]
  omega
/-- What a look tells of a file that was written, cut off at k. -/
inductive CutLook (g : Nat) (rs more : List (List UInt8)) (k : Nat) : Option LookM → Prop
  | part : k < (fileW g rs).length → CutLook g rs more k none
  | whole (j : Nat) : j ≤ more.length → (fileW g rs ++ recsF ((more.take j).map (82 :: ·))).length ≤ k → (∀ i, i ≤ more.length → (fileW g rs ++ recsF ((more.take i).map (82 :: ·))).length ≤ k → i ≤ j) →
      CutLook g rs more k (some ⟨g, rs ++ more.take j, decide ((fileW g rs ++ recsF ((more.take j).map (82 :: ·))).length < k)⟩)
theorem cutLook {g : Nat} (hg : 1 ≤ g ∧ g < 4611686018427387904) (rs more : List (List UInt8)) (hr : ∀ r ∈ rs, r.length ≤ 1048575) (hm : ∀ r ∈ more, r.length ≤ 1048575) (k : Nat) (hk : k ≤ (fileW g rs ++ recsF (more.map (82 :: ·))).length) :
    ∃ m, LookF ((fileW g rs ++ recsF (more.map (82 :: ·))).take k) m ∧ CutLook g rs more k m := by
  obtain ⟨L, hL⟩ : ∃ L, L = logL g rs ++ more.map (82 :: ·) := ⟨_, rfl⟩
  have eL : fileW g rs ++ recsF (more.map (82 :: ·)) = recsF L := by rw [hL, recsF_app]; rfl
  have hLr : ∀ r ∈ L, r.length ≤ 1048576 := by
    intro r h
    rw [hL] at h
    simp only [logL, List.mem_append, List.mem_cons, List.mem_map, List.not_mem_nil, or_false] at h
    rcases h with (rfl | (⟨x, h, rfl⟩) | rfl) | (⟨x, h, rfl⟩)
    · rw [genF_len]; omega
    · have := hr x h; simp; omega
    · simp
    · have := hm x h; simp; omega
  rw [eL] at hk ⊢
  obtain ⟨j, h1, h2, h3⟩ := cut_find L k hk
  have hsc := cut_scan L hLr k j h1 hk h2 h3
  have hlen : ((recsF L).take k).length = k := by rw [List.length_take]; omega
  refine ⟨_, ⟨_, _, hsc, rfl⟩, ?_⟩
  rw [hlen]
  have hlog : (logL g rs).length = rs.length + 2 := by simp [logL]
  by_cases hj : j < (logL g rs).length
  · have e : L.take j = (logL g rs).take j := by rw [hL, List.take_append_of_le_length (by omega)]
    rw [e, lookL_part rs j hj]
    refine .part ?_
    have h4 := h3 (by rw [hL, List.length_append]; omega)
    have h5 := take_len_mono L (i := j + 1) (j := (logL g rs).length) (by omega)
    have e2 : L.take (logL g rs).length = logL g rs := by rw [hL, List.take_left]
    rw [e2] at h5
    unfold fileW
    omega
  · obtain ⟨i, rfl⟩ : ∃ i, j = (logL g rs).length + i := ⟨j - (logL g rs).length, by omega⟩
    have hi : i ≤ more.length := by rw [hL] at h1; simp at h1; omega
    have e : ∀ i, L.take ((logL g rs).length + i) = logL g rs ++ (more.take i).map (82 :: ·) := fun i => by
      rw [hL, List.take_append, List.take_of_length_le (by omega), show (logL g rs).length + i - (logL g rs).length = i by omega, List.map_take]
    have e3 : ∀ i, fileW g rs ++ recsF ((more.take i).map (82 :: ·)) = recsF (L.take ((logL g rs).length + i)) := fun i => by rw [e, recsF_app]; rfl
    rw [e i, lookL_log hg, ← e i, ← e3 i]
    refine .whole i hi (by rw [e3]; exact h2) fun x hx hxk => ?_
    rw [e3] at hxk
    rcases Nat.lt_or_ge i x with hlt | hge
    · exfalso
      have h4 := h3 (by rw [hL]; simp; omega)
      have h5 := take_len_mono L (i := (logL g rs).length + i + 1) (j := (logL g rs).length + x) (by omega)
      omega
    · exact hge
/-- A look at what was written, and a tail that is no record. -/
theorem look_tail {g : Nat} (hg : 1 ≤ g ∧ g < 4611686018427387904) (rs more : List (List UInt8)) (hr : ∀ r ∈ rs, r.length ≤ 1048575) (hm : ∀ r ∈ more, r.length ≤ 1048575) (tail : List UInt8) (ht : (nextF tail 0).2.2 ≠ 0) :
    LookF (fileW g rs ++ recsF (more.map (82 :: ·)) ++ tail) (some ⟨g, rs ++ more, decide (0 < tail.length)⟩) := by
  obtain ⟨L, hL⟩ : ∃ L, L = logL g rs ++ more.map (82 :: ·) := ⟨_, rfl⟩
  have eL : fileW g rs ++ recsF (more.map (82 :: ·)) = recsF L := by rw [hL, recsF_app]; rfl
  have hLr : ∀ r ∈ L, r.length ≤ 1048576 := by
    intro r h
    rw [hL] at h
    simp only [logL, List.mem_append, List.mem_cons, List.mem_map, List.not_mem_nil, or_false] at h
    rcases h with (rfl | (⟨x, h, rfl⟩) | rfl) | (⟨x, h, rfl⟩)
    · rw [genF_len]; omega
    · have := hr x h; simp; omega
    · simp
    · have := hm x h; simp; omega
  rw [eL]
  have hre := reach_recs L tail hLr L.length (Nat.le_refl _)
  rw [List.take_length] at hre
  have hsc : ScanF (recsF L ++ tail) L (recsF L).length := by
    refine ⟨hre, ?_⟩
    have hnx : ∀ (pre t : List UInt8), (nextF (pre ++ t) pre.length).2.2 = (nextF t 0).2.2 := by
      intro pre t
      unfold nextF
      have hd : (pre ++ t).drop ((pre.length : Int)).toNat = t := by rw [Int.toNat_natCast, List.drop_left]
      rw [hd, show (0 : Int).toNat = 0 from rfl, List.drop_zero]
      rw [if_neg (by rw [List.length_append]; omega), if_neg (show ¬((0 : Int) < 0 ∨ (t.length : Int) < 0) by omega)]
      repeat' split
      all_goals rfl
    rw [hnx]
    exact ht
  refine ⟨_, _, hsc, ?_⟩
  rw [hL, lookL_log hg, ← hL]
  congr 2
  simp
end Go.Proofs.Ytpjinngngbifoaa
namespace Go.Proofs.Ytpjinngngbifoaa
/-- Does o wait for operation j? -/
def waits (o : Oper) (j : Nat) : Bool := o.after.toList.any fun e => e.on == j && Region.binds .any e
/-- The slot of operation j. -/
def slotOf (ops : Array Oper) (j : Nat) : Nat := ((ops[j]?).bind (·.dst)).getD 0
/-- Whoever writes slot d waits for operation i. -/
def freeAt (ops : Array Oper) (i d : Nat) : Bool := ops.toList.all fun o => !(o.dst == some d) || waits o i
/-- Each edge leads back; each operation has a slot of its own. -/
def plainB (ops : Array Oper) : Bool :=
  (List.range ops.size).all fun i => ((ops[i]?).map fun o => o.after.all (fun e => decide (e.on < i) || !Region.binds .any e) && o.dst.isSome && (List.range i).all fun j => slotOf ops j != slotOf ops i).getD false
structure RegInv (ops : Array Oper) (φ : Nat → Value → World → Prop) (a0 : Act) (w0 : World) (listed : Array Bool) (a : Act) (w : World) : Prop where
  defers : a.defers = a0.defers
  size : a.tmps.size = a0.tmps.size
  same : Same (fun _ => True) w0 w
  kept : ∀ d, (∀ j o, ops[j]? = some o → listed.getD j true = true → o.dst ≠ some d) → a.tmps[d]? = a0.tmps[d]?
  done : ∀ j, j < ops.size → listed.getD j true = true → φ j (a.tmps.getD (slotOf ops j) undef) w
  down : ∀ j o e, ops[j]? = some o → listed.getD j true = true → e ∈ o.after → Region.binds .any e = true → listed.getD e.on true = true
theorem getD_put (a : Act) (d k : Nat) (v : Value) (h : d < a.tmps.size) : (a.put (some d) v).tmps.getD k undef = if d = k then v else a.tmps.getD k undef := by
  simp only [Act.put, Array.getD_eq_getD_getElem?, Array.getElem?_setIfInBounds]
  split
  · rename_i e; subst e; simp [h]
  · rfl
theorem getD_two {l : Array Bool} {j : Nat} (h : l.getD j false = true) : l.getD j true = true := by
  simp only [Array.getD_eq_getD_getElem?] at h ⊢
  cases hj : l[j]? with
  | none => rw [hj] at h; cases h
  | some b => rw [hj] at h; exact h
theorem getD_one {l : Array Bool} {j : Nat} (hj : j < l.size) (h : l.getD j true = true) : l.getD j false = true := by
  simp only [Array.getD_eq_getD_getElem?, Array.getElem?_eq_getElem hj, Option.getD_some] at h ⊢
  exact h
theorem count_less {n i fuel : Nat} {p p' : Nat → Bool} (hi : i < n) (hpi : p i = true) (hp' : ∀ j, p' j = (p j && j != i)) (h : ((List.range n).filter p).length = fuel + 1) : ((List.range n).filter p').length = fuel := by
  have e : (List.range n).filter p' = ((List.range n).filter p).erase i := by
    rw [List.Nodup.erase_eq_filter (List.Pairwise.filter _ List.nodup_range), List.filter_filter]
    apply List.filter_congr
    intro j _
    rw [hp' j, Bool.and_comm]
  rw [e, List.length_erase_of_mem (List.mem_filter.2 ⟨List.mem_range.2 hi, hpi⟩), h]
  rfl
section
variable {P : Program} {ops : Array Oper} {φ : Nat → Value → World → Prop} {a0 : Act} {w0 : World} {Q : Exit → Act → World → Prop}
theorem slot_of {i : Nat} {o : Oper} {d : Nat} (ho : ops[i]? = some o) (hd : o.dst = some d) : slotOf ops i = d := by simp [slotOf, ho, hd]
theorem plain_at (hp : plainB ops = true) {i : Nat} {o : Oper} (ho : ops[i]? = some o) :
    (∀ e ∈ o.after, Region.binds .any e = true → e.on < i) ∧ (∃ d, o.dst = some d) ∧ ∀ j, j < i → slotOf ops j ≠ slotOf ops i := by
  have hi : i < ops.size := (Array.getElem?_eq_some_iff.1 ho).1
  have h := List.all_eq_true.1 hp i (List.mem_range.2 hi)
  rw [ho] at h
  simp only [Option.map_some, Option.getD_some, Bool.and_eq_true, Array.all_eq_true_iff_forall_mem, decide_eq_true_eq, List.all_eq_true, List.mem_range, bne_iff_ne, ne_eq] at h
  obtain ⟨⟨h1, h2⟩, h3⟩ := h
  refine ⟨fun e he hb => ?_, Option.isSome_iff_exists.1 h2, h3⟩
  have := h1 e he
  simpa [hb] using this
/-- One more operation is done. -/
theorem RegInv.step (hp : plainB ops = true) (hstab : ∀ i v w w', φ i v w → Same (fun _ => True) w w' → φ i v w') (hsz : ∀ (i : Nat) (o : Oper) (d : Nat), ops[i]? = some o → o.dst = some d → d < a0.tmps.size)
    {listed : Array Bool} {a : Act} {w w' : World} {i : Nat} {o : Oper} {v : Value} (hl : listed.size = ops.size) (ho : ops[i]? = some o) (hni : listed.getD i true = false) (hr : ∀ e ∈ o.after, Region.binds .any e = true → listed.getD e.on true = true)
    (h : RegInv ops φ a0 w0 listed a w) (hs : Same (fun _ => True) w w') (hv : φ i v w') : RegInv ops φ a0 w0 (listed.setIfInBounds i true) (a.put o.dst v) w' := by
  have hi : i < ops.size := (Array.getElem?_eq_some_iff.1 ho).1
  obtain ⟨hback, ⟨d, hd⟩, hdist⟩ := plain_at hp ho
  have hdl : d < a.tmps.size := by rw [h.size]; exact hsz i o d ho hd
  have hset : ∀ j, (listed.setIfInBounds i true).getD j true = if i = j then true else listed.getD j true := by
    intro j
    simp only [Array.getD_eq_getD_getElem?, Array.getElem?_setIfInBounds]
    split
    · rename_i e; subst e; simp [hl, hi]
    · rfl
  have hne : ∀ j, j < ops.size → j ≠ i → slotOf ops j ≠ d := by
    intro j hj hji e
    obtain ⟨oj, hoj⟩ : ∃ oj, ops[j]? = some oj := ⟨_, Array.getElem?_eq_getElem hj⟩
    have hsi := slot_of ho hd
    rcases Nat.lt_or_gt_of_ne hji with hlt | hgt
    · exact hdist j hlt (by rw [hsi]; exact e)
    · exact (plain_at hp hoj).2.2 i hgt (by rw [hsi]; exact e.symm)
  refine ⟨by rw [hd]; exact h.defers, by rw [hd]; simp [Act.put]; exact h.size, h.same.trans hs, ?_, ?_, ?_⟩
  · intro k hk
    have hkd : d ≠ k := by
      intro e
      exact hk i o ho (by rw [hset, if_pos rfl]) (by rw [hd, e])
    have : (a.put o.dst v).tmps[k]? = a.tmps[k]? := by
      rw [hd]
      simp only [Act.put, Array.getElem?_setIfInBounds, if_neg hkd]
    rw [this]
    refine h.kept k fun j oj hoj hlj => hk j oj hoj ?_
    rw [hset]; split
    · rfl
    · exact hlj
  · intro j hj hlj
    rw [hset] at hlj
    rw [hd, getD_put _ _ _ _ hdl]
    by_cases hij : i = j
    · subst hij
      rw [if_pos (slot_of ho hd).symm]
      exact hv
    · rw [if_neg hij] at hlj
      rw [if_neg (fun e => hne j hj (fun e' => hij e'.symm) e.symm)]
      exact hstab _ _ _ _ (h.done j hj hlj) hs
  · intro j oj e hoj hlj he hb
    rw [hset] at hlj ⊢
    split
    · rfl
    · by_cases hij : i = j
      · subst hij
        rw [ho] at hoj
        injection hoj with hoj
        subst hoj
        exact hr e he hb
      · rw [if_neg hij] at hlj
        exact h.down j oj e hoj hlj he hb
/-- What an operation is shown to do: it leaves a value that its predicate tells, and a world that keeps all. -/
def OpDoes (P : Program) (ops : Array Oper) (φ : Nat → Value → World → Prop) (a0 : Act) (w0 : World) (Q : Exit → Act → World → Prop) (i : Nat) (o : Oper) : Prop :=
  ∀ (a : Act) (w : World), Same (fun _ => True) w0 w → a.defers = a0.defers → a.tmps.size = a0.tmps.size →
    (∀ d, freeAt ops i d = true → a.tmps.getD d undef = a0.tmps.getD d undef) →
    (∀ j, waits o j = true → φ j (a.tmps.getD (slotOf ops j) undef) w) →
    ∀ K : Act → World → Prop, (∀ v w', φ i v w' → Same (fun _ => True) w w' → K (a.put o.dst v) w') →
      if Region.wanted o (yielded ops a.tmps) = true then Oper.wp P o a w K Q else K (a.put o.dst undef) w
end
/-- A predicate on a value that later worlds keep. -/
structure SP where
  p : Value → World → Prop
  st : ∀ v w w', p v w → Same (fun _ => True) w w' → p v w'
def SP.any : SP := ⟨fun _ _ => True, fun _ _ _ _ _ => trivial⟩
def SP.eq (u : Value) : SP := ⟨fun v _ => v = u, fun _ _ _ h _ => h⟩
def SP.by (S : Nat → Prop) (bs : List UInt8) : SP := ⟨fun v w => By w S v bs, fun _ _ _ h k => h.keepAll k⟩
/-- Each of the operations, one by one. -/
def OpsDo (P : Program) (ops : Array Oper) (φ : Nat → Value → World → Prop) (a0 : Act) (w0 : World) (Q : Exit → Act → World → Prop) : Nat → List Oper → Prop
  | _, [] => True
  | k, o :: l => OpDoes P ops φ a0 w0 Q k o ∧ OpsDo P ops φ a0 w0 Q (k + 1) l
theorem OpsDo.nil {P : Program} {ops : Array Oper} {φ : Nat → Value → World → Prop} {a0 : Act} {w0 : World} {Q : Exit → Act → World → Prop} {k : Nat} : OpsDo P ops φ a0 w0 Q k [] := trivial
theorem OpsDo.cons {P : Program} {ops : Array Oper} {φ : Nat → Value → World → Prop} {a0 : Act} {w0 : World} {Q : Exit → Act → World → Prop} {k : Nat} {o : Oper} {l : List Oper} (h : OpDoes P ops φ a0 w0 Q k o) (h' : OpsDo P ops φ a0 w0 Q (k + 1) l) : OpsDo P ops φ a0 w0 Q k (o :: l) := ⟨h, h'⟩
theorem OpsDo.at_ {P : Program} {ops : Array Oper} {φ : Nat → Value → World → Prop} {a0 : Act} {w0 : World} {Q : Exit → Act → World → Prop} : ∀ (l : List Oper) (k : Nat), OpsDo P ops φ a0 w0 Q k l → ∀ i o, l[i]? = some o → OpDoes P ops φ a0 w0 Q (k + i) o
  | [], _, _, i, o, h => by simp at h
  | o' :: l, k, h, 0, o, ho => by simp at ho; subst ho; exact h.1
  | o' :: l, k, h, i + 1, o, ho => by
    have := OpsDo.at_ l (k + 1) h.2 i o (by simpa using ho)
    rwa [show k + (i + 1) = k + 1 + i from by omega]
/-- Whether a guarded operation runs. -/
theorem wanted_at {ops : Array Oper} {o : Oper} {a : Act} {j d : Nat} {b want : Bool} (hg : o.guard = some (j, want)) (ho : (ops[j]?).bind (·.dst) = some d) (hd : d < a.tmps.size) (e : a.eval (.tmp d) = .bool b) :
    Region.wanted o (yielded ops a.tmps) = (some b == some want) := by
  have hy : yielded ops a.tmps j = some b := by
    unfold yielded
    rw [ho]
    have h1 : a.tmps[d]? = some (.bool b) := by
      have : a.tmps.getD d undef = .bool b := e
      rw [Array.getD_eq_getD_getElem?, Array.getElem?_eq_getElem hd] at this
      rw [Array.getElem?_eq_getElem hd]
      simpa using this
    simp [h1]
  unfold Region.wanted
  rw [hg]
  simp [hy]
theorem run_wanted {ops : Array Oper} {o : Oper} {a : Act} {j d n : Nat} {b : Bool} {A B : Prop} (hg : o.guard = some (j, b)) (ho : (ops[j]?).bind (·.dst) = some d) (hn : a.tmps.size = n) (hd : d < n) (e : a.eval (.tmp d) = .bool b) (h : A) :
    if Region.wanted o (yielded ops a.tmps) = true then A else B := by
  rw [wanted_at hg ho (by omega) e, if_pos (by simp)]
  exact h
end Go.Proofs.Ytpjinngngbifoaa
namespace Go.Proofs.Ytpjinngngbifoaa
/-- The frame behind the operations, in the text's order. -/
def putAll (a : Act) : List Oper → List Value → Act
  | o :: l, v :: vs => putAll (a.put o.dst v) l vs
  | _, _ => a
theorem put_size (a : Act) (d : Option Nat) (v : Value) : (a.put d v).tmps.size = a.tmps.size := by
  cases d with
  | none => rfl
  | some d => simp [Act.put]
theorem put_defers (a : Act) (d : Option Nat) (v : Value) : (a.put d v).defers = a.defers := by cases d <;> rfl
theorem putAll_size : ∀ (l : List Oper) (vs : List Value) (a : Act), (putAll a l vs).tmps.size = a.tmps.size
  | [], _, _ => rfl
  | _ :: _, [], _ => rfl
  | o :: l, v :: vs, a => by
    show (putAll (a.put o.dst v) l vs).tmps.size = _
    rw [putAll_size l vs, put_size]
theorem putAll_defers : ∀ (l : List Oper) (vs : List Value) (a : Act), (putAll a l vs).defers = a.defers
  | [], _, _ => rfl
  | _ :: _, [], _ => rfl
  | o :: l, v :: vs, a => by
    show (putAll (a.put o.dst v) l vs).defers = _
    rw [putAll_defers l vs, put_defers]
theorem put_other (a : Act) {e : Option Nat} {d : Nat} (v : Value) (h : e ≠ some d) : (a.put e v).tmps.getD d undef = a.tmps.getD d undef := by
  cases e with
  | none => rfl
  | some e =>
    have hne : e ≠ d := fun x => h (by rw [x])
    simp only [Act.put, Array.getD_eq_getD_getElem?, Array.getElem?_setIfInBounds]
    rw [if_neg hne]
theorem putAll_other {d : Nat} : ∀ (l : List Oper) (vs : List Value) (a : Act), (∀ o ∈ l, o.dst ≠ some d) → (putAll a l vs).tmps.getD d undef = a.tmps.getD d undef
  | [], _, _, _ => rfl
  | _ :: _, [], _, _ => rfl
  | o :: l, v :: vs, a, h => by
    show (putAll (a.put o.dst v) l vs).tmps.getD d undef = _
    rw [putAll_other l vs _ (fun o' ho => h o' (by simp [ho])), put_other _ _ (h o (by simp))]
theorem putAll_at {d : Nat} : ∀ (l : List Oper) (vs : List Value) (a : Act) (j : Nat) (hj : j < l.length) (hv : j < vs.length), l[j].dst = some d → (∀ (k : Nat) (hk : k < l.length), j < k → l[k].dst ≠ some d) → d < a.tmps.size →
    (putAll a l vs).tmps.getD d undef = vs[j]
  | [], _, _, j, hj, _, _, _, _ => by simp at hj
  | _ :: _, [], _, j, _, hv, _, _, _ => by simp at hv
  | o :: l, v :: vs, a, 0, _, _, hd, ho, hs => by
    show (putAll (a.put o.dst v) l vs).tmps.getD d undef = _
    rw [putAll_other l vs _ (fun o' ho' => by
      obtain ⟨k, hk, rfl⟩ := List.mem_iff_getElem.1 ho'
      exact ho (k + 1) (by simpa using hk) (by omega))]
    have hd' : o.dst = some d := hd
    rw [hd', getD_put a d d v hs]
    simp
  | o :: l, v :: vs, a, j + 1, hj, hv, hd, ho, hs => by
    show (putAll (a.put o.dst v) l vs).tmps.getD d undef = _
    have := putAll_at l vs (a.put o.dst v) j (by simpa using hj) (by simpa using hv) (by simpa using hd) (fun k hk hjk => by have := ho (k + 1) (by simpa using hk) (by omega); simpa using this) (by rw [put_size]; exact hs)
    simpa using this
theorem act_ext {a b : Act} (h1 : a.defers = b.defers) (h2 : a.tmps.size = b.tmps.size) (h3 : ∀ d, d < a.tmps.size → a.tmps.getD d undef = b.tmps.getD d undef) : a = b := by
  have ht : a.tmps = b.tmps := by
    apply Array.ext h2
    intro i hi hi'
    have := h3 i hi
    simpa [Array.getD_eq_getD_getElem?, hi, hi'] using this
  cases a; cases b
  simp at h1 ht
  rw [h1, ht]
end Go.Proofs.Ytpjinngngbifoaa
