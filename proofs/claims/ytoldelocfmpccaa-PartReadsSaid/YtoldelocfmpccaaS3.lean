/-
  Words, plain models, laws and walks that the claims of this layer share (joined by shake.py). No condition.
-/
import Derived.Lib.AppendZerosOnto
import Derived.Lib.Overlaps
import Derived.Deep.RegionLaw
import Derived.Test.YtoldelocfmpccaaS1
import Derived.Test.YtoldelocfmpccaaS2
set_option linter.unusedSimpArgs false
set_option linter.unusedVariables false
namespace Go.Proofs.Ytoldelocfmpccaa
/-- A cell that may be. -/
structure GoodC (c : Cel) : Prop where
  sort : SortV c.vers
  vers : ∀ v ∈ c.vers, v.drop = true → v.data = []
  free : c.locked = false → c.lock = Lck.zero
  kept : keptB c = true
  lock : c.lock.drop = true → c.lock.data = []
structure Good (cs : List Cel) : Prop where
  sort : cs.Pairwise fun x y => ltB x.key y.key = true
  each : ∀ c ∈ cs, GoodC c
theorem sorted_iff (cs : List Cel) : Sorted cs ↔ cs.Pairwise fun x y => ltB x.key y.key = true := by
  unfold Sorted
  rw [List.pairwise_iff_getElem]
  
theorem Good.sorted {cs : List Cel} (h : Good cs) : Sorted cs := (sorted_iff cs).2 h.sort
theorem good_nil : Good [] := ⟨List.Pairwise.nil, fun c h => by cases h⟩
structure Wr where
  key : List UInt8
  drop : Bool
  data : List UInt8
def lockW (w : Wr) (l : Lck) : Lck := { l with drop := w.drop, data := if w.drop then [] else w.data }
def freshC (k : List UInt8) : Cel := ⟨k, [], false, Lck.zero⟩
def updC (c : Cel) (l : Lck) : Cel := { c with locked := true, lock := l }
def lockF : List Cel → List UInt8 → Lck → List Cel
  | [], k, l => [updC (freshC k) l]
  | c :: cs, k, l => if ltB c.key k then c :: lockF cs k l else if c.key = k then updC c l :: cs else updC (freshC k) l :: c :: cs
theorem lock_len : ∀ (cs : List Cel) (k : List UInt8) (l : Lck), (lockF cs k l).length ≤ cs.length + 1
  | [], k, l => by simp [lockF]
  | c :: cs, k, l => by
    have := lock_len cs k l
    unfold lockF
    split
    · simp; omega
    · split <;> simp
/-- Cells around a key. -/
theorem split_at {k : List UInt8} : ∀ {cs : List Cel}, (cs.Pairwise fun x y => ltB x.key y.key = true) → ∃ (A : List Cel) (o : Option Cel) (Z : List Cel), cs = A ++ (o.toList ++ Z) ∧ (∀ c ∈ A, ltB c.key k = true) ∧ (∀ c ∈ Z, ltB k c.key = true) ∧ (∀ c ∈ o, c.key = k) ∧
    (∀ l, lockF cs k l = A ++ updC (o.getD (freshC k)) l :: Z) ∧ posF cs k = A.length ∧ foundF cs k = o.isSome
  | [], _ => ⟨[], none, [], rfl, by simp, by simp, by simp, fun l => rfl, rfl, rfl⟩
  | c :: cs, h => by
    obtain ⟨h1, h2⟩ := List.pairwise_cons.1 h
    cases hc : ltB c.key k
    · have hp : posF (c :: cs) k = 0 := by simp [posF, hc]
      by_cases e : c.key = k
      · refine ⟨[], some c, cs, rfl, by simp, fun x hx => by rw [← e]; exact h1 x hx, fun x hx => by cases hx; exact e, fun l => by unfold lockF; rw [hc, if_neg (by simp), if_pos e]; rfl, hp, ?_⟩
        unfold foundF
        rw [hp]
        simp [e]
      · have hk : ltB k c.key = true := by
          rcases ltB_tri c.key k with h | h | h
          · rw [h] at hc; cases hc
          · exact absurd h e
          · exact h
        refine ⟨[], none, c :: cs, rfl, by simp, fun x hx => ?_, by simp, fun l => by unfold lockF; rw [hc, if_neg (by simp), if_neg e]; rfl, hp, ?_⟩
        · rcases List.mem_cons.1 hx with rfl | hx
          · exact hk
          · exact ltB_trans hk (h1 x hx)
        · unfold foundF
          rw [hp]
          simp [e]
    · obtain ⟨A, o, Z, e1, e2, e3, e4, e5, e6, e7⟩ := split_at (k := k) h2
      have hp : posF (c :: cs) k = posF cs k + 1 := by simp [posF, hc]
      refine ⟨c :: A, o, Z, by rw [e1]; rfl, fun x hx => ?_, e3, e4, fun l => by simp [lockF, hc, e5], by rw [hp, e6]; rfl, ?_⟩
      · rcases List.mem_cons.1 hx with rfl | hx
        · exact hc
        · exact e2 x hx
      · rw [← e7]
        unfold foundF
        rw [hp]
        simp
theorem lock_good {cs : List Cel} (h : Good cs) (w : Wr) (l : Lck) : Good (lockF cs w.key (lockW w l)) := by
  obtain ⟨A, o, Z, e1, e2, e3, e4, e5, e6, e7⟩ := split_at (k := w.key) h.sort
  have hs := h.sort
  rw [e1, List.pairwise_append] at hs
  obtain ⟨hA, hoZ, _⟩ := hs
  rw [List.pairwise_append] at hoZ
  have hkey : (updC (o.getD (freshC w.key)) (lockW w l)).key = w.key := by
    cases o with
    | none => rfl
    | some c => exact e4 c rfl
  rw [e5]
  refine ⟨?_, fun c hc => ?_⟩
  · rw [List.pairwise_append]
    refine ⟨hA, List.pairwise_cons.2 ⟨fun x hx => ?_, hoZ.2.1⟩, fun x hx y hy => ?_⟩
    · rw [hkey]; exact e3 x hx
    · rcases List.mem_cons.1 hy with rfl | hy
      · rw [hkey]; exact e2 x hx
      · exact ltB_trans (e2 x hx) (e3 y hy)
  · rcases List.mem_append.1 hc with hc | hc
    · exact h.each c (by rw [e1]; simp [hc])
    · rcases List.mem_cons.1 hc with rfl | hc
      · have hv : ∀ v ∈ (o.getD (freshC w.key)).vers, v.drop = true → v.data = [] := by
          cases o with
          | none => intro v hv; cases hv
          | some c => exact (h.each c (by rw [e1]; simp)).vers
        have hv2 : SortV (o.getD (freshC w.key)).vers := by
          cases o with
          | none => exact List.Pairwise.nil
          | some c => exact (h.each c (by rw [e1]; simp)).sort
        refine ⟨hv2, hv, fun h => ?_, rfl, fun h => ?_⟩
        · cases h
        · show (if w.drop = true then [] else w.data) = []
          have h : w.drop = true := h
          rw [if_pos h]
      · exact h.each c (by rw [e1]; simp [hc])
def lockV (c : Cel) : Ver := ⟨c.lock.at_, c.lock.drop, c.lock.data⟩
def freeC (yes : Bool) (c : Cel) : Cel := { c with vers := if yes then putF c.vers (lockV c) else c.vers, locked := false, lock := Lck.zero }
def setlC (b : TryT) (yes : Bool) (c : Cel) : List Cel := if keptB (if mineB c b then freeC yes c else c) then [if mineB c b then freeC yes c else c] else []
def setlF (cs : List Cel) (b : TryT) (yes : Bool) : List Cel := cs.flatMap (setlC b yes)
theorem flat_len_le {f : Cel → List Cel} (hf : ∀ c, (f c).length ≤ 1) : ∀ cs : List Cel, (cs.flatMap f).length ≤ cs.length
  | [] => by simp
  | c :: cs => by
    have := flat_len_le hf cs
    have := hf c
    rw [List.flatMap_cons, List.length_append, List.length_cons]
    omega
theorem len_one (p : Bool) (y : Cel) : (if p = true then [y] else []).length ≤ 1 := by cases p <;> simp
theorem setlC_len (b : TryT) (yes : Bool) (c : Cel) : (setlC b yes c).length ≤ 1 := len_one _ _
theorem setlF_len (cs : List Cel) (b : TryT) (yes : Bool) : (setlF cs b yes).length ≤ cs.length := flat_len_le (setlC_len b yes) cs
theorem flat_good {f : Cel → List Cel} (hk : ∀ c x, x ∈ f c → x.key = c.key) (h1 : ∀ c, (f c).length ≤ 1) (hg : ∀ c x, GoodC c → x ∈ f c → GoodC x) : ∀ {cs : List Cel}, Good cs → Good (cs.flatMap f)
  | [], _ => good_nil
  | c :: cs, h => by
    obtain ⟨h2, h3⟩ := List.pairwise_cons.1 h.sort
    have ih := flat_good hk h1 hg (cs := cs) ⟨h3, fun x hx => h.each x (by simp [hx])⟩
    have hc := h1 c
    rw [List.flatMap_cons]
    match hf : f c, hc with
    | [], _ => simpa using ih
    | [y], _ =>
      refine ⟨List.pairwise_cons.2 ⟨fun x hx => ?_, ih.sort⟩, fun x hx => ?_⟩
      · obtain ⟨d, hd, hx⟩ := List.mem_flatMap.1 hx
        rw [hk c y (by rw [hf]; simp), hk d x hx]
        exact h2 d hd
      · rcases List.mem_cons.1 hx with rfl | hx
        · exact hg c _ (h.each c (by simp)) (by rw [hf]; simp)
        · exact ih.each x hx
theorem mem_one {p : Bool} {x y : Cel} (h : x ∈ if p then [y] else []) : p = true ∧ x = y := by
  cases p
  · simp at h
  · simpa using h
theorem free_good {c : Cel} (h : GoodC c) (yes : Bool) (hk : keptB (freeC yes c) = true) : GoodC (freeC yes c) := by
  refine ⟨?_, ?_, fun _ => rfl, hk, fun h => ?_⟩
  · cases yes
    · exact h.sort
    · exact put_sort h.sort _
  · cases yes
    · exact h.vers
    · intro v hv hd
      rcases put_mem hv with rfl | hv
      · exact h.lock hd
      · exact h.vers v hv hd
  · cases h
theorem setlC_mem {b : TryT} {yes : Bool} {c x : Cel} (h : x ∈ setlC b yes c) : keptB x = true ∧ x = if mineB c b then freeC yes c else c := by
  obtain ⟨h1, rfl⟩ := mem_one h
  exact ⟨h1, rfl⟩
theorem setl_good {cs : List Cel} (h : Good cs) (b : TryT) (yes : Bool) : Good (setlF cs b yes) := by
  refine flat_good (fun c x hx => ?_) (setlC_len b yes) (fun c x hc hx => ?_) h
  · obtain ⟨_, rfl⟩ := setlC_mem hx
    split <;> rfl
  · obtain ⟨hk, rfl⟩ := setlC_mem hx
    split
    · rename_i hm
      rw [if_pos hm] at hk
      exact free_good hc yes hk
    · exact hc
theorem setlC_id {b : TryT} {yes : Bool} {c : Cel} (h : GoodC c) (hm : mineB c b = false) : setlC b yes c = [c] := by
  unfold setlC
  rw [hm]
  simp [h.kept]
theorem flat_id {f : Cel → List Cel} : ∀ {cs : List Cel}, (∀ c ∈ cs, f c = [c]) → cs.flatMap f = cs
  | [], _ => rfl
  | c :: cs, h => by
    rw [List.flatMap_cons, h c (by simp), flat_id fun x hx => h x (by simp [hx])]
    rfl
theorem trimC_mem {a : St} {c x : Cel} (h : x ∈ trimC a c) : keptB x = true ∧ x = { c with vers := trimV c.vers a } := by
  obtain ⟨h1, rfl⟩ := mem_one h
  exact ⟨h1, rfl⟩
theorem trimC_len (a : St) (c : Cel) : (trimC a c).length ≤ 1 := by unfold trimC; split <;> simp
theorem trim_good {cs : List Cel} (h : Good cs) (a : St) : Good (trimF cs a) := by
  refine flat_good (fun c x hx => ?_) (trimC_len a) (fun c x hc hx => ?_) h
  · obtain ⟨_, rfl⟩ := trimC_mem hx
    rfl
  · obtain ⟨hk, rfl⟩ := trimC_mem hx
    exact ⟨hc.sort.sublist (List.drop_sublist _ _), fun v hv => hc.vers v (List.mem_of_mem_drop hv), hc.free, hk, hc.lock⟩
theorem getF_split {cs A Z : List Cel} {o : Option Cel} {k : List UInt8} (e : cs = A ++ (o.toList ++ Z)) (hp : posF cs k = A.length) (hf : foundF cs k = o.isSome) (a : St) : getF cs k a = (o.map fun c => tellsF c.vers a).getD ([], false) := by
  cases o with
  | none => exact getF_miss hf
  | some c =>
    have : cs[posF cs k]? = some c := by
      rw [hp, e]
      simp
    unfold getF
    rw [this]
    simp [hf]
theorem heldF_split {cs A Z : List Cel} {o : Option Cel} {k : List UInt8} (e : cs = A ++ (o.toList ++ Z)) (hp : posF cs k = A.length) (hf : foundF cs k = o.isSome) : heldF cs k = (o.map fun c => if c.locked then (c.lock, true) else (Lck.zero, false)).getD (Lck.zero, false) := by
  cases o with
  | none => exact heldF_miss hf
  | some c =>
    have : cs[posF cs k]? = some c := by
      rw [hp, e]
      simp
    unfold heldF
    rw [this]
    simp [hf]
/-- The cell of a key. -/
def lookC (cs : List Cel) (k : List UInt8) : Option Cel := cs.find? fun c => decide (c.key = k)
theorem look_split {A Z : List Cel} {o : Option Cel} {k : List UInt8} (hA : ∀ c ∈ A, ltB c.key k = true) (hZ : ∀ c ∈ Z, ltB k c.key = true) (ho : ∀ c ∈ o, c.key = k) : lookC (A ++ (o.toList ++ Z)) k = o := by
  unfold lookC
  have h1 : A.find? (fun c => decide (c.key = k)) = none := by
    rw [List.find?_eq_none]
    intro c hc
    have := ltB_ne (hA c hc)
    simpa using this
  rw [List.find?_append, h1, Option.none_or]
  cases o with
  | none =>
    rw [Option.toList_none, List.nil_append, List.find?_eq_none]
    intro c hc
    have := ltB_ne (hZ c hc)
    simpa using fun h : c.key = k => this h.symm
  | some c =>
    have := ho c rfl
    simp [this]
theorem getF_look {cs : List Cel} (h : cs.Pairwise fun x y => ltB x.key y.key = true) (k : List UInt8) (a : St) : getF cs k a = ((lookC cs k).map fun c => tellsF c.vers a).getD ([], false) := by
  obtain ⟨A, o, Z, e1, e2, e3, e4, e5, e6, e7⟩ := split_at (k := k) h
  rw [getF_split e1 e6 e7]
  congr 1
  rw [e1, look_split e2 e3 e4]
theorem heldF_look {cs : List Cel} (h : cs.Pairwise fun x y => ltB x.key y.key = true) (k : List UInt8) : heldF cs k = ((lookC cs k).map fun c => if c.locked then (c.lock, true) else (Lck.zero, false)).getD (Lck.zero, false) := by
  obtain ⟨A, o, Z, e1, e2, e3, e4, e5, e6, e7⟩ := split_at (k := k) h
  rw [heldF_split e1 e6 e7]
  congr 1
  rw [e1, look_split e2 e3 e4]
theorem mineF_no {cs : List Cel} {b : TryT} (h : mineF cs b = false) : ∀ c ∈ cs, mineB c b = false := by
  intro c hc
  unfold mineF at h
  rw [List.any_eq_false] at h
  simpa using h c hc
/-- A lock that is settled, where the attempt had none. -/
theorem lock_setl {cs : List Cel} (h : Good cs) (w : Wr) (l : Lck) (hm : mineF cs l.by_ = false) (yes : Bool) : ∃ (A : List Cel) (o : Option Cel) (Z : List Cel), cs = A ++ (o.toList ++ Z) ∧ (∀ c ∈ A, ltB c.key w.key = true) ∧ (∀ c ∈ Z, ltB w.key c.key = true) ∧ (∀ c ∈ o, c.key = w.key) ∧
    lockF cs w.key (lockW w l) = A ++ (updC (o.getD (freshC w.key)) (lockW w l)) :: Z ∧
    setlF (lockF cs w.key (lockW w l)) l.by_ yes = A ++ (setlC l.by_ yes (updC (o.getD (freshC w.key)) (lockW w l)) ++ Z) ∧ mineB (updC (o.getD (freshC w.key)) (lockW w l)) l.by_ = true := by
  obtain ⟨A, o, Z, e1, e2, e3, e4, e5, e6, e7⟩ := split_at (k := w.key) h.sort
  refine ⟨A, o, Z, e1, e2, e3, e4, e5 _, ?_, ?_⟩
  · rw [e5]
    unfold setlF
    rw [List.flatMap_append, List.flatMap_cons]
    have hn := mineF_no hm
    rw [flat_id fun c hc => setlC_id (h.each c (by rw [e1]; simp [hc])) (hn c (by rw [e1]; simp [hc])), flat_id fun c hc => setlC_id (h.each c (by rw [e1]; simp [hc])) (hn c (by rw [e1]; simp [hc]))]
  · simp [mineB, lockW, updC]
theorem look_other {A Z : List Cel} {m m' : List Cel} {k : List UInt8} (h1 : ∀ c ∈ m, c.key ≠ k) (h2 : ∀ c ∈ m', c.key ≠ k) : lookC (A ++ (m ++ Z)) k = lookC (A ++ (m' ++ Z)) k := by
  unfold lookC
  have e : ∀ m : List Cel, (∀ c ∈ m, c.key ≠ k) → m.find? (fun c => decide (c.key = k)) = none := fun m h => by
    rw [List.find?_eq_none]
    intro c hc
    simpa using h c hc
  simp only [List.find?_append, e m h1, e m' h2, Option.none_or]
theorem setlC_keys {b : TryT} {yes : Bool} {c : Cel} {k : List UInt8} (h : c.key = k) : ∀ x ∈ setlC b yes c, x.key = k := by
  intro x hx
  obtain ⟨_, rfl⟩ := setlC_mem hx
  split
  · exact h
  · exact h
theorem upd_key {o : Option Cel} {k : List UInt8} {l : Lck} (h : ∀ c ∈ o, c.key = k) : (updC (o.getD (freshC k)) l).key = k := by
  cases o with
  | none => rfl
  | some c => exact h c rfl
theorem find_one {l : List Cel} {k : List UInt8} (h : ∀ c ∈ l, c.key = k) (h1 : l.length ≤ 1) : l = l.head?.toList := by
  match l, h1 with
  | [], _ => rfl
  | [c], _ => rfl
/-- MvccPast, plain. -/
theorem past_plain {cs : List Cel} (h : Good cs) (w : Wr) (l : Lck) (hm : mineF cs l.by_ = false) (yes : Bool) (a : St) :
    (lessB a l.at_ = true ∨ yes = false → getF (setlF (lockF cs w.key (lockW w l)) l.by_ yes) w.key a = getF cs w.key a) ∧
    (yes = true → getF (setlF (lockF cs w.key (lockW w l)) l.by_ yes) w.key l.at_ = if w.drop = true then ([], false) else (w.data, true)) := by
  obtain ⟨A, o, Z, e1, e2, e3, e4, e5, e6, e7⟩ := lock_setl h w l hm yes
  have hg := lock_good h w l
  have hq := setl_good hg l.by_ yes
  have key : ∀ b, getF (setlF (lockF cs w.key (lockW w l)) l.by_ yes) w.key b = tellsF (if yes then putF (o.getD (freshC w.key)).vers ⟨l.at_, w.drop, if w.drop then [] else w.data⟩ else (o.getD (freshC w.key)).vers) b := by
    intro b
    have hks := setlC_keys (b := l.by_) (yes := yes) (upd_key (l := lockW w l) e4)
    rw [getF_look hq.sort, e6, find_one hks (setlC_len _ _ _), look_split e2 e3 (fun c hc => hks c (List.mem_of_head? hc))]
    unfold setlC
    rw [e7]
    simp only [if_true]
    cases hkb : keptB (freeC yes (updC (o.getD (freshC w.key)) (lockW w l)))
    · have hv : (freeC yes (updC (o.getD (freshC w.key)) (lockW w l))).vers = [] := by
        simpa [keptB, freeC] using hkb
      have : (if yes then putF (o.getD (freshC w.key)).vers ⟨l.at_, w.drop, if w.drop then [] else w.data⟩ else (o.getD (freshC w.key)).vers) = [] := hv
      rw [this]
      rfl
    · rfl
  have hold : getF cs w.key a = tellsF (o.getD (freshC w.key)).vers a := by
    rw [getF_look h.sort]
    conv => lhs; rw [e1]
    rw [look_split e2 e3 e4]
    cases o <;> rfl
  refine ⟨fun hor => ?_, fun hy => ?_⟩
  · rw [key, hold]
    cases yes
    · rfl
    · rcases hor with h1 | h1
      · exact tells_put_low (v := ⟨l.at_, w.drop, if w.drop then [] else w.data⟩) h1 _
      · cases h1
  · subst hy
    rw [key]
    have hs : SortV (o.getD (freshC w.key)).vers := by
      cases o with
      | none => exact List.Pairwise.nil
      | some c => exact (h.each c (by rw [e1]; simp)).sort
    have := tells_put_at (v := ⟨l.at_, w.drop, if w.drop then [] else w.data⟩) hs
    simp only [if_true]
    rw [this]
    cases w.drop <;> rfl
/-- MvccFree, plain. -/
theorem free_plain {cs : List Cel} (h : Good cs) (w : Wr) (l : Lck) :
    heldF (lockF cs w.key (lockW w l)) w.key = (lockW w l, true) ∧ ((heldF cs w.key).2 = false → mineF cs l.by_ = false → setlF (lockF cs w.key (lockW w l)) l.by_ false = cs) := by
  have hg := lock_good h w l
  refine ⟨?_, fun hh hm => ?_⟩
  · obtain ⟨A, o, Z, e1, e2, e3, e4, e5, e6, e7⟩ := split_at (k := w.key) h.sort
    have := look_split (o := some (updC (o.getD (freshC w.key)) (lockW w l))) e2 e3 (fun c hc => by cases hc; exact upd_key e4)
    rw [heldF_look hg.sort, e5]
    rw [show A ++ (updC (o.getD (freshC w.key)) (lockW w l)) :: Z = A ++ ((some (updC (o.getD (freshC w.key)) (lockW w l))).toList ++ Z) from rfl, this]
    rfl
  · obtain ⟨A, o, Z, e1, e2, e3, e4, e5, e6, e7⟩ := lock_setl h w l hm false
    rw [heldF_look h.sort] at hh
    have hlk : lookC cs w.key = o := by conv => lhs; rw [e1]
                                        exact look_split e2 e3 e4
    rw [hlk] at hh
    rw [e6]
    conv => rhs; rw [e1]
    congr 2
    unfold setlC
    rw [e7]
    cases o with
    | none => rfl
    | some c =>
      have hc := h.each c (by rw [e1]; simp)
      have hl : c.locked = false := by
        cases hl : c.locked
        · rfl
        · rw [Option.map_some, Option.getD_some, hl] at hh
          cases hh
      have hz := hc.free hl
      have hk := hc.kept
      have : freeC false (updC ((some c).getD (freshC w.key)) (lockW w l)) = c := by
        unfold freeC
        cases c
        simp at hl hz ⊢
        simp [hl, hz, updC]
      rw [if_pos rfl, this, hk]
      rfl
theorem trim_twice (cs : List Cel) (a : St) : trimF (trimF cs a) a = trimF cs a := by
  have key : ∀ c, (trimC a c).flatMap (trimC a) = trimC a c := by
    intro c
    unfold trimC
    cases hk : keptB { c with vers := trimV c.vers a }
    · simp
    · simp [trim_trim, hk]
  unfold trimF
  induction cs with
  | nil => rfl
  | cons c cs ih => simp only [List.flatMap_cons, List.flatMap_append, key c, ih]
structure OpT where
  kind : Int
  w : Wr
  l : Lck
  yes : Bool
def kindN (k : Int) : Int := k.emod 3
def opF (cs : List Cel) (o : OpT) : List Cel := if kindN o.kind = 0 then lockF cs o.w.key (lockW o.w o.l) else if kindN o.kind = 1 then setlF cs o.l.by_ o.yes else trimF cs o.l.at_
theorem opF_good {cs : List Cel} (h : Good cs) (o : OpT) : Good (opF cs o) := by
  unfold opF
  split
  · exact lock_good h _ _
  · split
    · exact setl_good h _ _
    · exact trim_good h _
/-- Cells of which there are at most n, with at most n versions each. -/
def Few (n : Nat) (cs : List Cel) : Prop := cs.length ≤ n ∧ ∀ c ∈ cs, c.vers.length ≤ n
theorem opF_few {cs : List Cel} {n : Nat} (hs : Good cs) (h : Few n cs) (o : OpT) : Few (n + 1) (opF cs o) := by
  unfold opF
  split
  · refine ⟨by have := lock_len cs o.w.key (lockW o.w o.l); have := h.1; omega, fun c hc => ?_⟩
    obtain ⟨A, q, Z, e1, e2, e3, e4, e5, _⟩ := split_at (k := o.w.key) hs.sort
    rw [e5] at hc
    have hin : ∀ x ∈ cs, x.vers.length ≤ n + 1 := fun x hx => by have := h.2 x hx; omega
    rcases List.mem_append.1 hc with hc | hc
    · exact hin c (by rw [e1]; simp [hc])
    · rcases List.mem_cons.1 hc with rfl | hc
      · cases q with
        | none => exact Nat.zero_le _
        | some d => exact hin d (by rw [e1]; simp)
      · exact hin c (by rw [e1]; simp [hc])
  · split
    · refine ⟨by have := setlF_len cs o.l.by_ o.yes; have := h.1; omega, fun c hc => ?_⟩
      obtain ⟨d, hd, hx⟩ := List.mem_flatMap.1 hc
      obtain ⟨_, rfl⟩ := setlC_mem hx
      have := h.2 d hd
      split
      · show (if o.yes = true then putF d.vers (lockV d) else d.vers).length ≤ n + 1
        split
        · have := (put_len d.vers (lockV d)).1
          omega
        · omega
      · omega
    · refine ⟨by have := trimF_len o.l.at_ cs; have := h.1; omega, fun c hc => ?_⟩
      obtain ⟨d, hd, hx⟩ := List.mem_flatMap.1 hc
      obtain ⟨_, rfl⟩ := trimC_mem hx
      have := h.2 d hd
      show (List.drop _ _).length ≤ n + 1
      rw [List.length_drop]
      omega
theorem Few.mono {n m : Nat} {cs : List Cel} (h : Few n cs) (hm : n ≤ m) : Few m cs := ⟨Nat.le_trans h.1 hm, fun c hc => Nat.le_trans (h.2 c hc) hm⟩
end Go.Proofs.Ytoldelocfmpccaa
namespace Go.Proofs.Ytoldelocfmpccaa
open Go.RowKit
section
variable {P : Program} {t e : TypeId} {size bytes : Nat} {z : Value}
/-- copy of structs into a row that is known whole. -/
theorem run_cpN (T : SlT P t e size bytes z) (w : World) (ty : TypeId) (g off dLen dCap sLen sCap k : Nat) (ad : Addr) (cur cs : List Value) (u : TypeId) (hg : Row w g u cur) (hk : k = Nat.min sLen dLen) (hl : cs.length = k * size)
    (hc : ∀ j v, cs[j]? = some v → w.cell? (ad.add j) = some v) (hfit : off + cs.length ≤ cur.length) (h1 : ∀ v ∈ cs, v.oneCell' = true) :
    ∃ w', (Builtin.copy_ #[t, t] ty #[.slice (some ⟨g, off, none⟩) dLen dCap, .slice (some ad) sLen sCap]).run P w = .ok (goInt k) w' ∧ Row w' g u (cur.take off ++ cs ++ cur.drop (off + cs.length)) ∧ Same (fun k => k ≠ g) w w' := by
  obtain ⟨i, hi, hz, h4, h5⟩ := info_parts T.info
  have hld := run_loadCells_list (P := P) w ad cs hc
  rw [hl] at hld
  have hst := run_storeCells_at (P := P) g off u cs 0 cur.toArray w hg (by simpa using hfit) h1
  refine ⟨w.setRow g (cur.take off ++ cs ++ cur.drop (off + cs.length)).toArray, ?_, ?_, ?_⟩
  · simp only [Nat.add_zero, List.toList_toArray] at hst
    simp [Builtin.copy_, run_underlying T.und, Builtin.lenOf, Builtin.firstCells, sizeOf, typeInfo, hi, h4, ← hk, hld, hst]
  · exact setRow_heap w g cur.toArray _ u (0, 0) hg
  · exact ⟨rfl, rfl, rfl, by simp [World.setRow], fun k _ hk => setRow_other w g k _ hk⟩
theorem wpList_cpN (T : SlT P t e size bytes z) (w : World) {ops : Array Oper} {rest : List Oper} {o : Oper} {a : Act} {Q : Exit → Act → World → Prop} (hgd : o.guard = none) (d s : Operand)
    (ho : o.op = .call { callee := .builtin .copy, args := #[d, s], argTypes := #[t, t] }) (g off dLen dCap sLen sCap k : Nat) (ad : Addr) (hd : a.eval d = .slice (some ⟨g, off, none⟩) dLen dCap) (hs : a.eval s = .slice (some ad) sLen sCap)
    (cur cs : List Value) (u : TypeId) (hg : Row w g u cur) (hk : k = Nat.min sLen dLen) (hl : cs.length = k * size)
    (hc : ∀ j v, cs[j]? = some v → w.cell? (ad.add j) = some v) (hfit : off + cs.length ≤ cur.length) (h1 : ∀ v ∈ cs, v.oneCell' = true)
    (h : ∀ w', Row w' g u (cur.take off ++ cs ++ cur.drop (off + cs.length)) → Same (fun k => k ≠ g) w w' → wpList P ops Q rest (a.put o.dst (goInt k)) w') : wpList P ops Q (o :: rest) a w := by
  obtain ⟨w', hr, h2, h3⟩ := run_cpN T w o.type g off dLen dCap sLen sCap k ad cur cs u hg hk hl hc hfit h1
  refine wpList_plain hgd fun K hK => ?_
  unfold Oper.wp execOp
  simp only [ho, resolve, invoke, builtin, Sem.run_bind, Sem.run_pure, Result.andThen_ok, List.map_toArray, List.map_cons, List.map_nil, hd, hs, hr]
  exact hK _ _ (h w' h2 h3)
theorem step_cpN (T : SlT P t e size bytes z) {w : World} {ops : Array Oper} {o : Oper} {a : Act} {K : Act → World → Prop} {Q : Exit → Act → World → Prop} {E : Prop} (hgd : o.guard = none) (d s : Operand)
    (ho : o.op = .call { callee := .builtin .copy, args := #[d, s], argTypes := #[t, t] }) (g off dLen dCap sLen sCap k : Nat) (ad : Addr) (hd : a.eval d = .slice (some ⟨g, off, none⟩) dLen dCap) (hs : a.eval s = .slice (some ad) sLen sCap)
    (cur cs : List Value) (u : TypeId) (hg : Row w g u cur) (hk : k = Nat.min sLen dLen) (hl : cs.length = k * size)
    (hc : ∀ j v, cs[j]? = some v → w.cell? (ad.add j) = some v) (hfit : off + cs.length ≤ cur.length) (h1 : ∀ v ∈ cs, v.oneCell' = true)
    (h : ∀ w', Hid (Row w' g u (cur.take off ++ cs ++ cur.drop (off + cs.length))) → Hid (Same (fun k => k ≠ g) w w') → K (a.put o.dst (goInt k)) w') : if Region.wanted o (yielded ops a.tmps) = true then Oper.wp P o a w K Q else E := by
  obtain ⟨w', hr, h2, h3⟩ := run_cpN T w o.type g off dLen dCap sLen sCap k ad cur cs u hg hk hl hc hfit h1
  have hw : Region.wanted o (yielded ops a.tmps) = true := by simp [Region.wanted, hgd]
  rw [if_pos hw]
  unfold Oper.wp execOp
  simp only [ho, resolve, invoke, builtin, Sem.run_bind, Sem.run_pure, Result.andThen_ok, List.map_toArray, List.map_cons, List.map_nil, hd, hs, hr]
  exact h w' (Lib.hid h2) (Lib.hid h3)
/-- append(s[:i], make(.., k)...) where there is no room. -/
theorem wpList_apz (T : SlT P t e size bytes z) (w : World) {ops : Array Oper} {rest : List Oper} {o : Oper} {a : Act} {Q : Exit → Act → World → Prop} (hgd : o.guard = none) (s x : Operand) (tn : TypeId)
    (ho : o.op = .call { callee := .builtin .append, args := #[s, x], argTypes := #[t, tn] }) (hn : P.underlying tn = some (.int .i64)) (ad : Addr) (i c k M : Nat) (K : Int) (olds : List Value) (hs : a.eval s = .slice (some ad) i c) (hx : a.eval x = .int .i64 K) (hK : K = k) (hM : i + k = M)
    (hl : olds.length = i * size) (hc : ∀ j v, olds[j]? = some v → w.cell? (ad.add j) = some v) (h0 : 0 < k) (hg : c < i + k) (h63 : i + k ≤ 1000001) (hb : bytes ≤ 1000)
    (h : ∀ w' G Z, Row w' w.heap.size e (olds ++ Z) → Z.length = (G - i) * size → M ≤ G → G ≤ maxLen → Same (fun _ => True) w w' → w.heap.size < w'.heap.size → wpList P ops Q rest (a.put o.dst (.slice (some ⟨w.heap.size, 0, none⟩) M G)) w') : wpList P ops Q (o :: rest) a w := by
  subst hM
  obtain ⟨ti, hi, hz, h4, h5⟩ := info_parts T.info
  subst hK
  have hold : (Builtin.firstCells ti.size i (.slice (some ad) i c)).run P w.drew = .ok olds.toArray w.drew := run_firstCells_some (w := w.drew) ti.size i ad i c olds (by rw [h4]; exact hl) hc
  have hbb : (i + k) * bytes ≤ 140737488355328 := Nat.le_trans (Nat.mul_le_mul h63 hb) (by decide)
  have hkb : k * bytes ≤ 281474976710656 := by
    have : k * bytes ≤ (i + k) * bytes := Nat.mul_le_mul_right _ (by omega)
    omega
  have hr := Lib.run_append_grow_zeros (P := P) w t tn o.type e ti z .i64 .i64 T.und hn hi hz (some ad) i c olds hold k h0 (by rw [h4]; exact T.pos) hg (by omega) (by rw [h5]; exact hkb) (by rw [h5]; exact growslice_fits hg hbb)
  refine Lib.wpList_append_run w hgd s x t tn ho _ _ hs hx _ _ hr ?_
  have hge := grownCap_ge w (i + k) c e
  have hle := grownCap_le_maxLen w (i + k) c e (by simp only [maxLen]; omega)
  generalize grownCap w (i + k) c e = G at *
  refine h _ G ((Builtin.zeroCells z.cells k).toList ++ (Builtin.zeroCells z.cells (G - (i + k))).toList) ?_ ?_ hge hle (((Same.refl _ _).drew).alloc _) (by simp)
  · have := Row.new w.drew e (olds ++ ((Builtin.zeroCells z.cells k).toList ++ (Builtin.zeroCells z.cells (G - (i + k))).toList))
    have e1 : (olds ++ ((Builtin.zeroCells z.cells k).toList ++ (Builtin.zeroCells z.cells (G - (i + k))).toList)).toArray = olds.toArray ++ Builtin.zeroCells z.cells k ++ Builtin.zeroCells z.cells (G - (i + k)) := by
      apply Array.toList_inj.1
      simp
    unfold Row at this ⊢
    rw [e1] at this ⊢
    exact this
  · rw [List.length_append, Array.length_toList, Array.length_toList, size_zeroCells, size_zeroCells, T.zs, ← Nat.add_mul]
    congr 1
    omega
/-- slices.overlaps at two blocks. -/
theorem run_apart (T : SlT P t e size bytes z) {f : FuncId} {fn : Func} (hf : P.funcs[f]? = some fn) (hname : (fn.name == "runtime.NumGoroutine") = false) (hb : fn.body.isNone = true) (hn : Extern.findNext fn = none) (tb : TypeId) (he : Extern.find fn = some (Extern.SlicesOverlaps.overlaps #[t, t] #[tb]))
    (w : World) (x g : Nat) (xs ys : List Value) (off la ca lb cb : Nat) (hx : Row w x e xs) (hg : Row w g e ys) (hy : ys ≠ []) (hne : x ≠ g) :
    (callFunc f #[.slice (some ⟨x, 0, none⟩) la ca, .slice (some ⟨g, off, none⟩) lb cb]).run P w = .ok (.value (.bool false)) w := by
  obtain ⟨i, hi, hz, h4, h5⟩ := info_parts T.info
  have sx : w.shape? x = some (e, xs.length) := by unfold Row at hx; simp [World.shape?, hx]
  have sg : w.shape? g = some (e, ys.length) := by unfold Row at hg; simp [World.shape?, hg]
  rw [run_callFunc_extern hf hname hb hn he, Lib.run_overlaps_apart w t tb e T.und size (fun w => by simp [sizeOf, typeInfo, hi, h4]) ⟨x, 0, none⟩ ⟨g, off, none⟩ la ca lb cb hne e e xs.length ys.length sx sg (by intro h; exact hy (List.eq_nil_of_length_eq_zero h)) (hx.frozen 0) (hx.frozen _)]
  rfl
end
section
variable {α : Type} {f : α → List Value} {n : Nat} {e : TypeId} {w : World} {B : Nat} {v : Value} {l : List α}
theorem OwnR.ways (h : OwnR f n e w B v l) : (v = .slice none 0 0 ∧ l = []) ∨ ∃ g cap cur, v = .slice (some ⟨g, 0, none⟩) l.length cap ∧ B ≤ g ∧ Row w g e cur ∧ l.length ≤ cap ∧ cap ≤ maxLen ∧ cur.length = cap * n ∧ cur.take (l.length * n) = l.flatMap f := by
  rcases ownsRow_row h with ⟨h1, h2, _⟩ | h1
  · exact .inl ⟨h1, List.eq_nil_of_length_eq_zero h2⟩
  · exact .inr h1
theorem OwnR.make {g cap m : Nat} {cur : List Value} (hB : B ≤ g) (hr : Row w g e cur) (hc : l.length ≤ cap) (hm : cap ≤ maxLen) (hl : cur.length = cap * n) (ht : cur.take (l.length * n) = l.flatMap f) (hml : l.length = m) : OwnR f n e w B (.slice (some ⟨g, 0, none⟩) m cap) l := by
  subst hml
  have := hr.owns (base := B) (size := n) (n := l.length) (cap := cap) hB hl hc hm
  rw [ht] at this
  exact this
/-- Cells with one element laid in between. -/
theorem ins_cells (hf : ∀ x, (f x).length = n) {i : Nat} (hi : i ≤ l.length) (c : α) (D : List Value) :
    ((l.take i).flatMap f ++ f c ++ ((l.drop i).flatMap f ++ D)).take ((l.take i ++ c :: l.drop i).length * n) = (l.take i ++ c :: l.drop i).flatMap f := by
  have e1 : (l.take i).flatMap f ++ f c ++ ((l.drop i).flatMap f ++ D) = (l.take i ++ c :: l.drop i).flatMap f ++ D := by simp
  rw [e1, List.take_append_of_le_length (by rw [flat_len f n hf]; exact Nat.le_refl _), List.take_of_length_le (by rw [flat_len f n hf]; exact Nat.le_refl _)]
end
theorem lay_one {H Z X : List Value} {o m : Nat} (hH : H.length = o) (hX : X.length = m) : (H ++ Z).take o ++ X ++ (H ++ Z).drop (o + X.length) = H ++ X ++ Z.drop m := by
  subst hH hX
  rw [List.take_left, List.drop_append, List.drop_eq_nil_of_le (by omega)]
  simp
theorem lay_two {H X Z T : List Value} {o : Nat} (h : (H ++ X).length = o) : (H ++ X ++ Z).take o ++ T ++ (H ++ X ++ Z).drop (o + T.length) = H ++ X ++ (T ++ Z.drop T.length) := by
  subst h
  rw [List.take_left, List.drop_append, List.drop_eq_nil_of_le (by omega)]
  simp
theorem lay_three {cur H X T D : List Value} {o m : Nat} (hH : H = cur.take o) (hX : X.length = m) (hl : o + m ≤ cur.length) : (cur.take (o + m) ++ T ++ D).take o ++ X ++ (cur.take (o + m) ++ T ++ D).drop (o + X.length) = H ++ X ++ (T ++ D) := by
  subst hH hX
  have e : (cur.take (o + X.length)).length = o + X.length := by rw [List.length_take]; omega
  rw [List.append_assoc (cur.take (o + X.length)), List.take_append_of_le_length (by omega), List.take_take, Nat.min_eq_left (by omega), List.drop_append, List.drop_eq_nil_of_le (by omega), e]
  simp
def InsP {α : Type} (f : α → List Value) (n : Nat) (e : TypeId) (B : Nat) (v : Value) (l : List α) (w : World) (r : Ending) (w' : World) : Prop :=
  ∃ v', r = .returned v' ∧ OwnR f n e w' B v' l ∧ Same (fun k => some k ≠ v.ownBlock) w w'
end Go.Proofs.Ytoldelocfmpccaa
namespace Go.Proofs.Ytoldelocfmpccaa
open Go.RowKit
set_option maxHeartbeats 4000000 in
theorem insv_any (v : Value) (l : List Ver) (c : Ver) (i x B : Nat) (w : World) (hown : OwnR verCs 4 69 w B v l) (hx : Row w x 69 (verCs c)) (hne : v.ownBlock ≠ some x) (hi : i ≤ l.length) (hn : l.length ≤ 1000000) (hB : B ≤ w.heap.size) (h1 : ∀ y ∈ l, ∀ u ∈ verCs y, u.oneCell' = true) (h2 : ∀ u ∈ verCs c, u.oneCell' = true) :
    Calls Try.prog 93 #[v, .int .i64 i, .slice (some ⟨x, 0, none⟩) 1 1] w (InsP verCs 4 69 B v (l.take i ++ c :: l.drop i) w) := by
  rcases Nat.lt_or_ge i l.length with hlt | hge
  · rcases hown.ways with ⟨_, h0⟩ | ⟨g, cap, cur, rfl, hBg, hr, hc, hm, hcl, hct⟩
    · rw [h0] at hlt; simp at hlt
    have hgx : x ≠ g := fun e => hne (by rw [e]; rfl)
    have hrow : (l.take i).flatMap verCs = cur.take (i * 4) := by
      have := congrArg (List.take (i * 4)) hct
      rw [List.take_take, Nat.min_eq_left (Nat.mul_le_mul_right _ hi)] at this
      rw [flat_take verCs 4 verCs_len, ← this]
    have htail : (l.drop i).flatMap verCs = (cur.take (l.length * 4)).drop (i * 4) := by rw [flat_drop verCs 4 verCs_len, hct]
    have hgw := hr.lt
    have hxw := hx.lt
    obtain ⟨N, hN⟩ : ∃ N, N = l.length := ⟨_, rfl⟩
    have hTl : ((l.drop i).flatMap verCs).length = (N - i) * 4 := by rw [flat_len verCs 4 verCs_len, List.length_drop, hN]
    have hHl : ((l.take i).flatMap verCs).length = i * 4 := by rw [flat_len verCs 4 verCs_len, List.length_take, Nat.min_eq_left hi]
    have hT1 : ∀ u ∈ (l.drop i).flatMap verCs, u.oneCell' = true := fun u hu => by
      obtain ⟨y, hy, hu⟩ := List.mem_flatMap.1 hu
      exact h1 y (List.mem_of_mem_drop hy) u hu
    have hres : (l.take i ++ c :: l.drop i).length = N + 1 := by simp; omega
    have hcells := fun D => ins_cells (f := verCs) (n := 4) verCs_len hi c D
    rw [hres] at hcells
    have htc : ∀ j u, ((l.drop i).flatMap verCs)[j]? = some u → w.cell? ((⟨g, i * 4, none⟩ : Addr).add j) = some u := by
      intro j u hu
      rw [add_none, hr.cell]
      rw [htail, List.getElem?_drop, List.getElem?_take] at hu
      split at hu
      · exact hu
      · cases hu
    have hhc : ∀ j u, ((l.take i).flatMap verCs)[j]? = some u → w.cell? ((⟨g, 0, none⟩ : Addr).add j) = some u := by
      intro j u hu
      rw [add_none, hr.cell, Nat.zero_add]
      rw [hrow, List.getElem?_take] at hu
      split at hu
      · exact hu
      · cases hu
    have hxc : ∀ j u, (verCs c)[j]? = some u → w.cell? ((⟨x, 0, none⟩ : Addr).add j) = some u := by
      intro j u hu
      rw [add_none, hx.cell, Nat.zero_add]
      exact hu
    have hcln := verCs_len c
    rw [← hN] at hlt hn hc hct ⊢
    have hi1 : (i : Int) + 1 ≤ (N : Int) := by omega
    have hcm : cap ≤ 9223372036854775807 := by unfold maxLen at hm; omega
    obtain ⟨T, hT⟩ : ∃ T, T = (l.drop i).flatMap verCs := ⟨_, rfl⟩
    obtain ⟨H, hH⟩ : ∃ H, H = (l.take i).flatMap verCs := ⟨_, rfl⟩
    obtain ⟨X, hX⟩ : ∃ X, X = verCs c := ⟨_, rfl⟩
    obtain ⟨R, hR⟩ : ∃ R, R = l.take i ++ c :: l.drop i := ⟨_, rfl⟩
    rw [← hT] at hTl hT1 htc
    rw [← hH] at hHl hhc hrow
    rw [← hX] at hxc hcln hx h2
    rw [← hR] at hcells hres ⊢
    rw [← hT, ← hH, ← hX] at hcells
    have Hr := Lib.hid hr
    have Hx := Lib.hid hx
    have Htc := Lib.hid htc
    have Hhc := Lib.hid hhc
    have Hxc := Lib.hid hxc
    have Hcells := Lib.hid hcells
    have Hres := Lib.hid hres
    have Hrow := Lib.hid hrow
    have HTl := Lib.hid hTl
    have HHl := Lib.hid hHl
    have Hcl := Lib.hid hcl
    have Hxl := Lib.hid hcln
    have HT1 := Lib.hid hT1
    have HX1 := Lib.hid h2
    clear hr hx htc hhc hxc hcells hres hrow hTl hHl hcl hcln hT1 h1 h2 hct htail hown hT hH hX hR hne hN
    by_cases hroom : cap < N + 1
    · obtain rfl : cap = N := by omega
      have hw1 : IntKind.i64.wrap ((i : Int) + 1) = (i : Int) + 1 := by rw [IntKind.wrap_i64]; omega
      have hw2 : (0 : Int) ≤ (i : Int) + 1 := by omega
      have hw3 : ((i : Int) + 1).toNat = i + 1 := by omega
      have e1 : (cap : Int) < (cap : Int) + 1 := by omega
      have e2 : ¬ ((i : Int) = (cap : Int)) := by omega
      have e3 : ¬ (cap = i) := by omega
      have e4 : (i : Int) ≤ (cap : Int) := by omega
      go_enter Try.func93, Try.ntmps93
      go_wp2_with (at_builtin; refine stopAt ?_)
      unfold Hid
      refine wpList_apz TVer w rfl (.tmp 34) (.tmp 39) 3 rfl (by kernel_rfl) ⟨g, 0, none⟩ i cap (cap + 1 - i) (cap + 1) _ H rfl rfl (by omega) (by omega) HHl.out Hhc.out (by omega) (by omega) (by omega) (by omega) ?_
      intro w2 G Z k1 k2 k3 k4 k5 k6
      have K1 := Lib.hid k1
      have K2 := Lib.hid k2
      have K5 := Lib.hid k5
      unfold maxLen at k4
      have f1 : ¬ (G = i) := by omega
      have f2 : ¬ (G = i + 1) := by omega
      have f3 : (i : Int) ≤ (cap : Int) + 1 := by omega
      have f4 : (cap : Int) + 1 ≤ (G : Int) := by omega
      have f5 : (i : Int) + 1 ≤ (cap : Int) + 1 := by omega
      clear k1 k2 k5
      go_wp2_with (with_reducible refine stopCopy rfl ?_)
      unfold Hid
      refine wpList_cpN TVer w2 rfl (.tmp 43) (.tmp 44) rfl w.heap.size (i * 4) (cap + 1 - i) (G - i) 1 1 1 ⟨x, 0, none⟩ (by first | rfl | simp) rfl (H ++ Z) X 69 K1.out (by simp only [Nat.min_def]; split <;> omega) (by have := Hxl.out; omega) (fun j u hu => K5.out.cell trivial (Hxc.out j u hu)) (by rw [List.length_append, HHl.out, Hxl.out, K2.out, ← Nat.add_mul]; have : (i + 1) * 4 ≤ (i + (G - i)) * 4 := Nat.mul_le_mul_right _ (by omega); omega) HX1.out ?_
      rw [lay_one HHl.out Hxl.out]
      intro w3 k7 k8
      have hS3 : Same (fun k => k < w.heap.size) w w3 := (K5.out.mono fun _ _ _ => trivial).trans (k8.mono fun k _ hk => by omega)
      have K7 := Lib.hid k7
      have HS3 := Lib.hid hS3
      clear k7 k8 hS3
      go_wp2
      go_region_law (refine step_cpN TVer rfl (.tmp 50) (.tmp 53) rfl w.heap.size ((i + 1) * 4) (cap + 1 - (i + 1)) (G - (i + 1)) (cap - i) (cap - i) (cap - i) ⟨g, i * 4, none⟩ (by simp [Act.eval, Act.put]) (by simp [Act.eval, Act.put]) (H ++ X ++ Z.drop 4) T 69 (Row.keep K7.out ((Same.refl (fun _ => True) _).drew) trivial) (by simp only [Nat.min_def]; split <;> omega) HTl.out (fun j u hu => ((HS3.out).drew).cell (by rw [block_of_add]; exact hgw) (Htc.out j u hu)) (by rw [List.length_append, List.length_append, HHl.out, Hxl.out, HTl.out, List.length_drop, K2.out, ← Nat.add_mul]; have : (i + 1 + (cap - i)) * 4 ≤ G * 4 := Nat.mul_le_mul_right _ (by omega); have : (G - i) * 4 = G * 4 - i * 4 := Nat.sub_mul _ _ _; omega) HT1.out ?_; intro w4 k9 k10)
      rw [lay_two (by rw [List.length_append, HHl.out, Hxl.out]; omega)] at k9
      go_wp2
      go_ret
      refine ⟨_, rfl, OwnR.make hB k9.out (by have := Hres.out; omega) (by simp only [maxLen]; omega) ?_ (by rw [Hres.out]; exact Hcells.out _) Hres.out, ?_⟩
      · rw [List.length_append, List.length_append, List.length_append, List.length_drop, List.length_drop, HHl.out, Hxl.out, HTl.out, K2.out]
        omega
      · refine (HS3.out.drew.trans' k10.out fun q hq hq2 => by omega).mono fun q hq _ => hq
    · have e1 : ¬ ((cap : Int) < (N : Int) + 1) := by omega
      have hw1 : IntKind.i64.wrap ((i : Int) + 1) = (i : Int) + 1 := by rw [IntKind.wrap_i64]; omega
      have hw2 : (0 : Int) ≤ (i : Int) + 1 := by omega
      have hw3 : ((i : Int) + 1).toNat = i + 1 := by omega
      have hw4 : (i : Int) + 1 ≤ (N : Int) + 1 := by omega
      have e2 : ¬ ((i : Int) = (N : Int)) := by omega
      have e3 : ¬ (cap = i) := by omega
      have e4 : (i : Int) ≤ (N : Int) := by omega
      have e5 : ¬ (cap = i + 1) := by omega
      have e6 : (i : Int) ≤ (N : Int) + 1 := by omega
      have hov := fun lb cb => run_apart TVer Try.func107 (by kernel_rfl) (by kernel_rfl) (by kernel_rfl) 4 (by kernel_rfl) w x g X cur ((i + 1) * 4) 1 1 lb cb Hx.out Hr.out (by have := Hcl.out; intro h; rw [h] at this; simp at this; omega) hgx
      go_enter Try.func93, Try.ntmps93
      go_wp2_with (simp only [hov])
      clear hov
      go_region_law (refine step_cpN TVer rfl (.tmp 73) (.tmp 76) rfl g ((i + 1) * 4) (N + 1 - (i + 1)) (cap - (i + 1)) (N + 1 - i) (cap - i) (N - i) ⟨g, i * 4, none⟩ (by simp [Act.eval, Act.put]) (by simp [Act.eval, Act.put]) cur T 69 (Row.keep Hr.out ((Same.refl (fun _ => True) _).drew) trivial) (by simp only [Nat.min_def]; split <;> omega) HTl.out (fun j u hu => Htc.out j u hu) (by rw [HTl.out, Hcl.out, ← Nat.add_mul]; exact Nat.mul_le_mul_right _ (by omega)) HT1.out ?_; intro w4 k9 k10)
      have K9 := Lib.hid k9.out
      have K10 := Lib.hid k10.out
      clear k9 k10
      go_wp2_with (with_reducible refine stopCopy rfl ?_)
      unfold Hid
      refine wpList_cpN TVer w4 rfl (.tmp 80) (.tmp 81) rfl g (i * 4) (N + 1 - i) (cap - i) 1 1 1 ⟨x, 0, none⟩ (by first | rfl | simp) rfl _ X 69 K9.out (by simp only [Nat.min_def]; split <;> omega) (by have := Hxl.out; omega) (fun j u hu => (K10.out.cell (by rw [block_of_add]; exact hgx) (Hxc.out j u hu))) ?_ HX1.out ?_
      · rw [List.length_append, List.length_append, List.length_take, List.length_drop, Hxl.out, HTl.out, Hcl.out]
        omega
      rw [show (i + 1) * 4 = i * 4 + 4 from by omega, lay_three Hrow.out Hxl.out (by rw [Hcl.out]; omega)]
      intro w5 k11 k12
      have K11 := Lib.hid k11
      have K12 := Lib.hid k12
      clear k11 k12
      go_wp2
      go_ret
      refine ⟨_, rfl, OwnR.make hBg K11.out (by have := Hres.out; omega) hm ?_ (by rw [Hres.out]; exact Hcells.out _) Hres.out, ?_⟩
      · rw [List.length_append, List.length_append, List.length_append, List.length_drop, HHl.out, Hxl.out, HTl.out, Hcl.out]
        omega
      · refine (((Same.refl (fun q => q ≠ g) w).drew.trans K10.out).trans K12.out).mono fun q _ hq e => hq ?_
        rw [e]; rfl
  · obtain rfl : i = l.length := by omega
    rw [List.take_length, List.drop_length]
    obtain ⟨A, cp, rfl, hc1, hc2⟩ := hown.form
    have Hown := Lib.hid hown
    have Hx := Lib.hid hx
    unfold maxLen at hc2
    clear hown hx hne
    rcases Nat.eq_or_lt_of_le hc1 with rfl | hcc
    all_goals
      try have hcc' : ¬ cp = l.length := by omega
      go_enter Try.func93, Try.ntmps93
      go_wp2_with (at_builtin; refine stopAt ?_)
      unfold Hid
      have hsl := Hx.out.sl (size := 4) (off := 0) (n := 1) (by rw [verCs_len]; omega)
      rw [List.drop_zero, List.take_of_length_le (by rw [verCs_len]; omega)] at hsl
      refine wpList_app TVer _ rfl (.tmp 23) (.tmp 24) rfl B _ l.length (l.flatMap verCs) rfl Hown.out _ _ 1 1 (verCs c) rfl hsl h2 (by simp only [maxLen]; omega) (by omega) hB ?_
      intro v' w' k1 k2 k3
      have K1 := Lib.hid k1
      have K2 := Lib.hid k2
      clear k1 k2 k3 hsl
      go_wp2
      go_ret
      refine ⟨_, rfl, ?_, K2.out⟩
      unfold OwnR
      rw [List.length_append, List.flatMap_append]
      simpa using K1.out
end Go.Proofs.Ytoldelocfmpccaa
namespace Go.Proofs.Ytoldelocfmpccaa
open Go.RowKit
theorem OwnR.set4 {w : World} {B g cap : Nat} {l : List Ver} {cur : List Value} {j : Nat} (a : Ver) (hr : Row w g 69 cur) (hB : B ≤ g) (hc : l.length ≤ cap) (hm : cap ≤ maxLen) (hl : cur.length = cap * 4) (ht : cur.take (l.length * 4) = l.flatMap verCs) (hj : j < l.length) :
    OwnV ((((w.setCell ⟨g, j * 4, none⟩ (.int .i64 a.at_.wall)).setCell ⟨g, j * 4 + 1, none⟩ (.int .i64 a.at_.tie)).setCell ⟨g, j * 4 + 2, none⟩ (.bool a.drop)).setCell ⟨g, j * 4 + 3, none⟩ (.string (str a.data))) B (.slice (some ⟨g, 0, none⟩) l.length cap) (l.take j ++ a :: l.drop (j + 1)) := by
  have h1 := (((hr.set_ (j * 4) (.int .i64 a.at_.wall)).set_ (j * 4 + 1) (.int .i64 a.at_.tie)).set_ (j * 4 + 2) (.bool a.drop)).set_ (j * 4 + 3) (.string (str a.data))
  refine OwnR.make hB h1 (by simp; omega) hm (by simpa using hl) ?_ (by simp; omega)
  have e1 : (l.take j ++ a :: l.drop (j + 1)).length = l.length := by simp; omega
  rw [e1, List.flatMap_append, List.flatMap_cons, flat_take verCs 4 verCs_len, flat_drop verCs 4 verCs_len, ← ht]
  apply List.ext_getElem?
  intro k
  simp only [List.getElem?_take, List.getElem?_append, List.length_take, List.length_append, verCs_len, List.getElem?_drop, List.getElem?_set, List.length_set, hl]
  have hk4 : l.length * 4 ≤ cap * 4 := Nat.mul_le_mul_right _ hc
  have hm1 : min (j * 4) (min (l.length * 4) (cap * 4)) = j * 4 := by omega
  rw [hm1]
  by_cases a1 : k < j * 4
  · have b1 : k < l.length * 4 := by omega
    have b2 : ¬ j * 4 = k := by omega
    have b3 : ¬ j * 4 + 1 = k := by omega
    have b4 : ¬ j * 4 + 2 = k := by omega
    have b5 : ¬ j * 4 + 3 = k := by omega
    simp [a1, b1, b2, b3, b4, b5]
  · by_cases a2 : k < j * 4 + 4
    · have b1 : k < l.length * 4 := by omega
      have b0 : k - j * 4 < 4 := by omega
      have c0 : j * 4 < cap * 4 := by omega
      have c1 : j * 4 + 1 < cap * 4 := by omega
      have c2 : j * 4 + 2 < cap * 4 := by omega
      have c3 : j * 4 + 3 < cap * 4 := by omega
      rcases (show k = j * 4 ∨ k = j * 4 + 1 ∨ k = j * 4 + 2 ∨ k = j * 4 + 3 by omega) with rfl | rfl | rfl | rfl
      · simp [verCs, c0, b1]
      · simp [verCs, c1, b1, a1]
      · simp [verCs, c2, b1, a1]
      · simp [verCs, c3, b1, a1]
    · have b2 : ¬ j * 4 = k := by omega
      have b3 : ¬ j * 4 + 1 = k := by omega
      have b4 : ¬ j * 4 + 2 = k := by omega
      have b5 : ¬ j * 4 + 3 = k := by omega
      have b6 : ¬ k - j * 4 < 4 := by omega
      have b7 : (j + 1) * 4 + (k - j * 4 - 4) = k := by omega
      simp [a1, b2, b3, b4, b5, b6, b7]
set_option maxHeartbeats 4000000 in
theorem put_any (v : Value) (l : List Ver) (a : Ver) (B : Nat) (w : World) (hown : OwnV w B v l) (hB : B ≤ w.heap.size) (hs : SortV l) (hn : l.length ≤ 1000000) :
    Calls Try.prog 66 #[v, verV a] w (InsP verCs 4 69 B v (putF l a) w) := by
  obtain ⟨A, cp, rfl, hc, hm⟩ := hown.form
  unfold maxLen at hm
  have hr := Row.new w 69 (verCs a)
  have hS := (Same.refl (fun _ => True) w).alloc (.cells (verCs a).toArray 69)
  have hown1 := hown.keepAll hS
  have Hr := Lib.hid hr
  have Hown := Lib.hid hown
  have Hown1 := Lib.hid hown1
  clear hr hown hown1 hS
  go_enter Try.func66, Try.ntmps66
  go_wp2_with (go_at_call 72; refine stopAt ?_)
  unfold Hid
  refine (mvlast_any (.slice A l.length cp) l a.at_ _ _ (Hown1.out.wr.row verCs_len)).mono ?_
  rintro e w1 ⟨rfl, hS1⟩
  have hr1 := Hr.out.keep hS1 trivial
  have hown2 := Hown1.out.keepAll hS1
  have hS2 := ((Same.refl (fun _ => True) w).alloc (.cells (verCs a).toArray 69)).trans hS1
  have hbd := lastF_bd l a.at_
  have c0 : w1.cell? ⟨w.heap.size, 0, none⟩ = some (.int .i64 a.at_.wall) := hr1.cell 0
  have c1 : w1.cell? ⟨w.heap.size, 1, none⟩ = some (.int .i64 a.at_.tie) := hr1.cell 1
  have c2 : w1.cell? ⟨w.heap.size, 2, none⟩ = some (.bool a.drop) := hr1.cell 2
  have c3 : w1.cell? ⟨w.heap.size, 3, none⟩ = some (.string (str a.data)) := hr1.cell 3
  have hlt := hr1.lt
  have Hr1 := Lib.hid hr1
  have Hown2 := Lib.hid hown2
  have HS2 := Lib.hid hS2
  clear hr1 hown2 hS2 hS1
  rcases Int.lt_or_le (lastF l a.at_) 0 with hneg | hpos
  · have hlm : lastF l a.at_ = -1 := by omega
    have hput : putF l a = l.take 0 ++ a :: l.drop 0 := by
      have := put_last_miss (v := a) hs (fun _ h => absurd h (by omega))
      rw [hlm] at this
      exact this
    have Hput := Lib.hid hput
    rw [hlm]
    clear hput hs hlm hneg hbd
    go_wp2
    go_quiet (fail)
    go_wp2_with (go_at_call 93; refine stopAt ?_)
    unfold Hid
    have hSa := ((HS2.out).drewN nq).alloc (.cells (verCs a).toArray 69)
    have hSb := ((Same.refl (fun _ => True) w1).drewN nq).alloc (.cells (verCs a).toArray 69)
    have gi := insv_any (.slice A l.length cp) l a 0 w1.heap.size B ((w1.drewN nq).alloc (.cells (verCs a).toArray 69)) (Hown2.out.keepAll hSb) (Row.new (w1.drewN nq) 69 (verCs a)) (fun e => by have := (Hown2.out.lt_ e).2; omega) (by omega) hn (by have := hSa.size; omega) (fun y _ => verCs_one y) (verCs_one a)
    rw [show ((0 : Nat) : Int) = 0 from rfl] at gi
    have HSa := Lib.hid hSa
    clear hSa hSb
    refine gi.mono ?_
    rintro e w5 ⟨v5, rfl, hown5, hS5⟩
    have Hown5 := Lib.hid hown5
    have HS5 := Lib.hid hS5
    clear hown5 hS5 gi
    go_wp2
    go_ret
    refine ⟨_, rfl, ?_, (HSa.out.mono fun _ _ _ => trivial).trans HS5.out⟩
    rw [Hput.out]; exact Hown5.out
  · obtain ⟨j, hj⟩ := Int.eq_ofNat_of_zero_le hpos
    have hjl : j < l.length := by omega
    rcases Hown2.out.ways with ⟨_, h0⟩ | ⟨g, cap, cur, heq, hBg, hrow, hcc, hmm, hcl, hct⟩
    · rw [h0] at hjl; simp at hjl
    injection heq with heq _ heq2
    subst heq heq2
    obtain ⟨ad, e0, hSad, d0, d1, d2, d3⟩ := VerR.cells (Hown2.out.wr.row verCs_len) hjl
    injection e0 with e0
    subst e0
    rw [add_none, Nat.zero_add] at d0
    simp only [add_none, Nat.zero_add] at d1 d2 d3
    have f0 := hrow.frozen (j * 4)
    have f1 := hrow.frozen (j * 4 + 1)
    have f2 := hrow.frozen (j * 4 + 2)
    have f3 := hrow.frozen (j * 4 + 3)
    have hgw := hrow.lt
    have y1 : (0 : Int) ≤ (j : Int) := by omega
    have y2 : (j : Int) < (l.length : Int) := by omega
    have Hrow := Lib.hid hrow
    have Hcl := Lib.hid hcl
    have Hct := Lib.hid hct
    clear hrow hcl hct hSad
    by_cases hw : l[j].at_ = a.at_
    · have hput := put_hit (v := a) hjl hs hw
      have Hput := Lib.hid hput
      rw [hw] at d0 d1
      rw [hj]
      clear hput hs hw hj hpos hbd
      go_wp2
      go_quiet (fail)
      go_wp2
      go_ret
      have h4 := OwnR.set4 a (Row.keep Hrow.out ((Same.refl (fun _ => True) _).drewN nq) trivial) hBg hcc hmm Hcl.out Hct.out hjl
      refine ⟨_, rfl, ?_, ?_⟩
      · rw [Hput.out]
        exact h4
      · have hS5 := ((HS2.out).drewN nq).mono (S' := fun k => k ≠ g) fun _ _ _ => trivial
        exact ((((hS5.setCell (p := ⟨g, j * 4, none⟩) (fun _ h => h rfl) _).setCell (p := ⟨g, j * 4 + 1, none⟩) (fun _ h => h rfl) _).setCell (p := ⟨g, j * 4 + 2, none⟩) (fun _ h => h rfl) _).setCell (p := ⟨g, j * 4 + 3, none⟩) (fun _ h => h rfl) _).mono fun k _ hk e => hk (by rw [e]; rfl)
    · have hput : putF l a = l.take (j + 1) ++ a :: l.drop (j + 1) := by
        have := put_last_miss (v := a) hs (fun h1 _ => by
          have e : (lastF l a.at_).toNat = j := by omega
          simp only [e]
          exact hw)
        rw [hj] at this
        exact this
      have Hput := Lib.hid hput
      rw [hj]
      have hwb : ((l[j].at_.wall == a.at_.wall) && (l[j].at_.tie == a.at_.tie)) = false := by
        cases h : ((l[j].at_.wall == a.at_.wall) && (l[j].at_.tie == a.at_.tie))
        · rfl
        · simp at h
          exact absurd ((st_eq _ _).2 h) hw
      generalize l[j].at_ = b at *
      clear hput hs hw hj hpos hbd
      by_cases b1 : b.wall = a.at_.wall
      · have b2 : (b.tie == a.at_.tie) = false := by simpa [b1] using hwb
        rw [b1] at d0
        clear hwb b1
        go_wp2
        go_quiet (fail)
        go_wp2_with (go_at_call 93; refine stopAt ?_)
        unfold Hid
        have hSa := ((HS2.out).drewN nq).alloc (.cells (verCs a).toArray 69)
        have hSb := ((Same.refl (fun _ => True) w1).drewN nq).alloc (.cells (verCs a).toArray 69)
        have gi := insv_any (.slice (some ⟨g, 0, none⟩) l.length cp) l a (j + 1) w1.heap.size B ((w1.drewN nq).alloc (.cells (verCs a).toArray 69)) (Hown2.out.keepAll hSb) (Row.new (w1.drewN nq) 69 (verCs a)) (fun e => by have := (Hown2.out.lt_ e).2; omega) (by omega) hn (by have := hSa.size; omega) (fun y _ => verCs_one y) (verCs_one a)
        rw [show ((j + 1 : Nat) : Int) = (j : Int) + 1 from rfl] at gi
        have HSa := Lib.hid hSa
        clear hSa hSb
        refine gi.mono ?_
        rintro e w5 ⟨v5, rfl, hown5, hS5⟩
        have Hown5 := Lib.hid hown5
        have HS5 := Lib.hid hS5
        clear hown5 hS5 gi
        go_wp2
        go_ret
        refine ⟨_, rfl, ?_, (HSa.out.mono fun _ _ _ => trivial).trans HS5.out⟩
        rw [Hput.out]; exact Hown5.out
      · have b2 : (b.wall == a.at_.wall) = false := by simpa using b1
        clear hwb b1
        go_wp2
        go_quiet (fail)
        go_wp2_with (go_at_call 93; refine stopAt ?_)
        unfold Hid
        have hSa := ((HS2.out).drewN nq).alloc (.cells (verCs a).toArray 69)
        have hSb := ((Same.refl (fun _ => True) w1).drewN nq).alloc (.cells (verCs a).toArray 69)
        have gi := insv_any (.slice (some ⟨g, 0, none⟩) l.length cp) l a (j + 1) w1.heap.size B ((w1.drewN nq).alloc (.cells (verCs a).toArray 69)) (Hown2.out.keepAll hSb) (Row.new (w1.drewN nq) 69 (verCs a)) (fun e => by have := (Hown2.out.lt_ e).2; omega) (by omega) hn (by have := hSa.size; omega) (fun y _ => verCs_one y) (verCs_one a)
        rw [show ((j + 1 : Nat) : Int) = (j : Int) + 1 from rfl] at gi
        have HSa := Lib.hid hSa
        clear hSa hSb
        refine gi.mono ?_
        rintro e w5 ⟨v5, rfl, hown5, hS5⟩
        have Hown5 := Lib.hid hown5
        have HS5 := Lib.hid hS5
        clear hown5 hS5 gi
        go_wp2
        go_ret
        refine ⟨_, rfl, ?_, (HSa.out.mono fun _ _ _ => trivial).trans HS5.out⟩
        rw [Hput.out]; exact Hown5.out
end Go.Proofs.Ytoldelocfmpccaa
namespace Go.Proofs.Ytoldelocfmpccaa
open Go.RowKit
/-- Twelve stores. -/
def set12 (wr : World) (g : Nat) (b0 b1 b2 b3 b4 b5 b6 b7 b8 b9 b10 b11 : Value) : World := ((((((((((((wr.setCell ⟨g, 0, none⟩ b0).setCell ⟨g, 1, none⟩ b1).setCell ⟨g, 2, none⟩ b2).setCell ⟨g, 3, none⟩ b3).setCell ⟨g, 4, none⟩ b4).setCell ⟨g, 5, none⟩ b5).setCell ⟨g, 6, none⟩ b6).setCell ⟨g, 7, none⟩ b7).setCell ⟨g, 8, none⟩ b8).setCell ⟨g, 9, none⟩ b9).setCell ⟨g, 10, none⟩ b10).setCell ⟨g, 11, none⟩ b11)
theorem set12_eq (wr : World) (g : Nat) (b0 b1 b2 b3 b4 b5 b6 b7 b8 b9 b10 b11 : Value) : set12 wr g b0 b1 b2 b3 b4 b5 b6 b7 b8 b9 b10 b11 = ((((((((((((wr.setCell ⟨g, 0, none⟩ b0).setCell ⟨g, 1, none⟩ b1).setCell ⟨g, 2, none⟩ b2).setCell ⟨g, 3, none⟩ b3).setCell ⟨g, 4, none⟩ b4).setCell ⟨g, 5, none⟩ b5).setCell ⟨g, 6, none⟩ b6).setCell ⟨g, 7, none⟩ b7).setCell ⟨g, 8, none⟩ b8).setCell ⟨g, 9, none⟩ b9).setCell ⟨g, 10, none⟩ b10).setCell ⟨g, 11, none⟩ b11) := rfl
theorem set12_row {wr : World} {g : Nat} {a0 a1 a2 a3 a4 a5 a6 a7 a8 a9 a10 a11 b0 b1 b2 b3 b4 b5 b6 b7 b8 b9 b10 b11 : Value} (HR : Row wr g 64 [a0, a1, a2, a3, a4, a5, a6, a7, a8, a9, a10, a11]) :
    Row (set12 wr g b0 b1 b2 b3 b4 b5 b6 b7 b8 b9 b10 b11) g 64 [b0, b1, b2, b3, b4, b5, b6, b7, b8, b9, b10, b11] ∧ Same (fun q => q ≠ g) wr (set12 wr g b0 b1 b2 b3 b4 b5 b6 b7 b8 b9 b10 b11) :=
  cel_set12 (fun _ h => h rfl) HR (Same.refl _ _)
/-- A guard: the operation is the address of a field. -/
theorem stopFA {P : Program} {w : World} {ops : Array Oper} {rest : List Oper} {o : Oper} {a : Act} {Q : Exit → Act → World → Prop} {t : TypeId} {x : Operand} (n : Nat)
    (_ho : o.op = .fieldAddr t x n) (h : Hid (wpList P ops Q (o :: rest) a w)) : wpList P ops Q (o :: rest) a w := h
/-- A guard: the operation writes the slot n. -/
theorem stopDst {P : Program} {w : World} {ops : Array Oper} {rest : List Oper} {o : Oper} {a : Act} {Q : Exit → Act → World → Prop} (n : Nat)
    (_ho : o.dst = some n) (h : Hid (wpList P ops Q (o :: rest) a w)) : wpList P ops Q (o :: rest) a w := h
/-- Ten stores, from the third cell on. -/
def set10 (wr : World) (g : Nat) (b2 b3 b4 b5 b6 b7 b8 b9 b10 b11 : Value) : World := ((((((((((wr.setCell ⟨g, 2, none⟩ b2).setCell ⟨g, 3, none⟩ b3).setCell ⟨g, 4, none⟩ b4).setCell ⟨g, 5, none⟩ b5).setCell ⟨g, 6, none⟩ b6).setCell ⟨g, 7, none⟩ b7).setCell ⟨g, 8, none⟩ b8).setCell ⟨g, 9, none⟩ b9).setCell ⟨g, 10, none⟩ b10).setCell ⟨g, 11, none⟩ b11)
theorem set10_eq (wr : World) (g : Nat) (b2 b3 b4 b5 b6 b7 b8 b9 b10 b11 : Value) : set10 wr g b2 b3 b4 b5 b6 b7 b8 b9 b10 b11 = ((((((((((wr.setCell ⟨g, 2, none⟩ b2).setCell ⟨g, 3, none⟩ b3).setCell ⟨g, 4, none⟩ b4).setCell ⟨g, 5, none⟩ b5).setCell ⟨g, 6, none⟩ b6).setCell ⟨g, 7, none⟩ b7).setCell ⟨g, 8, none⟩ b8).setCell ⟨g, 9, none⟩ b9).setCell ⟨g, 10, none⟩ b10).setCell ⟨g, 11, none⟩ b11) := rfl
theorem set10_row {wr : World} {g : Nat} {a0 a1 a2 a3 a4 a5 a6 a7 a8 a9 a10 a11 b2 b3 b4 b5 b6 b7 b8 b9 b10 b11 : Value} (HR : Row wr g 64 [a0, a1, a2, a3, a4, a5, a6, a7, a8, a9, a10, a11]) :
    Row (set10 wr g b2 b3 b4 b5 b6 b7 b8 b9 b10 b11) g 64 [a0, a1, b2, b3, b4, b5, b6, b7, b8, b9, b10, b11] ∧ Same (fun q => q ≠ g) wr (set10 wr g b2 b3 b4 b5 b6 b7 b8 b9 b10 b11) := by
  refine ⟨((((((((((HR.set_ 2 b2).set_ 3 b3).set_ 4 b4).set_ 5 b5).set_ 6 b6).set_ 7 b7).set_ 8 b8).set_ 9 b9).set_ 10 b10).set_ 11 b11), ?_⟩
  rw [set10_eq]
  repeat (refine Same.setCell ?_ (fun _ h => h rfl) _)
  exact Same.refl _ _
/-- What a loop holds that makes of each cell one cell or none. -/
structure FlatRel (f : Cel → List Cel) (cs : List Cel) (B p : Nat) (ty : TypeId) (xs : List Value) (k : Nat) (l : Value) (w wr : World) : Prop where
  le : k ≤ cs.length
  own : OwnC wr B l ((cs.take k).flatMap f)
  row : Row wr p ty xs
  lt : p < B
  size : B ≤ wr.heap.size
  same : Same (fun _ => True) w wr
section
variable {f : Cel → List Cel} {cs : List Cel} {B p : Nat} {ty : TypeId} {xs : List Value} {k : Nat} {l : Value} {w wr W : World}
theorem flat_step {k : Nat} (h : k < cs.length) : (cs.take (k + 1)).flatMap f = (cs.take k).flatMap f ++ f cs[k] := by
  rw [List.take_succ_eq_append_getElem h, List.flatMap_append]
  simp
theorem FlatRel.next (h : FlatRel f cs B p ty xs k l w wr) (hk : k < cs.length) (hf : f cs[k] = []) (hS : Same (fun _ => True) wr W) : FlatRel f cs B p ty xs (k + 1) l w W :=
  ⟨hk, by rw [flat_step hk, hf, List.append_nil]; exact h.own.keepAll hS, h.row.keep hS trivial, h.lt, Nat.le_trans h.size hS.size, h.same.trans hS⟩
theorem FlatRel.more {l' : Value} {c : Cel} (h : FlatRel f cs B p ty xs k l w wr) (hk : k < cs.length) (hf : f cs[k] = [c]) (ho : OwnC W B l' ((cs.take k).flatMap f ++ [c])) (hw : w.heap.size ≤ B) (hS : Same (fun q => q < B) wr W) : FlatRel f cs B p ty xs (k + 1) l' w W :=
  ⟨hk, by rw [flat_step hk, hf]; exact ho, h.row.keep hS h.lt, h.lt, Nat.le_trans h.size hS.size, h.same.trans' hS fun q hq _ => Nat.lt_of_lt_of_le hq hw⟩
/-- One cell behind cells that the call owns. -/
theorem wpList_appK {w7 w0 : World} {ops : Array Oper} {rest : List Oper} {o : Oper} {a : Act} {Q : Exit → Act → World → Prop} (hgd : o.guard = none) (s x : Operand)
    (ho : o.op = .call { callee := .builtin .append, args := #[s, x], argTypes := #[33, 33] }) {v : Value} {c : Cel} {A : Option Addr} {n cp : Nat} {arr : Array Value}
    (hs : a.eval s = v) {g : Nat} (hx : a.eval x = .slice (some ⟨g, 0, none⟩) 1 1) (hg : g = W.heap.size) (harr : arr = (celCs (.slice A n cp, c)).toArray) (h : FlatRel f cs B p ty xs k v w0 wr) (hf1 : ∀ c, (f c).length ≤ 1) (hk : k < cs.length) (hf : f cs[k] = [c]) (hn : cs.length ≤ 100000) (hw : w0.heap.size ≤ B)
    {Sx : Nat → Prop} (hu : RowW verCs 4 69 w7 Sx (.slice A n cp) c.vers) (hSx : ∀ q, Sx q → B ≤ q) (hS7 : Same Sx w7 W) (hS : Same (fun _ => True) wr W)
    (hK : ∀ v' w', Hid (FlatRel f cs B p ty xs (k + 1) v' w0 w') → wpList Try.prog ops Q rest (a.put o.dst v') w') : wpList Try.prog ops Q (o :: rest) a (W.alloc (.cells arr 64)) := by
  subst harr
  have hle := flat_len_le hf1 (cs.take k)
  rw [List.length_take] at hle
  refine wpList_appC (w := W) (c := c) (B := B) hgd s x ho hs hx hg (h.own.keepAll hS) ((hu.keep hS7).mono fun q _ h => hSx q h) (Nat.le_trans h.size hS.size) (by omega) fun v' w' h1 h2 => hK v' w' (Lib.hid (h.more hk hf h1 hw ((hS.mono fun _ _ _ => trivial).trans h2)))
end
end Go.Proofs.Ytoldelocfmpccaa
namespace Go.Proofs.Ytoldelocfmpccaa
open Go.RowKit
set_option maxHeartbeats 4000000 in
theorem mvsettle_any (v : Value) (cs : List Cel) (b : TryT) (yes : Bool) (S : Nat → Prop) (w : World) (hv : CelR w S v cs) (hn : cs.length ≤ 100000) (hn2 : ∀ c ∈ cs, c.vers.length ≤ 1000000) (hso : ∀ c ∈ cs, SortV c.vers) :
    Calls Try.prog 25 #[v, tryV b, .bool yes] w (AllP (setlF cs b yes) w) := by
  obtain ⟨A, cp, rfl, hc, hm⟩ := hv.form
  have Hv := Lib.hid hv
  have Hn2 := Lib.hid hn2
  have Hso := Lib.hid hso
  have hrel0 : FlatRel (setlC b yes) cs (w.heap.size + 1) w.heap.size 26 (tryCs b) 0 (.slice none 0 0) w (w.alloc (.cells (tryCs b).toArray 26)) :=
    ⟨Nat.zero_le _, OwnC.nil _ _, Row.new _ _ _, by omega, by simp, (Same.refl _ _).alloc _⟩
  have Hrel0 := Lib.hid hrel0
  unfold maxLen at hm
  clear hv hn2 hrel0 hso
  go_enter Try.func25, Try.ntmps25
  go_wp2
  go_loopw [7, 9, 12] (fun l _ i wr => ∃ k : Nat, i = .int .i64 k ∧ FlatRel (setlC b yes) cs (w.heap.size + 1) w.heap.size 26 (tryCs b) k l w wr) (fun _ _ i _ => cs.length - (intOf i).toNat)
  case atStart => exact ⟨0, rfl, Hrel0.out⟩
  case round =>
    obtain ⟨k, rfl, hrel⟩ := hrel
    have hk := hrel.le
    have hS := hrel.same
    have HS := Lib.hid hS
    have hsz := hrel.row.lt
    obtain ⟨Al, nl, cl, rfl, hl1, hl2⟩ := hrel.own.form3
    have Hrel := Lib.hid hrel
    unfold maxLen at hl2
    by_cases hlt : k < cs.length
    · obtain ⟨ad, u, rfl, -, hvr, c0, c1, c2, c3, c4, c5, c6, c7, c8, c9, c10, c11⟩ := CelR.cells12 (Hv.out.keepAll hS) hlt
      obtain ⟨Au, cu, rfl, -, -⟩ := hvr.form
      have x1 : (0 : Int) ≤ (k : Int) := by omega
      have x2 : (k : Int) < (cs.length : Int) := by omega
      have hab := World.block_lt_of_cell? wr _ c0
      have hcl := Hn2.out cs[k] (List.getElem_mem hlt)
      have hcs := Hso.out cs[k] (List.getElem_mem hlt)
      obtain ⟨c, hck⟩ : ∃ c, c = cs[k] := ⟨_, rfl⟩
      rw [← hck] at c0 c1 c2 c3 c4 c5 c6 c7 c8 c9 c10 c11 hvr hcl hcs
      have Hck := Lib.hid hck
      have Hcs := Lib.hid hcs
      have Hvr := Lib.hid hvr
      clear hvr hS hck hrel hcs
      have hrow := Row.new wr 64 (celCs (.slice Au c.vers.length cu, c))
      have Hrow := Lib.hid hrow
      have g := own_any (.slice Au c.vers.length cu) c S (wr.alloc (.cells (celCs (.slice Au c.vers.length cu, c)).toArray 64)) (RowR.keepAll Hvr.out ((Same.refl _ _).alloc _)) hcl
      clear hrow
      go_wp2_with (go_at_call 65; refine stopAt ?_)
      unfold Hid
      refine g.mono ?_
      rintro e w5 ⟨u', rfl, hown5, hS5⟩
      obtain ⟨A5, c5', rfl, hq1, hq2⟩ := hown5.form
      unfold maxLen at hq2
      have hbox := Hrow.out.keep hS5 trivial
      have hS6 := ((Same.refl (fun _ => True) wr).alloc (.cells (celCs (.slice Au c.vers.length cu, c)).toArray 64)).trans hS5
      have HS6 := Lib.hid hS6
      have Hown5 := Lib.hid hown5
      have Hbox := Lib.hid hbox
      obtain ⟨a0, a1, a2, a3, a4, a5, a6, a7, a8, a9, a10, a11, f0, f1, f2, f3, f4, f5, f6, f7, f8, f9, f10, f11⟩ := cel_cells hbox
      have z0 := hbox.lt
      clear hS5 hS6 hown5 hbox g c0 c1 c2 c3 c4 c5 c6 c7 c8 c9 c10 c11
      go_wp2_with (with_reducible refine stopFA 2 rfl ?_)
      unfold Hid
      clear a0 a1 a2 a3 a4 a5 a6 a7 a8 a9 a10 a11 f0 f1 f2 f3 f4 f5 f6 f7 f8 f9 f10 f11
      rw [← set12_eq]
      obtain ⟨r1, r2⟩ := set12_row (b0 := .string (str c.key)) (b1 := .slice A5 c.vers.length c5') (b2 := .bool c.locked) (b3 := .int .i64 c.lock.by_.node) (b4 := .int .i64 c.lock.by_.life) (b5 := .int .i64 c.lock.by_.seq) (b6 := .int .i64 c.lock.by_.attempt) (b7 := .int .i64 c.lock.home) (b8 := .int .i64 c.lock.at_.wall) (b9 := .int .i64 c.lock.at_.tie) (b10 := .bool c.lock.drop) (b11 := .string (str c.lock.data)) Hbox.out
      revert r1 r2
      generalize set12 w5 wr.heap.size _ _ _ _ _ _ _ _ _ _ _ _ = W7
      intro r1 r2
      have hown7 := (Hown5.out.keep r2 fun j h1 h2 => by rw [World.size_alloc] at h1; omega).lower (B' := wr.heap.size + 1) (by rw [World.size_alloc]; omega)
      have hS7 : Same (fun _ => True) wr W7 := HS6.out.trans' r2 fun j hj _ => by omega
      have z7 := r1.lt
      obtain ⟨a0, a1, a2, a3, a4, a5, a6, a7, a8, a9, a10, a11, f0, f1, f2, f3, f4, f5, f6, f7, f8, f9, f10, f11⟩ := cel_cells r1
      have hrowb := Hrel.out.row.keep hS7 trivial
      have t0 : W7.cell? ⟨w.heap.size, 0, none⟩ = some (.int .i64 b.node) := hrowb.cell 0
      have t1 : W7.cell? ⟨w.heap.size, 1, none⟩ = some (.int .i64 b.life) := hrowb.cell 1
      have t2 : W7.cell? ⟨w.heap.size, 2, none⟩ = some (.int .i64 b.seq) := hrowb.cell 2
      have t3 : W7.cell? ⟨w.heap.size, 3, none⟩ = some (.int .i64 b.attempt) := hrowb.cell 3
      have HS7 := Lib.hid hS7
      have Hown7 := Lib.hid hown7
      have Hbox7 := Lib.hid r1
      clear r1 r2 hown7 hS7 hrowb
      cases hl : c.locked
      · rw [hl] at a2
        have hmb : mineB c b = false := by unfold mineB; rw [hl]; rfl
        by_cases hlen : c.vers.length = 0
        · have hf : setlC b yes cs[k] = [] := by rw [← Hck.out]; unfold setlC; rw [hmb]; simp [keptB, hl, List.length_eq_zero_iff.1 hlen]
          have Hf := Lib.hid hf
          have e1 : (c.vers.length : Int) = 0 := by omega
          clear hf hmb hlen hl
          go_wp2
          go_roundw
          case rel =>
            refine ⟨k + 1, by go_num, Hrel.out.next hlt Hf.out (HS7.out.trans' (S' := fun q => q ≠ wr.heap.size) ?_ fun q hq _ => by omega)⟩
            repeat (refine Same.setCell ?_ (fun _ h => h rfl) _)
            exact Same.refl _ _
          case measure => simp [intOf]; omega
        · have hf : setlC b yes cs[k] = [c] := by
            rw [← Hck.out]; unfold setlC; rw [hmb]
            have hne : c.vers ≠ [] := fun h => hlen (by rw [h]; rfl)
            simp [keptB, hne]
          have Hf := Lib.hid hf
          have e1 : (0 : Int) < (c.vers.length : Int) := by omega
          clear hf hmb hlen
          go_wp2_with (at_builtin; refine stopAt ?_)
          unfold Hid
          refine wpList_appK (c := c) (B := w.heap.size + 1) rfl (.tmp 53) (.tmp 55) rfl rfl rfl (by first | rfl | simp) (by simp [celCs, lckCs, Lck.zero, str, hl]) Hrel.out (setlC_len b _) hlt Hf.out hn (by omega) Hown7.out.wr (fun q h => by omega) ?_ ?_ ?_
          · repeat (refine Same.setCell ?_ (fun _ h => by omega) _)
            exact Same.refl _ _
          · refine HS7.out.trans' (S' := fun q => q ≠ wr.heap.size) ?_ fun q hq _ => by omega
            repeat (refine Same.setCell ?_ (fun _ h => h rfl) _)
            exact Same.refl _ _
          intro v' w9 Hrel9
          go_wp2
          go_roundw
          case rel => exact ⟨k + 1, by go_num, Hrel9.out⟩
          case measure => simp [intOf]; omega
      · rw [hl] at a2
        rcases try_cases c.lock.by_ b with he | ⟨he, h | ⟨h1, h⟩ | ⟨h1, h2, h⟩ | ⟨h1, h2, h3, h⟩⟩
        · rw [← he] at t0 t1 t2 t3
          have hmb : mineB c b = true := by unfold mineB; rw [hl, he]; simp
          cases yes
          · have hv7 := Hown7.out.wr
            have Hv7 := Lib.hid hv7
            clear hv7
            go_wp2_with (with_reducible refine stopDst 45 rfl ?_)
            unfold Hid
            clear a0 a1 a2 a3 a4 a5 a6 a7 a8 a9 a10 a11 f0 f1 f2 f3 f4 f5 f6 f7 f8 f9 f10 f11 t0 t1 t2 t3
            rw [← set10_eq]
            obtain ⟨r1, r2⟩ := set10_row (b2 := .bool false) (b3 := .int .i64 0) (b4 := .int .i64 0) (b5 := .int .i64 0) (b6 := .int .i64 0) (b7 := .int .i64 0) (b8 := .int .i64 0) (b9 := .int .i64 0) (b10 := .bool false) (b11 := .string ⟨#[]⟩) Hbox7.out
            revert r1 r2
            generalize set10 W7 wr.heap.size _ _ _ _ _ _ _ _ _ _ = W9
            intro r1 r2
            have hv9 := Hv7.out.keep (r2.mono fun q _ hq => by omega)
            have hS9 : Same (fun _ => True) wr W9 := HS7.out.trans' r2 fun j hj _ => by omega
            obtain ⟨a0, a1, a2, a3, a4, a5, a6, a7, a8, a9, a10, a11, -⟩ := cel_cells r1
            have HS7 := Lib.hid hS9
            have Hv7 := Lib.hid hv9
            clear r1 r2 hS9 hv9
            by_cases hlen : c.vers.length = 0
            · have hf : setlC b false cs[k] = [] := by rw [← Hck.out]; unfold setlC; rw [hmb]; simp [keptB, freeC, List.length_eq_zero_iff.1 hlen]
              have Hf := Lib.hid hf
              have e1 : (c.vers.length : Int) = 0 := by omega
              clear hf hmb hlen hl he
              go_wp2
              go_roundw
              case rel =>
                refine ⟨k + 1, by go_num, Hrel.out.next hlt Hf.out (HS7.out.trans' (S' := fun q => q ≠ wr.heap.size) ?_ fun q hq _ => by omega)⟩
                repeat (refine Same.setCell ?_ (fun _ h => h rfl) _)
                exact Same.refl _ _
              case measure => simp [intOf]; omega
            · have hf : setlC b false cs[k] = [freeC false c] := by
                rw [← Hck.out]; unfold setlC; rw [hmb]
                have hne : c.vers ≠ [] := fun h => hlen (by rw [h]; rfl)
                simp [keptB, freeC, hne]
              have Hf := Lib.hid hf
              have e1 : (0 : Int) < (c.vers.length : Int) := by omega
              clear hf hmb hlen he
              go_wp2_with (at_builtin; refine stopAt ?_)
              unfold Hid
              refine wpList_appK (c := freeC false c) (B := w.heap.size + 1) rfl (.tmp 53) (.tmp 55) rfl rfl rfl (by first | rfl | simp) (by simp [celCs, lckCs, Lck.zero, str, hl, freeC]) Hrel.out (setlC_len b _) hlt Hf.out hn (by omega) Hv7.out (fun q h => by omega) ?_ ?_ ?_
              · repeat (refine Same.setCell ?_ (fun _ h => by omega) _)
                exact Same.refl _ _
              · refine HS7.out.trans' (S' := fun q => q ≠ wr.heap.size) ?_ fun q hq _ => by omega
                repeat (refine Same.setCell ?_ (fun _ h => h rfl) _)
                exact Same.refl _ _
              intro v' w9 Hrel9
              go_wp2
              go_roundw
              case rel => exact ⟨k + 1, by go_num, Hrel9.out⟩
              case measure => simp [intOf]; omega
          · have hpl := put_len c.vers (lockV c)
            have hf : setlC b true cs[k] = [freeC true c] := by
              rw [← Hck.out]; unfold setlC; rw [hmb]
              have hne : putF c.vers (lockV c) ≠ [] := fun h => by rw [h] at hpl; simp at hpl
              simp [keptB, freeC, hne]
            have Hf := Lib.hid hf
            have e1 : (0 : Int) < ((putF c.vers (lockV c)).length : Int) := by omega
            have gp := put_any (.slice A5 c.vers.length c5') c.vers (lockV c) (wr.heap.size + 1) W7 Hown7.out (by omega) Hcs.out hcl
            unfold lockV at gp
            clear hf hmb he hpl
            go_wp2_with (go_at_call 66; refine stopAt ?_)
            unfold Hid
            refine gp.mono ?_
            rintro e w8 ⟨v8, rfl, hown8, hS8⟩
            obtain ⟨A8, n8, c8, rfl, hn8⟩ : ∃ Aq nq cq, v8 = .slice Aq nq cq ∧ nq = (putF c.vers (lockV c)).length := by
              obtain ⟨Aq, cq, h1, h2, h3⟩ := hown8.form
              exact ⟨Aq, _, cq, h1, rfl⟩
            have hS9 : Same (fun q => q < wr.heap.size + 1) W7 w8 := hS8.mono fun q _ hq e => by
              have := (Hown7.out.lt_ e.symm).1
              omega
            have hbox8 := Hbox7.out.keep hS9 (by omega)
            have hS10 : Same (fun _ => True) wr w8 := HS7.out.trans' hS9 fun q hq _ => by omega
            have z8 := hbox8.lt
            have g1 := hbox8.frozen 1
            have b1 : w8.cell? ⟨wr.heap.size, 1, none⟩ = some (.slice A5 c.vers.length c5') := hbox8.cell 1
            have Hown8 := Lib.hid hown8.wr
            have Hbox8 := Lib.hid hbox8
            have HS8 := Lib.hid hS10
            rw [← hn8] at e1
            have Hn8 := Lib.hid hn8
            clear hn8 hown8 hS8 hS9 hbox8 hS10 gp a0 a1 a2 a3 a4 a5 a6 a7 a8 a9 a10 a11 f0 f1 f2 f3 f4 f5 f6 f7 f8 f9 f10 f11
            go_wp2_with (with_reducible refine stopDst 43 rfl ?_)
            unfold Hid
            have r1 := Hbox8.out.set_ 1 (.slice A8 n8 c8)
            have r2 : Same (fun q => q ≠ wr.heap.size) w8 (w8.setCell ⟨wr.heap.size, 1, none⟩ (.slice A8 n8 c8)) := (Same.refl _ _).setCell (fun _ h => h rfl) _
            revert r1 r2
            generalize w8.setCell ⟨wr.heap.size, 1, none⟩ (.slice A8 n8 c8) = W8
            intro r1 r2
            simp only [List.set_cons_succ, List.set_cons_zero] at r1
            have hv8 := Hown8.out.keep (r2.mono fun q _ hq => by omega)
            have hS9 : Same (fun _ => True) wr W8 := HS8.out.trans' r2 fun j hj _ => by omega
            obtain ⟨W7, rfl⟩ : ∃ W7, W7 = W8 := ⟨_, rfl⟩
            obtain ⟨a0, a1, a2, a3, a4, a5, a6, a7, a8, a9, a10, a11, f0, f1, f2, f3, f4, f5, f6, f7, f8, f9, f10, f11⟩ := cel_cells r1
            have z7 := r1.lt
            have HS7 := Lib.hid hS9
            have Hv7 := Lib.hid hv8
            have Hbox7 := Lib.hid r1
            clear r1 r2 hS9 hv8 b1 g1
            go_wp2_with (with_reducible refine stopDst 45 rfl ?_)
            unfold Hid
            clear a0 a1 a2 a3 a4 a5 a6 a7 a8 a9 a10 a11 f0 f1 f2 f3 f4 f5 f6 f7 f8 f9 f10 f11
            rw [← set10_eq]
            obtain ⟨r1, r2⟩ := set10_row (b2 := .bool false) (b3 := .int .i64 0) (b4 := .int .i64 0) (b5 := .int .i64 0) (b6 := .int .i64 0) (b7 := .int .i64 0) (b8 := .int .i64 0) (b9 := .int .i64 0) (b10 := .bool false) (b11 := .string ⟨#[]⟩) Hbox7.out
            revert r1 r2
            generalize set10 W7 wr.heap.size _ _ _ _ _ _ _ _ _ _ = W9
            intro r1 r2
            have hv9 := Hv7.out.keep (r2.mono fun q _ hq => by omega)
            have hS9 : Same (fun _ => True) wr W9 := HS7.out.trans' r2 fun j hj _ => by omega
            obtain ⟨a0, a1, a2, a3, a4, a5, a6, a7, a8, a9, a10, a11, -⟩ := cel_cells r1
            have HS7 := Lib.hid hS9
            have Hv7 := Lib.hid hv9
            clear r1 r2 hS9 hv9
            go_wp2_with (at_builtin; refine stopAt ?_)
            unfold Hid
            refine wpList_appK (c := freeC true c) (B := w.heap.size + 1) rfl (.tmp 53) (.tmp 55) rfl rfl rfl (by first | rfl | simp) (by simp [celCs, lckCs, Lck.zero, str, hl, freeC, Hn8.out, lockV]) Hrel.out (setlC_len b _) hlt Hf.out hn (by omega) Hv7.out (fun q h => by omega) ?_ ?_ ?_
            · repeat (refine Same.setCell ?_ (fun _ h => by omega) _)
              exact Same.refl _ _
            · refine HS7.out.trans' (S' := fun q => q ≠ wr.heap.size) ?_ fun q hq _ => by omega
              repeat (refine Same.setCell ?_ (fun _ h => h rfl) _)
              exact Same.refl _ _
            intro v' w9 Hrel9
            go_wp2
            go_roundw
            case rel => exact ⟨k + 1, by go_num, Hrel9.out⟩
            case measure => simp [intOf]; omega
        · have hf : setlC b yes cs[k] = [c] := by rw [← Hck.out]; unfold setlC mineB; rw [he]; simp [keptB, hl]
          have Hf := Lib.hid hf
          have hb : (c.lock.by_.node == b.node) = false := by simpa using h
          clear hf he h
          go_wp2_with (at_builtin; refine stopAt ?_)
          unfold Hid
          refine wpList_appK (c := c) (B := w.heap.size + 1) rfl (.tmp 53) (.tmp 55) rfl rfl rfl (by first | rfl | simp) (by simp [celCs, lckCs, Lck.zero, str, hl]) Hrel.out (setlC_len b _) hlt Hf.out hn (by omega) Hown7.out.wr (fun q h => by omega) ?_ ?_ ?_
          · repeat (refine Same.setCell ?_ (fun _ h => by omega) _)
            exact Same.refl _ _
          · refine HS7.out.trans' (S' := fun q => q ≠ wr.heap.size) ?_ fun q hq _ => by omega
            repeat (refine Same.setCell ?_ (fun _ h => h rfl) _)
            exact Same.refl _ _
          intro v' w9 Hrel9
          go_wp2
          go_roundw
          case rel => exact ⟨k + 1, by go_num, Hrel9.out⟩
          case measure => simp [intOf]; omega
        · have hf : setlC b yes cs[k] = [c] := by rw [← Hck.out]; unfold setlC mineB; rw [he]; simp [keptB, hl]
          have Hf := Lib.hid hf
          have hb : (c.lock.by_.life == b.life) = false := by simpa using h
          clear hf he h
          rw [h1] at a3
          go_wp2_with (at_builtin; refine stopAt ?_)
          unfold Hid
          refine wpList_appK (c := c) (B := w.heap.size + 1) rfl (.tmp 53) (.tmp 55) rfl rfl rfl (by first | rfl | simp) (by simp [celCs, lckCs, Lck.zero, str, hl, h1]) Hrel.out (setlC_len b _) hlt Hf.out hn (by omega) Hown7.out.wr (fun q h => by omega) ?_ ?_ ?_
          · repeat (refine Same.setCell ?_ (fun _ h => by omega) _)
            exact Same.refl _ _
          · refine HS7.out.trans' (S' := fun q => q ≠ wr.heap.size) ?_ fun q hq _ => by omega
            repeat (refine Same.setCell ?_ (fun _ h => h rfl) _)
            exact Same.refl _ _
          intro v' w9 Hrel9
          go_wp2
          go_roundw
          case rel => exact ⟨k + 1, by go_num, Hrel9.out⟩
          case measure => simp [intOf]; omega
        · have hf : setlC b yes cs[k] = [c] := by rw [← Hck.out]; unfold setlC mineB; rw [he]; simp [keptB, hl]
          have Hf := Lib.hid hf
          have hb : (c.lock.by_.seq == b.seq) = false := by simpa using h
          clear hf he h
          rw [h1] at a3
          rw [h2] at a4
          go_wp2_with (at_builtin; refine stopAt ?_)
          unfold Hid
          refine wpList_appK (c := c) (B := w.heap.size + 1) rfl (.tmp 53) (.tmp 55) rfl rfl rfl (by first | rfl | simp) (by simp [celCs, lckCs, Lck.zero, str, hl, h1, h2]) Hrel.out (setlC_len b _) hlt Hf.out hn (by omega) Hown7.out.wr (fun q h => by omega) ?_ ?_ ?_
          · repeat (refine Same.setCell ?_ (fun _ h => by omega) _)
            exact Same.refl _ _
          · refine HS7.out.trans' (S' := fun q => q ≠ wr.heap.size) ?_ fun q hq _ => by omega
            repeat (refine Same.setCell ?_ (fun _ h => h rfl) _)
            exact Same.refl _ _
          intro v' w9 Hrel9
          go_wp2
          go_roundw
          case rel => exact ⟨k + 1, by go_num, Hrel9.out⟩
          case measure => simp [intOf]; omega
        · have hf : setlC b yes cs[k] = [c] := by rw [← Hck.out]; unfold setlC mineB; rw [he]; simp [keptB, hl]
          have Hf := Lib.hid hf
          have hb : (c.lock.by_.attempt == b.attempt) = false := by simpa using h
          clear hf he h
          rw [h1] at a3
          rw [h2] at a4
          rw [h3] at a5
          go_wp2_with (at_builtin; refine stopAt ?_)
          unfold Hid
          refine wpList_appK (c := c) (B := w.heap.size + 1) rfl (.tmp 53) (.tmp 55) rfl rfl rfl (by first | rfl | simp) (by simp [celCs, lckCs, Lck.zero, str, hl, h1, h2, h3]) Hrel.out (setlC_len b _) hlt Hf.out hn (by omega) Hown7.out.wr (fun q h => by omega) ?_ ?_ ?_
          · repeat (refine Same.setCell ?_ (fun _ h => by omega) _)
            exact Same.refl _ _
          · refine HS7.out.trans' (S' := fun q => q ≠ wr.heap.size) ?_ fun q hq _ => by omega
            repeat (refine Same.setCell ?_ (fun _ h => h rfl) _)
            exact Same.refl _ _
          intro v' w9 Hrel9
          go_wp2
          go_roundw
          case rel => exact ⟨k + 1, by go_num, Hrel9.out⟩
          case measure => simp [intOf]; omega
    · obtain rfl : k = cs.length := by omega
      have hown := hrel.own
      rw [List.take_length] at hown
      have Hown := Lib.hid hown
      clear hS hown hrel
      go_wp2
      go_ret
      exact ⟨_, rfl, Hown.out.lower (by omega), HS.out⟩
end Go.Proofs.Ytoldelocfmpccaa
namespace Go.Proofs.Ytoldelocfmpccaa
open Go.RowKit
theorem OwnR.form3 {α : Type} {f : α → List Value} {n : Nat} {e : TypeId} {w : World} {B : Nat} {v : Value} {l : List α} (h : OwnR f n e w B v l) : ∃ A n c, v = .slice A n c ∧ n ≤ c ∧ c ≤ maxLen := by
  obtain ⟨A, c, h1, h2, h3⟩ := h.form
  exact ⟨A, _, c, h1, h2, h3⟩
/-- What the loop holds. -/
structure WithRel (a : Ver) (l : List Ver) (k : Nat) (bb : Bool) (v : Value) (w wr : World) : Prop where
  le : k ≤ l.length
  own : ∃ O, OwnV wr (w.heap.size + 1) v O ∧ O ++ withR a bb (l.drop k) = withR a false l ∧ O.length ≤ k + bb.toNat
  row : Row wr w.heap.size 69 (verCs a)
  size : w.heap.size + 1 ≤ wr.heap.size
  same : Same (fun _ => True) w wr
end Go.Proofs.Ytoldelocfmpccaa
namespace Go.Proofs.Ytoldelocfmpccaa
open Go.RowKit
/-- Cells that the call owns: the row in blocks from B on, the versions in blocks from Bv on. -/
def OwnD (w : World) (B Bv : Nat) (v : Value) (cs : List Cel) : Prop :=
  ∃ us : List Value, us.length = cs.length ∧ OwnR celCs 12 64 w B v (us.zip cs) ∧ ∀ i (h : i < cs.length) (h' : i < us.length), RowW verCs 4 69 w (fun k => Bv ≤ k) us[i] cs[i].vers
section
variable {w w' : World} {B Bv : Nat} {v : Value} {cs : List Cel}
theorem OwnD.nil (w : World) (B Bv : Nat) : OwnD w B Bv (.slice none 0 0) [] := ⟨[], rfl, OwnR.nil _ _, fun i h => absurd h (Nat.not_lt_zero _)⟩
theorem OwnD.keepAll (h : OwnD w B Bv v cs) (hs : Same (fun _ => True) w w') : OwnD w' B Bv v cs := by
  obtain ⟨us, h1, h2, h3⟩ := h
  exact ⟨us, h1, h2.keepAll hs, fun i a b => (h3 i a b).keepAll hs⟩
theorem OwnD.form3 (h : OwnD w B Bv v cs) : ∃ A n c, v = .slice A n c ∧ n ≤ c ∧ c ≤ maxLen := by
  obtain ⟨us, h1, h2, _⟩ := h
  obtain ⟨A, c, e1, e2, e3⟩ := h2.form
  exact ⟨A, _, c, e1, e2, e3⟩
theorem OwnD.own {b : Nat} (h : OwnD w B Bv v cs) (h1 : b ≤ B) (h2 : b ≤ Bv) : OwnC w b v cs := by
  obtain ⟨us, e1, e2, e3⟩ := h
  exact ⟨us, e1, e2.lower h1, fun i a c => (e3 i a c).mono fun k _ hk => Nat.le_trans h2 hk⟩
end
/-- What a loop holds that makes of each cell one cell or none: w is the world behind the copy. -/
structure FlatD (f : Cel → List Cel) (cs : List Cel) (B Bv p : Nat) (ty : TypeId) (xs : List Value) (k : Nat) (l : Value) (w wr : World) : Prop where
  le : k ≤ cs.length
  own : OwnD wr B Bv l ((cs.take k).flatMap f)
  row : Row wr p ty xs
  lt : p < B
  size : B ≤ wr.heap.size
  same : Same (fun _ => True) w wr
section
variable {f : Cel → List Cel} {cs : List Cel} {B Bv p : Nat} {ty : TypeId} {xs : List Value} {k : Nat} {l : Value} {w wr W : World}
end
/-- The cells of one cell that the call owns, and its versions. -/
theorem OwnC.cells12 {w : World} {B : Nat} {A : Option Addr} {n c : Nat} {cs : List Cel} (h : OwnC w B (.slice A n c) cs) {i : Nat} (hi : i < cs.length) : ∃ ad u, A = some ad ∧ B ≤ ad.block ∧ RowW verCs 4 69 w (fun k => B ≤ k) u cs[i].vers ∧
    w.cell? (ad.add (i * 12)) = some (.string (str cs[i].key)) ∧ w.cell? ⟨(ad.add (i * 12)).block, (ad.add (i * 12)).off + 1, none⟩ = some (u) ∧ w.cell? ⟨(ad.add (i * 12)).block, (ad.add (i * 12)).off + 2, none⟩ = some (.bool cs[i].locked) ∧ w.cell? ⟨(ad.add (i * 12)).block, (ad.add (i * 12)).off + 3, none⟩ = some (.int .i64 cs[i].lock.by_.node) ∧ w.cell? ⟨(ad.add (i * 12)).block, (ad.add (i * 12)).off + 4, none⟩ = some (.int .i64 cs[i].lock.by_.life) ∧ w.cell? ⟨(ad.add (i * 12)).block, (ad.add (i * 12)).off + 5, none⟩ = some (.int .i64 cs[i].lock.by_.seq) ∧ w.cell? ⟨(ad.add (i * 12)).block, (ad.add (i * 12)).off + 6, none⟩ = some (.int .i64 cs[i].lock.by_.attempt) ∧ w.cell? ⟨(ad.add (i * 12)).block, (ad.add (i * 12)).off + 7, none⟩ = some (.int .i64 cs[i].lock.home) ∧ w.cell? ⟨(ad.add (i * 12)).block, (ad.add (i * 12)).off + 8, none⟩ = some (.int .i64 cs[i].lock.at_.wall) ∧ w.cell? ⟨(ad.add (i * 12)).block, (ad.add (i * 12)).off + 9, none⟩ = some (.int .i64 cs[i].lock.at_.tie) ∧ w.cell? ⟨(ad.add (i * 12)).block, (ad.add (i * 12)).off + 10, none⟩ = some (.bool cs[i].lock.drop) ∧ w.cell? ⟨(ad.add (i * 12)).block, (ad.add (i * 12)).off + 11, none⟩ = some (.string (str cs[i].lock.data)) := by
  obtain ⟨us, h1, h2, h3⟩ := h
  have e : (us.zip cs).length = cs.length := by simp [h1]
  obtain ⟨ad, c', a1, a2, a3, a4, a5⟩ := RowR.at_ (h2.wr.row celCs_len) celCs_len (i := i) (by omega)
  have e2 : (us.zip cs)[i]'(by omega) = (us[i]'(by omega), cs[i]) := by simp
  rw [e2] at a5
  injection a1 with a1 _ _
  have key : ∀ j, 0 < j → j < 12 → w.cell? ⟨(ad.add (i * 12)).block, (ad.add (i * 12)).off + j, none⟩ = (celCs (us[i]'(by omega), cs[i]))[j]? := fun j h0 hj => by
    have := a5 j hj
    rw [addr_add _ j h0] at this
    exact this
  exact ⟨ad, us[i]'(by omega), a1, a4, h3 i hi (by omega), by have := a5 0 (by omega); rwa [add_zero] at this, key 1 (by omega) (by omega), key 2 (by omega) (by omega), key 3 (by omega) (by omega), key 4 (by omega) (by omega), key 5 (by omega) (by omega), key 6 (by omega) (by omega), key 7 (by omega) (by omega), key 8 (by omega) (by omega), key 9 (by omega) (by omega), key 10 (by omega) (by omega), key 11 (by omega) (by omega)⟩
end Go.Proofs.Ytoldelocfmpccaa
namespace Go.Proofs.Ytoldelocfmpccaa
open Go.RowKit
/-- What the inner loop holds. -/
structure TrimIn (a : St) (l : List Ver) (j : Nat) (W wi : World) : Prop where
  le : j ≤ l.length
  low : ∀ q (h : q < l.length), q < j → lessB a l[q].at_ = false
  same : Same (fun _ => True) W wi
end Go.Proofs.Ytoldelocfmpccaa
namespace Go.Proofs.Ytoldelocfmpccaa
open Go.RowKit
set_option maxHeartbeats 4000000 in
theorem insc_any (v : Value) (l : List (Value × Cel)) (c : (Value × Cel)) (i x B : Nat) (w : World) (hown : OwnR celCs 12 64 w B v l) (hx : Row w x 64 (celCs c)) (hne : v.ownBlock ≠ some x) (hi : i ≤ l.length) (hn : l.length ≤ 1000000) (hB : B ≤ w.heap.size) (h1 : ∀ y ∈ l, ∀ u ∈ celCs y, u.oneCell' = true) (h2 : ∀ u ∈ celCs c, u.oneCell' = true) :
    Calls Try.prog 69 #[v, .int .i64 i, .slice (some ⟨x, 0, none⟩) 1 1] w (InsP celCs 12 64 B v (l.take i ++ c :: l.drop i) w) := by
  rcases Nat.lt_or_ge i l.length with hlt | hge
  · rcases hown.ways with ⟨_, h0⟩ | ⟨g, cap, cur, rfl, hBg, hr, hc, hm, hcl, hct⟩
    · rw [h0] at hlt; simp at hlt
    have hgx : x ≠ g := fun e => hne (by rw [e]; rfl)
    have hrow : (l.take i).flatMap celCs = cur.take (i * 12) := by
      have := congrArg (List.take (i * 12)) hct
      rw [List.take_take, Nat.min_eq_left (Nat.mul_le_mul_right _ hi)] at this
      rw [flat_take celCs 12 celCs_len, ← this]
    have htail : (l.drop i).flatMap celCs = (cur.take (l.length * 12)).drop (i * 12) := by rw [flat_drop celCs 12 celCs_len, hct]
    have hgw := hr.lt
    have hxw := hx.lt
    obtain ⟨N, hN⟩ : ∃ N, N = l.length := ⟨_, rfl⟩
    have hTl : ((l.drop i).flatMap celCs).length = (N - i) * 12 := by rw [flat_len celCs 12 celCs_len, List.length_drop, hN]
    have hHl : ((l.take i).flatMap celCs).length = i * 12 := by rw [flat_len celCs 12 celCs_len, List.length_take, Nat.min_eq_left hi]
    have hT1 : ∀ u ∈ (l.drop i).flatMap celCs, u.oneCell' = true := fun u hu => by
      obtain ⟨y, hy, hu⟩ := List.mem_flatMap.1 hu
      exact h1 y (List.mem_of_mem_drop hy) u hu
    have hres : (l.take i ++ c :: l.drop i).length = N + 1 := by simp; omega
    have hcells := fun D => ins_cells (f := celCs) (n := 12) celCs_len hi c D
    rw [hres] at hcells
    have htc : ∀ j u, ((l.drop i).flatMap celCs)[j]? = some u → w.cell? ((⟨g, i * 12, none⟩ : Addr).add j) = some u := by
      intro j u hu
      rw [add_none, hr.cell]
      rw [htail, List.getElem?_drop, List.getElem?_take] at hu
      split at hu
      · exact hu
      · cases hu
    have hhc : ∀ j u, ((l.take i).flatMap celCs)[j]? = some u → w.cell? ((⟨g, 0, none⟩ : Addr).add j) = some u := by
      intro j u hu
      rw [add_none, hr.cell, Nat.zero_add]
      rw [hrow, List.getElem?_take] at hu
      split at hu
      · exact hu
      · cases hu
    have hxc : ∀ j u, (celCs c)[j]? = some u → w.cell? ((⟨x, 0, none⟩ : Addr).add j) = some u := by
      intro j u hu
      rw [add_none, hx.cell, Nat.zero_add]
      exact hu
    have hcln := celCs_len c
    rw [← hN] at hlt hn hc hct ⊢
    have hi1 : (i : Int) + 1 ≤ (N : Int) := by omega
    have hcm : cap ≤ 9223372036854775807 := by unfold maxLen at hm; omega
    obtain ⟨T, hT⟩ : ∃ T, T = (l.drop i).flatMap celCs := ⟨_, rfl⟩
    obtain ⟨H, hH⟩ : ∃ H, H = (l.take i).flatMap celCs := ⟨_, rfl⟩
    obtain ⟨X, hX⟩ : ∃ X, X = celCs c := ⟨_, rfl⟩
    obtain ⟨R, hR⟩ : ∃ R, R = l.take i ++ c :: l.drop i := ⟨_, rfl⟩
    rw [← hT] at hTl hT1 htc
    rw [← hH] at hHl hhc hrow
    rw [← hX] at hxc hcln hx h2
    rw [← hR] at hcells hres ⊢
    rw [← hT, ← hH, ← hX] at hcells
    have Hr := Lib.hid hr
    have Hx := Lib.hid hx
    have Htc := Lib.hid htc
    have Hhc := Lib.hid hhc
    have Hxc := Lib.hid hxc
    have Hcells := Lib.hid hcells
    have Hres := Lib.hid hres
    have Hrow := Lib.hid hrow
    have HTl := Lib.hid hTl
    have HHl := Lib.hid hHl
    have Hcl := Lib.hid hcl
    have Hxl := Lib.hid hcln
    have HT1 := Lib.hid hT1
    have HX1 := Lib.hid h2
    clear hr hx htc hhc hxc hcells hres hrow hTl hHl hcl hcln hT1 h1 h2 hct htail hown hT hH hX hR hne hN
    by_cases hroom : cap < N + 1
    · obtain rfl : cap = N := by omega
      have hw1 : IntKind.i64.wrap ((i : Int) + 1) = (i : Int) + 1 := by rw [IntKind.wrap_i64]; omega
      have hw2 : (0 : Int) ≤ (i : Int) + 1 := by omega
      have hw3 : ((i : Int) + 1).toNat = i + 1 := by omega
      have e1 : (cap : Int) < (cap : Int) + 1 := by omega
      have e2 : ¬ ((i : Int) = (cap : Int)) := by omega
      have e3 : ¬ (cap = i) := by omega
      have e4 : (i : Int) ≤ (cap : Int) := by omega
      go_enter Try.func69, Try.ntmps69
      go_wp2_with (at_builtin; refine stopAt ?_)
      unfold Hid
      refine wpList_apz TCel w rfl (.tmp 34) (.tmp 39) 3 rfl (by kernel_rfl) ⟨g, 0, none⟩ i cap (cap + 1 - i) (cap + 1) _ H rfl rfl (by omega) (by omega) HHl.out Hhc.out (by omega) (by omega) (by omega) (by omega) ?_
      intro w2 G Z k1 k2 k3 k4 k5 k6
      have K1 := Lib.hid k1
      have K2 := Lib.hid k2
      have K5 := Lib.hid k5
      unfold maxLen at k4
      have f1 : ¬ (G = i) := by omega
      have f2 : ¬ (G = i + 1) := by omega
      have f3 : (i : Int) ≤ (cap : Int) + 1 := by omega
      have f4 : (cap : Int) + 1 ≤ (G : Int) := by omega
      have f5 : (i : Int) + 1 ≤ (cap : Int) + 1 := by omega
      clear k1 k2 k5
      go_wp2_with (with_reducible refine stopCopy rfl ?_)
      unfold Hid
      refine wpList_cpN TCel w2 rfl (.tmp 43) (.tmp 44) rfl w.heap.size (i * 12) (cap + 1 - i) (G - i) 1 1 1 ⟨x, 0, none⟩ (by first | rfl | simp) rfl (H ++ Z) X 64 K1.out (by simp only [Nat.min_def]; split <;> omega) (by have := Hxl.out; omega) (fun j u hu => K5.out.cell trivial (Hxc.out j u hu)) (by rw [List.length_append, HHl.out, Hxl.out, K2.out, ← Nat.add_mul]; have : (i + 1) * 12 ≤ (i + (G - i)) * 12 := Nat.mul_le_mul_right _ (by omega); omega) HX1.out ?_
      rw [lay_one HHl.out Hxl.out]
      intro w3 k7 k8
      have hS3 : Same (fun k => k < w.heap.size) w w3 := (K5.out.mono fun _ _ _ => trivial).trans (k8.mono fun k _ hk => by omega)
      have K7 := Lib.hid k7
      have HS3 := Lib.hid hS3
      clear k7 k8 hS3
      go_wp2
      go_region_law (refine step_cpN TCel rfl (.tmp 50) (.tmp 53) rfl w.heap.size ((i + 1) * 12) (cap + 1 - (i + 1)) (G - (i + 1)) (cap - i) (cap - i) (cap - i) ⟨g, i * 12, none⟩ (by simp [Act.eval, Act.put]) (by simp [Act.eval, Act.put]) (H ++ X ++ Z.drop 12) T 64 (Row.keep K7.out ((Same.refl (fun _ => True) _).drew) trivial) (by simp only [Nat.min_def]; split <;> omega) HTl.out (fun j u hu => ((HS3.out).drew).cell (by rw [block_of_add]; exact hgw) (Htc.out j u hu)) (by rw [List.length_append, List.length_append, HHl.out, Hxl.out, HTl.out, List.length_drop, K2.out, ← Nat.add_mul]; have : (i + 1 + (cap - i)) * 12 ≤ G * 12 := Nat.mul_le_mul_right _ (by omega); have : (G - i) * 12 = G * 12 - i * 12 := Nat.sub_mul _ _ _; omega) HT1.out ?_; intro w4 k9 k10)
      rw [lay_two (by rw [List.length_append, HHl.out, Hxl.out]; omega)] at k9
      go_wp2
      go_ret
      refine ⟨_, rfl, OwnR.make hB k9.out (by have := Hres.out; omega) (by simp only [maxLen]; omega) ?_ (by rw [Hres.out]; exact Hcells.out _) Hres.out, ?_⟩
      · rw [List.length_append, List.length_append, List.length_append, List.length_drop, List.length_drop, HHl.out, Hxl.out, HTl.out, K2.out]
        omega
      · refine (HS3.out.drew.trans' k10.out fun q hq hq2 => by omega).mono fun q hq _ => hq
    · have e1 : ¬ ((cap : Int) < (N : Int) + 1) := by omega
      have hw1 : IntKind.i64.wrap ((i : Int) + 1) = (i : Int) + 1 := by rw [IntKind.wrap_i64]; omega
      have hw2 : (0 : Int) ≤ (i : Int) + 1 := by omega
      have hw3 : ((i : Int) + 1).toNat = i + 1 := by omega
      have hw4 : (i : Int) + 1 ≤ (N : Int) + 1 := by omega
      have e2 : ¬ ((i : Int) = (N : Int)) := by omega
      have e3 : ¬ (cap = i) := by omega
      have e4 : (i : Int) ≤ (N : Int) := by omega
      have e5 : ¬ (cap = i + 1) := by omega
      have e6 : (i : Int) ≤ (N : Int) + 1 := by omega
      have hov := fun lb cb => run_apart TCel Try.func97 (by kernel_rfl) (by kernel_rfl) (by kernel_rfl) 4 (by kernel_rfl) w x g X cur ((i + 1) * 12) 1 1 lb cb Hx.out Hr.out (by have := Hcl.out; intro h; rw [h] at this; simp at this; omega) hgx
      go_enter Try.func69, Try.ntmps69
      go_wp2_with (simp only [hov])
      clear hov
      go_region_law (refine step_cpN TCel rfl (.tmp 73) (.tmp 76) rfl g ((i + 1) * 12) (N + 1 - (i + 1)) (cap - (i + 1)) (N + 1 - i) (cap - i) (N - i) ⟨g, i * 12, none⟩ (by simp [Act.eval, Act.put]) (by simp [Act.eval, Act.put]) cur T 64 (Row.keep Hr.out ((Same.refl (fun _ => True) _).drew) trivial) (by simp only [Nat.min_def]; split <;> omega) HTl.out (fun j u hu => Htc.out j u hu) (by rw [HTl.out, Hcl.out, ← Nat.add_mul]; exact Nat.mul_le_mul_right _ (by omega)) HT1.out ?_; intro w4 k9 k10)
      have K9 := Lib.hid k9.out
      have K10 := Lib.hid k10.out
      clear k9 k10
      go_wp2_with (with_reducible refine stopCopy rfl ?_)
      unfold Hid
      refine wpList_cpN TCel w4 rfl (.tmp 80) (.tmp 81) rfl g (i * 12) (N + 1 - i) (cap - i) 1 1 1 ⟨x, 0, none⟩ (by first | rfl | simp) rfl _ X 64 K9.out (by simp only [Nat.min_def]; split <;> omega) (by have := Hxl.out; omega) (fun j u hu => (K10.out.cell (by rw [block_of_add]; exact hgx) (Hxc.out j u hu))) ?_ HX1.out ?_
      · rw [List.length_append, List.length_append, List.length_take, List.length_drop, Hxl.out, HTl.out, Hcl.out]
        omega
      rw [show (i + 1) * 12 = i * 12 + 12 from by omega, lay_three Hrow.out Hxl.out (by rw [Hcl.out]; omega)]
      intro w5 k11 k12
      have K11 := Lib.hid k11
      have K12 := Lib.hid k12
      clear k11 k12
      go_wp2
      go_ret
      refine ⟨_, rfl, OwnR.make hBg K11.out (by have := Hres.out; omega) hm ?_ (by rw [Hres.out]; exact Hcells.out _) Hres.out, ?_⟩
      · rw [List.length_append, List.length_append, List.length_append, List.length_drop, HHl.out, Hxl.out, HTl.out, Hcl.out]
        omega
      · refine (((Same.refl (fun q => q ≠ g) w).drew.trans K10.out).trans K12.out).mono fun q _ hq e => hq ?_
        rw [e]; rfl
  · obtain rfl : i = l.length := by omega
    rw [List.take_length, List.drop_length]
    obtain ⟨A, cp, rfl, hc1, hc2⟩ := hown.form
    have Hown := Lib.hid hown
    have Hx := Lib.hid hx
    unfold maxLen at hc2
    clear hown hx hne
    rcases Nat.eq_or_lt_of_le hc1 with rfl | hcc
    all_goals
      try have hcc' : ¬ cp = l.length := by omega
      go_enter Try.func69, Try.ntmps69
      go_wp2_with (at_builtin; refine stopAt ?_)
      unfold Hid
      have hsl := Hx.out.sl (size := 12) (off := 0) (n := 1) (by rw [celCs_len]; omega)
      rw [List.drop_zero, List.take_of_length_le (by rw [celCs_len]; omega)] at hsl
      refine wpList_app TCel _ rfl (.tmp 23) (.tmp 24) rfl B _ l.length (l.flatMap celCs) rfl Hown.out _ _ 1 1 (celCs c) rfl hsl h2 (by simp only [maxLen]; omega) (by omega) hB ?_
      intro v' w' k1 k2 k3
      have K1 := Lib.hid k1
      have K2 := Lib.hid k2
      clear k1 k2 k3 hsl
      go_wp2
      go_ret
      refine ⟨_, rfl, ?_, K2.out⟩
      unfold OwnR
      rw [List.length_append, List.flatMap_append]
      simpa using K1.out
end Go.Proofs.Ytoldelocfmpccaa
namespace Go.Proofs.Ytoldelocfmpccaa
open Go.RowKit
def setsL : List Value → Nat → List Value → List Value
  | L, _, [] => L
  | L, k, v :: vs => setsL (L.set k v) (k + 1) vs
theorem setsL_len : ∀ (vs L : List Value) (k : Nat), (setsL L k vs).length = L.length
  | [], _, _ => rfl
  | v :: vs, L, k => by
    show (setsL (L.set k v) (k + 1) vs).length = _
    rw [setsL_len vs, List.length_set]
theorem setsL_eq : ∀ (vs L : List Value) (k : Nat), k + vs.length ≤ L.length → setsL L k vs = L.take k ++ vs ++ L.drop (k + vs.length)
  | [], L, k, _ => by simp [setsL]
  | v :: vs, L, k, h => by
    rw [List.length_cons] at h
    show setsL (L.set k v) (k + 1) vs = _
    rw [setsL_eq vs _ _ (by rw [List.length_set]; omega), List.take_set, List.take_succ_eq_append_getElem (by omega), List.drop_set, if_pos (by omega)]
    have e1 : ((L.take k ++ [L[k]]).set k v) = L.take k ++ [v] := by
      rw [List.set_append, if_neg (by rw [List.length_take]; omega)]
      have : k - (L.take k).length = 0 := by rw [List.length_take]; omega
      rw [this]; rfl
    rw [e1, List.length_cons, show k + 1 + vs.length = k + (vs.length + 1) from by omega]
    simp
def setsW : World → Nat → Nat → List Value → World
  | w, _, _, [] => w
  | w, g, k, v :: vs => setsW (w.setCell ⟨g, k, none⟩ v) g (k + 1) vs
theorem Row.sets {g : Nat} {e : TypeId} : ∀ (vs : List Value) {w : World} {L : List Value} (k : Nat), Row w g e L → Row (setsW w g k vs) g e (setsL L k vs)
  | [], _, _, _, h => h
  | v :: vs, w, L, k, h => Row.sets vs (k + 1) (h.set_ k v)
theorem Same.sets {S : Nat → Prop} {g : Nat} (hg : ¬ S g) : ∀ (vs : List Value) {w w' : World} (k : Nat), Same S w w' → Same S w (setsW w' g k vs)
  | [], _, _, _, h => h
  | v :: vs, w, w', k, h => Same.sets hg vs (k + 1) (h.setCell (p := ⟨g, k, none⟩) (fun _ => hg) v)
def lockCs (l : Lck) : List Value := .bool true :: lckCs l
theorem celCs_upd (u : Value) (d : Cel) (l : Lck) : celCs (u, updC d l) = (celCs (u, d)).take 2 ++ lockCs l := rfl
set_option maxHeartbeats 1000000 in
/-- The ten stores that lock a cell. -/
theorem OwnC.upd {w W : World} {B g cap n : Nat} {A Z : List Cel} {d : Cel} (h : OwnC w B (.slice (some ⟨g, 0, none⟩) n cap) (A ++ d :: Z)) (l : Lck) {o : Nat} (ho : o = A.length * 12 + 2) (hW : W = setsW w g o (lockCs l)) :
    OwnC W B (.slice (some ⟨g, 0, none⟩) n cap) (A ++ updC d l :: Z) ∧ Same (fun k => k ≠ g) w W := by
  subst ho hW
  have hS : Same (fun k => k ≠ g) w (setsW w g (A.length * 12 + 2) (lockCs l)) := Same.sets (fun h => h rfl) _ _ (Same.refl _ _)
  refine ⟨?_, hS⟩
  obtain ⟨us, u1, u2, u3⟩ := h
  have hul : (us.zip (A ++ d :: Z)).length = (A ++ d :: Z).length := by simp [u1]
  have hAl : A.length < us.length := by rw [u1]; simp
  rcases u2.ways with ⟨h0, _⟩ | ⟨g', cap', cur, h0, hB, hr, hc, hm, hl, ht⟩
  · cases h0
  injection h0 with h0 h1 h2
  injection h0 with h0
  injection h0 with h0 _ _
  subst h0 h2
  have e1 : us = us.take A.length ++ us[A.length] :: us.drop (A.length + 1) := by
    rw [← List.drop_eq_getElem_cons hAl, List.take_append_drop]
  have hta : (us.take A.length).length = A.length := by rw [List.length_take]; omega
  have hz : us.zip (A ++ d :: Z) = (us.take A.length).zip A ++ (us[A.length], d) :: (us.drop (A.length + 1)).zip Z := by
    conv => lhs; rw [e1]
    rw [List.zip_append hta]
    rfl
  have hz' : us.zip (A ++ updC d l :: Z) = (us.take A.length).zip A ++ (us[A.length], updC d l) :: (us.drop (A.length + 1)).zip Z := by
    conv => lhs; rw [e1]
    rw [List.zip_append hta]
    rfl
  have hlA : ((us.take A.length).zip A).length = A.length := by simp; omega
  have hr' := Row.sets (lockCs l) (A.length * 12 + 2) hr
  have hn : (us.zip (A ++ updC d l :: Z)).length = (us.zip (A ++ d :: Z)).length := by simp
  have hlen : (A ++ d :: Z).length = A.length + 1 + Z.length := by simp; omega
  refine ⟨us, by rw [u1]; simp, ?_, ?_⟩
  · refine OwnR.make hB hr' (by rw [hn]; exact hc) hm (by rw [setsL_len]; exact hl) ?_ (by rw [hn]; exact h1.symm)
    have hcap0 : (A ++ d :: Z).length ≤ cap := by rw [← hul]; exact hc
    have hfit : A.length * 12 + 2 + (lockCs l).length ≤ cur.length := by
      have : (lockCs l).length = 10 := rfl
      omega
    rw [hn, setsL_eq _ _ _ hfit, hz', List.flatMap_append, List.flatMap_cons, celCs_upd]
    rw [hz, List.flatMap_append, List.flatMap_cons] at ht
    have hA12 : (((us.take A.length).zip A).flatMap celCs).length = A.length * 12 := by rw [flat_len celCs 12 celCs_len, hlA]
    have hN : (((us.take A.length).zip A ++ (us[A.length], d) :: (us.drop (A.length + 1)).zip Z)).length = A.length + 1 + Z.length := by rw [← hz, hul, hlen]
    rw [hN] at ht
    have hcap : A.length + 1 + Z.length ≤ cap := by rw [← hlen, ← hul]; exact hc
    have hlk : (lockCs l).length = 10 := rfl
    have hZl : ((us.drop (A.length + 1)).zip Z).length = Z.length := by simp at u1 ⊢; omega
    have hZ12 : (((us.drop (A.length + 1)).zip Z).flatMap celCs).length = Z.length * 12 := by rw [flat_len celCs 12 celCs_len, hZl]
    -- the row's pieces
    have p1 : cur.take (A.length * 12) = ((us.take A.length).zip A).flatMap celCs := by
      have q1 : (cur.take ((A.length + 1 + Z.length) * 12)).take (A.length * 12) = cur.take (A.length * 12) := by rw [List.take_take, Nat.min_eq_left (by omega)]
      rw [← q1, ht, ← hA12]
      exact List.take_left
    have p2 : (cur.take ((A.length + 1 + Z.length) * 12)).drop (A.length * 12) = celCs (us[A.length], d) ++ ((us.drop (A.length + 1)).zip Z).flatMap celCs := by
      rw [ht, ← hA12]
      exact List.drop_left
    have p3 : (cur.drop (A.length * 12)).take 2 = (celCs (us[A.length], d)).take 2 := by
      have := congrArg (List.take 2) p2
      rw [List.drop_take, List.take_take, Nat.min_eq_left (by omega), List.take_append_of_le_length (by rw [celCs_len]; omega)] at this
      exact this
    have p4 : (cur.take ((A.length + 1 + Z.length) * 12)).drop ((A.length + 1) * 12) = ((us.drop (A.length + 1)).zip Z).flatMap celCs := by
      have q1 : (celCs (us[A.length], d) ++ ((us.drop (A.length + 1)).zip Z).flatMap celCs).drop 12 = ((us.drop (A.length + 1)).zip Z).flatMap celCs := by
        have : (12 : Nat) = (celCs (us[A.length], d)).length := rfl
        rw [this]
        exact List.drop_left
      rw [← q1, ← p2, List.drop_drop, show A.length * 12 + 12 = (A.length + 1) * 12 from by omega]
    have p5 : cur.take (A.length * 12 + 2) = cur.take (A.length * 12) ++ (cur.drop (A.length * 12)).take 2 := by rw [List.take_add]
    rw [p5, p1, p3, hlk, hul, hlen, ← p4, List.drop_take]
    have q1 : (((us.take A.length).zip A).flatMap celCs ++ (celCs (us[A.length], d)).take 2).length = A.length * 12 + 2 := by
      rw [List.length_append, hA12, List.length_take, celCs_len]; omega
    rw [List.append_assoc _ (lockCs l), List.take_append, q1, List.take_of_length_le (by rw [q1]; omega), List.take_append, hlk, List.take_of_length_le (l := lockCs l) (by rw [hlk]; omega)]
    rw [show (A.length + 1 + Z.length) * 12 - (A.length * 12 + 2) - 10 = (A.length + 1 + Z.length) * 12 - (A.length + 1) * 12 from by omega, show A.length * 12 + 2 + 10 = (A.length + 1) * 12 from by omega]
    simp only [List.append_assoc]
  · intro i hi hi'
    have hv : (A ++ updC d l :: Z)[i].vers = ((A ++ d :: Z)[i]'(by simp at hi ⊢; omega)).vers := by
      rcases Nat.lt_trichotomy i A.length with h | h | h
      · rw [List.getElem_append_left h, List.getElem_append_left h]
      · subst h; simp [updC]
      · rw [List.getElem_append_right (by omega), List.getElem_append_right (by omega), List.getElem_cons, List.getElem_cons, dif_neg (by omega), dif_neg (by omega)]
    rw [hv]
    have := u3 i (by simp at hi ⊢; omega) hi'
    refine this.keepOwn u2 (by decide) (hS.mono fun k _ hk e => hk ?_)
    rw [e]; rfl
theorem zip_ins {us : List Value} {cs : List Cel} (u : Value) (d : Cel) (h : us.length = cs.length) (i : Nat) : (us.zip cs).take i ++ (u, d) :: (us.zip cs).drop i = (us.take i ++ u :: us.drop i).zip (cs.take i ++ d :: cs.drop i) := by
  rw [List.zip_append (by simp [h]), List.zip_cons_cons]
  simp only [List.zip, List.take_zipWith, List.drop_zipWith]
set_option maxHeartbeats 1000000 in
theorem insC_any (v : Value) (cs : List Cel) (key : List UInt8) (i x B : Nat) (w : World) (hown : OwnC w B v cs) (hx : Row w x 64 (celCs (.slice none 0 0, freshC key))) (hne : v.ownBlock ≠ some x) (hi : i ≤ cs.length) (hn : cs.length ≤ 1000000) (hB : B ≤ w.heap.size) :
    Calls Try.prog 69 #[v, .int .i64 i, .slice (some ⟨x, 0, none⟩) 1 1] w fun e w' => ∃ v', e = .returned v' ∧ OwnC w' B v' (cs.take i ++ freshC key :: cs.drop i) ∧ Same (fun k => some k ≠ v.ownBlock) w w' := by
  obtain ⟨us, u1, u2, u3⟩ := hown
  have hul : (us.zip cs).length = cs.length := by simp [u1]
  refine (insc_any v (us.zip cs) (.slice none 0 0, freshC key) i x B w u2 hx hne (by omega) (by omega) hB ?_ (celCs_one _)).mono ?_
  · intro y hy
    obtain ⟨j, hj, rfl⟩ := List.mem_iff_getElem.1 hy
    obtain ⟨Aj, cj, h1, _⟩ := u3 j (by omega) (by omega)
    rw [List.getElem_zip, h1]
    exact celCs_one _
  · rintro e w' ⟨v', rfl, h1, h2⟩
    rw [zip_ins _ _ u1] at h1
    refine ⟨v', rfl, ⟨_, by simp [u1], h1, fun j hj hj' => ?_⟩, h2⟩
    have keep : ∀ q (h : q < cs.length) (h' : q < us.length), RowW verCs 4 69 w' (fun k => B ≤ k) us[q] cs[q].vers := fun q h h' => (u3 q h h').keepOwn u2 (by decide) h2
    have ha : (us.take i).length = i := by rw [List.length_take]; omega
    have hb : (cs.take i).length = i := by rw [List.length_take]; omega
    rcases Nat.lt_trichotomy j i with h | h | h
    · rw [List.getElem_append_left (by omega), List.getElem_append_left (by omega), List.getElem_take, List.getElem_take]
      exact keep j _ _
    · subst h
      rw [List.getElem_append_right (by omega), List.getElem_append_right (by omega)]
      simp only [ha, hb, Nat.sub_self, List.getElem_cons_zero]
      exact ⟨none, 0, rfl, Nat.le_refl _, by simp [maxLen], fun h => absurd h (by simp [freshC])⟩
    · rw [List.getElem_append_right (by omega), List.getElem_append_right (by omega)]
      simp only [ha, hb]
      rw [List.getElem_cons, List.getElem_cons, dif_neg (by omega), dif_neg (by omega), List.getElem_drop, List.getElem_drop]
      exact keep _ _ _
end Go.Proofs.Ytoldelocfmpccaa
