/-
  Words, plain models, laws and walks that the claims of this layer share (joined by shake.py). No condition.
-/
import Derived.Test.YtoldelocfmpccaaS1
import Derived.Test.YtoldelocfmpccaaS2
import Derived.Test.YtoldelocfmpccaaS3
import Derived.Test.YtoldelocfmpccaaS4
import Derived.Test.YtoldelocfmpccaaS5
import Derived.Test.YtoldelocfmpccaaS6
import Derived.Test.YtoldelocfmpccaaS7
import Derived.Test.YtoldelocfmpccaaS8
import Derived.Test.YtoldelocfmpccaaS9
import Derived.Test.YtoldelocfmpccaaS10
set_option linter.unusedSimpArgs false
set_option linter.unusedVariables false
namespace Go.Proofs.Ytoldelocfmpccaa
open Go.RowKit
def applyR (p : PartM) (c : CmdM) : PartM × ReplyM := if c.kind = 1 then leaseF p c else if p.epoch = 0 ∨ c.epoch ≠ p.epoch then (p, repErr 25) else doesF p c
/-- What a command leaves, and answers. -/
def applyF (p : PartM) (c : CmdM) : PartM × ReplyM := if (applyR p c).2.err = 0 then applyR p c else (p, (applyR p c).2)
def PartM.zero : PartM := ⟨0, 0, ⟨0, 0⟩, 0, 0, [], [], []⟩
/-- A command with the epoch of a part. -/
def ownF (p : PartM) (c : CmdM) (other : Bool) : CmdM := if other then c else { c with epoch := if c.kind = 1 then p.epoch + 1 else p.epoch }
def stepF (p : PartM) (c : CmdM) : PartM := (applyF p (ownF p c false)).1
def runP (l : List CmdM) : PartM := l.foldl stepF PartM.zero
theorem runP_step {l : List CmdM} {k : Nat} (h : k < l.length) : runP (l.take (k + 1)) = stepF (runP (l.take k)) l[k] := by
  unfold runP
  rw [List.take_succ_eq_append_getElem h, List.foldl_append]
  rfl
/-- The ways a command goes. -/
inductive StepP (p : PartM) (c : CmdM) : PartM → Prop
  | same : StepP p c p
  | lease : c.kind = 1 → c.epoch = p.epoch + 1 → StepP p c { p with epoch := c.epoch, holder := c.node }
  | read : c.kind = 2 → StepP p c { p with floor := maxS p.floor c.at_ }
  | prep : c.kind = 3 → (findO p.done c.by_).2 = false → mineF p.cells c.by_ = false → ¬ c.at_.wall ≤ p.closed → lessB c.at_ p.floor = false → heldFirst p.cells c.writes = none → StepP p c { p with cells := lockAll c p.cells c.writes }
  | dec : c.kind = 4 → StepP p c { p with recs := p.recs ++ [newO c] }
  | setl : c.kind = 5 → StepP p c (settleF p c).1
  | close : c.kind = 6 → StepP p c (closeF p c).1
  | trim : c.kind = 7 → StepP p c (trimPF p c).1
theorem lease_step (p : PartM) (c : CmdM) (h : c.kind = 1) : StepP p c (leaseF p c).1 := by
  unfold leaseF
  split
  · rename_i h1
    refine .lease h ?_
    unfold leaseOk at h1
    simp at h1
    exact h1.2.1
  · exact .same
theorem does_step (p : PartM) (c : CmdM) : StepP p c (doesF p c).1 := by
  unfold doesF
  split
  · rename_i h
    unfold readF
    split
    · exact .same
    · split
      · exact .same
      · split
        · exact .read h
        · exact .same
  · split
    · rename_i h
      unfold prepareF
      split
      · exact .same
      · rename_i h1
        split
        · exact .same
        · rename_i h2
          split
          · exact .same
          · rename_i h3
            split
            · exact .same
            · rename_i h4
              split
              · exact .same
              · rename_i h5
                exact .prep h (by simpa using h1) (by simpa using h2) h3 (by simpa using h4) h5
    · split
      · rename_i h
        unfold decideF
        split
        · exact .same
        · exact .dec h
      · split
        · rename_i h; exact .setl h
        · split
          · rename_i h; exact .close h
          · split
            · rename_i h; exact .trim h
            · exact .same
theorem apply_step (p : PartM) (c : CmdM) : StepP p c (applyF p c).1 := by
  unfold applyF
  split
  · unfold applyR
    split
    · rename_i h; exact lease_step p c h
    · split
      · exact .same
      · exact does_step p c
  · exact .same
theorem Fine.mono {n m : Nat} {cs : List Cel} (h : Fine n cs) (hm : n ≤ m) : Fine m cs := ⟨h.good, h.few.mono hm⟩
/-- A part that runs make. -/
structure FineP (n : Nat) (p : PartM) : Prop where
  cells : Fine n p.cells
  recs : p.recs.length ≤ n
  done : p.done.length ≤ n
  epoch : 0 ≤ p.epoch ∧ p.epoch ≤ n
  low : 0 ≤ p.low ∧ p.low ≤ p.closed
theorem FineP.mono {n m : Nat} {p : PartM} (h : FineP n p) (hm : n ≤ m) : FineP m p :=
  ⟨h.cells.mono hm, Nat.le_trans h.recs hm, Nat.le_trans h.done hm, ⟨h.epoch.1, by have := h.epoch.2; omega⟩, h.low⟩
theorem FineP.zero : FineP 0 PartM.zero := ⟨⟨good_nil, by simp [Few, PartM.zero]⟩, Nat.zero_le _, Nat.zero_le _, ⟨Int.le_refl _, Int.le_refl _⟩, Int.le_refl _, Int.le_refl _⟩
theorem fine_step {n : Nat} {p p' : PartM} {c : CmdM} (h : FineP n p) (hs : StepP p c p') : FineP (n + c.writes.length + 1) p' := by
  have hm := h.mono (m := n + c.writes.length + 1) (by omega)
  have he := h.epoch
  cases hs with
  | same => exact hm
  | lease h1 h2 => exact ⟨hm.cells, hm.recs, hm.done, by simp only [h2]; omega, hm.low⟩
  | read h1 => exact ⟨hm.cells, hm.recs, hm.done, hm.epoch, hm.low⟩
  | prep h1 h2 h3 h4 h5 h6 => exact ⟨(lockAll_fine h.cells c.writes).mono (by omega), hm.recs, hm.done, hm.epoch, hm.low⟩
  | dec h1 => exact ⟨hm.cells, by have := h.recs; simp only [List.length_append, List.length_singleton]; omega, hm.done, hm.epoch, hm.low⟩
  | setl h1 => exact ⟨(h.cells.setl c.by_ c.yes).mono (by omega), hm.recs, by have := h.done; unfold settleF; dsimp only; split <;> simp <;> omega, hm.epoch, hm.low⟩
  | close h1 => exact ⟨hm.cells, hm.recs, hm.done, hm.epoch, by have := h.low; unfold closeF; dsimp only; omega⟩
  | trim h1 => exact ⟨(h.cells.trim _).mono (by omega), hm.recs, hm.done, hm.epoch, by have := h.low; unfold trimPF lowF; dsimp only; omega⟩
theorem fine_run {l : List CmdM} (hl : ∀ c ∈ l, c.writes.length ≤ 99) : ∀ k, k ≤ l.length → FineP (100 * k) (runP (l.take k))
  | 0, _ => FineP.zero
  | k + 1, hk => by
    have ih := fine_run hl k (by omega)
    rw [runP_step (by omega)]
    have := fine_step ih (apply_step (runP (l.take k)) (ownF (runP (l.take k)) l[k] false))
    have hw : (ownF (runP (l.take k)) l[k] false).writes = l[k].writes := rfl
    have := hl l[k] (List.getElem_mem _)
    exact FineP.mono ‹_› (by rw [hw]; omega)
theorem run_epoch {l : List CmdM} : ∀ k, k ≤ l.length → 0 ≤ (runP (l.take k)).epoch ∧ (runP (l.take k)).epoch ≤ k
  | 0, _ => ⟨Int.le_refl _, Int.le_refl _⟩
  | k + 1, hk => by
    have ih := run_epoch k (l := l) (by omega)
    rw [runP_step (by omega)]
    have hs := apply_step (runP (l.take k)) (ownF (runP (l.take k)) l[k] false)
    unfold stepF
    generalize (applyF _ _).1 = p' at *
    cases hs with
    | lease h1 h2 => simp only [h2]; omega
    | same => omega
    | read => simp only; omega
    | prep => simp only; omega
    | dec => simp only; omega
    | setl => simp only [settleF]; omega
    | close => simp only [closeF]; omega
    | trim => simp only [trimPF]; omega
theorem step_floor {p p' : PartM} {c : CmdM} (hs : StepP p c p') : lessB p'.floor p.floor = false := by
  cases hs with
  | read =>
    unfold maxS
    dsimp only
    split
    · rename_i h; exact less_asymm h
    · exact less_irrefl _
  | same => exact less_irrefl _
  | lease => exact less_irrefl _
  | prep => exact less_irrefl _
  | dec => exact less_irrefl _
  | setl => exact less_irrefl _
  | close => exact less_irrefl _
  | trim => exact less_irrefl _
theorem step_walls {p p' : PartM} {c : CmdM} (hs : StepP p c p') : p.closed ≤ p'.closed ∧ p.low ≤ p'.low ∧ p.epoch ≤ p'.epoch := by
  cases hs with
  | lease h1 h2 => simp only [h2]; omega
  | same => omega
  | read => simp only; omega
  | prep => simp only; omega
  | dec => simp only; omega
  | setl => simp only [settleF]; omega
  | close => simp only [closeF]; omega
  | trim => simp only [trimPF, lowF]; omega
theorem step_lists {p p' : PartM} {c : CmdM} (hs : StepP p c p') : (∃ t, p'.recs = p.recs ++ t) ∧ ∃ t, p'.done = p.done ++ t := by
  cases hs with
  | setl =>
    refine ⟨⟨[], by simp [settleF]⟩, ?_⟩
    unfold settleF
    dsimp only
    split
    · exact ⟨[], by simp⟩
    · exact ⟨_, rfl⟩
  | dec => exact ⟨⟨_, rfl⟩, [], by simp⟩
  | lease h1 h2 => exact ⟨⟨[], by simp⟩, [], by simp⟩
  | same => exact ⟨⟨[], by simp⟩, [], by simp⟩
  | read => exact ⟨⟨[], by simp⟩, [], by simp⟩
  | prep => exact ⟨⟨[], by simp⟩, [], by simp⟩
  | close => exact ⟨⟨[], by simp [closeF]⟩, [], by simp [closeF]⟩
  | trim => exact ⟨⟨[], by simp [trimPF]⟩, [], by simp [trimPF]⟩
theorem held_is {cs : List Cel} {k : List UInt8} {l : Lck} (h : heldF cs k = (l, true)) : ∃ c ∈ cs, c.key = k ∧ c.locked = true ∧ c.lock = l := by
  unfold heldF at h
  split at h
  · rename_i c hc
    split at h
    · rename_i h1
      injection h with h2 _
      simp at h1
      have hf := h1.1
      unfold foundF at hf
      rw [hc] at hf
      exact ⟨c, List.mem_of_getElem? hc, by simpa using hf, h1.2, h2⟩
    · cases h
  · cases h
theorem held_other {cs : List Cel} (h : Good cs) (w : Wr) (l : Lck) {key : List UInt8} (hk : w.key ≠ key) : heldF (lockF cs w.key (lockW w l)) key = heldF cs key := by
  obtain ⟨A, o, Z, e1, e2, e3, e4, e5, e6, e7⟩ := split_at (k := w.key) h.sort
  have hg := lock_good h w l
  have hne : ∀ c ∈ o.toList, c.key ≠ key := fun c hc => by
    rw [e4 c (by simpa using hc)]; exact hk
  rw [heldF_look hg.sort, heldF_look h.sort, e5]
  conv => rhs; rw [e1]
  rw [← List.singleton_append, look_other (m' := o.toList) (fun c hc => by
    obtain rfl := List.mem_singleton.1 hc
    rw [upd_key e4]; exact hk) hne]
theorem held_all {c : CmdM} {key : List UInt8} : ∀ (l : List Wr) {cs : List Cel}, Good cs →
    ((∃ x ∈ l, x.key = key) → ∃ x ∈ l, heldF (lockAll c cs l) key = (lockW x ⟨c.by_, c.home, c.at_, false, []⟩, true)) ∧ ((∀ x ∈ l, x.key ≠ key) → heldF (lockAll c cs l) key = heldF cs key)
  | [], cs, h => ⟨fun ⟨x, hx, _⟩ => (by cases hx), fun _ => rfl⟩
  | y :: l, cs, h => by
    obtain ⟨h1, h2⟩ := held_all l (c := c) (key := key) (lock_good h y ⟨c.by_, c.home, c.at_, false, []⟩)
    have e : lockAll c cs (y :: l) = lockAll c (lockF cs y.key (lockW y ⟨c.by_, c.home, c.at_, false, []⟩)) l := rfl
    rw [e]
    refine ⟨?_, ?_⟩
    · intro hx
      by_cases hl : ∃ x ∈ l, x.key = key
      · obtain ⟨x, hx, hx2⟩ := h1 hl
        exact ⟨x, List.mem_cons_of_mem _ hx, hx2⟩
      · have hl' : ∀ x ∈ l, x.key ≠ key := fun x hx e => hl ⟨x, hx, e⟩
        obtain ⟨x, hx, hk⟩ := hx
        rcases List.mem_cons.1 hx with rfl | hx
        · refine ⟨x, List.mem_cons_self .., ?_⟩
          rw [h2 hl', ← hk]
          exact (free_plain h x _).1
        · exact absurd hk (hl' x hx)
    · intro hx
      rw [h2 fun x hx' => hx x (List.mem_cons_of_mem _ hx')]
      exact held_other h y _ (hx y (List.mem_cons_self ..))
theorem apply_err {p : PartM} {c : CmdM} (h : (applyF p c).2.err ≠ 0) : (applyF p c).1 = p := by
  unfold applyF at h ⊢
  split at h
  · rename_i h1; exact absurd h1 h
  · rename_i h1; rw [if_neg h1]
end Go.Proofs.Ytoldelocfmpccaa
namespace Go.Proofs.Ytoldelocfmpccaa
open Go.RowKit
theorem setl_again (cs : List Cel) (a : TryT) (x y : Bool) : setlF (setlF cs a x) a y = setlF cs a x := by
  have key : ∀ c, (setlC a x c).flatMap (setlC a y) = setlC a x c := by
    intro c
    unfold setlC
    cases ha : mineB c a
    · cases hk : keptB c <;> simp [ha, hk]
    · have hf : mineB (freeC x c) a = false := by simp [mineB, freeC]
      cases hk : keptB (freeC x c)
      · simp [hk]
      · simp [hk, hf]
  unfold setlF
  induction cs with
  | nil => rfl
  | cons c cs ih => simp only [List.flatMap_cons, List.flatMap_append, key c, ih]
theorem findO_app {l : List Out} {b : TryT} (o : Out) (h : (findO l b).2 = false) (ho : o.by_ = b) : findO (l ++ [o]) b = (o, true) := by
  unfold findO at h ⊢
  cases hf : l.find? (fun o => o.by_ == b) with
  | some x => rw [hf] at h; cases h
  | none =>
    rw [List.find?_append, hf]
    simp [ho]
theorem maxS_self (a b : St) : maxS (maxS a b) b = maxS a b := by
  unfold maxS
  cases h : lessB a b
  · simp [h]
  · simp [less_irrefl]
theorem mine_all {c : CmdM} {cs : List Cel} (hg : Good cs) {l : List Wr} (h : l ≠ []) : mineF (lockAll c cs l) c.by_ = true := by
  obtain ⟨x, l', rfl⟩ := List.exists_cons_of_ne_nil h
  obtain ⟨y, hy, h1⟩ := (held_all (c := c) (key := x.key) (x :: l') hg).1 ⟨x, List.mem_cons_self .., rfl⟩
  obtain ⟨z, hz, _, h2, h3⟩ := held_is h1
  unfold mineF
  rw [List.any_eq_true]
  refine ⟨z, hz, ?_⟩
  unfold mineB
  rw [h2, h3]
  simp [lockW]
/-- A command that does what it does. -/
theorem apply_does {p : PartM} {c : CmdM} (hk : c.kind ≠ 1) (hp : p.epoch ≠ 0) (he : c.epoch = p.epoch) : applyF p c = if (doesF p c).2.err = 0 then doesF p c else (p, (doesF p c).2) := by
  have e : applyR p c = doesF p c := by
    unfold applyR
    rw [if_neg hk, if_neg (by simp [hp, he])]
  unfold applyF
  rw [e]
theorem apply_elder {p : PartM} {c : CmdM} (hk : c.kind ≠ 1) (h : p.epoch = 0 ∨ c.epoch ≠ p.epoch) : applyF p c = (p, repErr 25) := by
  have e : applyR p c = (p, repErr 25) := by
    unfold applyR
    rw [if_neg hk, if_pos h]
  unfold applyF
  rw [e, if_neg (by simp [repErr])]
theorem apply_lease {p : PartM} {c : CmdM} (hk : c.kind = 1) : applyF p c = leaseF p c := by
  have e : applyR p c = leaseF p c := by
    unfold applyR
    rw [if_pos hk]
  unfold applyF
  rw [e]
  unfold leaseF
  split
  · exact if_pos rfl
  · exact if_neg (by simp [repErr])
theorem readF_of {p : PartM} {c : CmdM} (h1 : ¬ c.at_.wall < p.low) (h2 : blockedF p.cells c.at_ c.spans = none) (h3 : (scanAll p.cells c.at_ c.spans []).2 = 0) :
    readF p c = ({ p with floor := maxS p.floor c.at_ }, { ReplyM.zero with pairs := (scanAll p.cells c.at_ c.spans []).1 }) := by
  unfold readF
  rw [if_neg h1, h2]
  exact if_pos h3
theorem read_ok {p : PartM} {c : CmdM} (h : (readF p c).2.err = 0) : ¬ c.at_.wall < p.low ∧ blockedF p.cells c.at_ c.spans = none ∧ (scanAll p.cells c.at_ c.spans []).2 = 0 := by
  by_cases h1 : c.at_.wall < p.low
  · unfold readF at h
    rw [if_pos h1] at h
    cases h
  · cases h2 : blockedF p.cells c.at_ c.spans with
    | some l =>
      unfold readF at h
      rw [if_neg h1, h2] at h
      cases h
    | none =>
      refine ⟨h1, rfl, ?_⟩
      by_cases h3 : (scanAll p.cells c.at_ c.spans []).2 = 0
      · exact h3
      · unfold readF at h
        rw [if_neg h1, h2] at h
        dsimp only at h
        rw [if_neg h3] at h
        exact h
theorem prepF_of {p : PartM} {c : CmdM} (h1 : (findO p.done c.by_).2 = false) (h2 : mineF p.cells c.by_ = false) (h3 : ¬ c.at_.wall ≤ p.closed) (h4 : lessB c.at_ p.floor = false) (h5 : heldFirst p.cells c.writes = none) :
    prepareF p c = ({ p with cells := lockAll c p.cells c.writes }, ReplyM.zero) := by
  unfold prepareF
  rw [if_neg (by simp [h1]), if_neg (by simp [h2]), if_neg h3, if_neg (by simp [h4]), h5]
theorem prepF_mine {p : PartM} {c : CmdM} (h1 : (findO p.done c.by_).2 = false) (h2 : mineF p.cells c.by_ = true) : prepareF p c = (p, ReplyM.zero) := by
  unfold prepareF
  rw [if_neg (by simp [h1]), if_pos h2]
theorem prep_okF {p : PartM} {c : CmdM} (h : (prepareF p c).2.err = 0) : (findO p.done c.by_).2 = false ∧ (mineF p.cells c.by_ = true ∨ mineF p.cells c.by_ = false ∧ ¬ c.at_.wall ≤ p.closed ∧ lessB c.at_ p.floor = false ∧ heldFirst p.cells c.writes = none) := by
  cases h1 : (findO p.done c.by_).2
  · refine ⟨rfl, ?_⟩
    cases h2 : mineF p.cells c.by_
    · right
      unfold prepareF at h
      rw [if_neg (by simp [h1]), if_neg (by simp [h2])] at h
      by_cases h3 : c.at_.wall ≤ p.closed
      · rw [if_pos h3] at h
        cases h
      · rw [if_neg h3] at h
        cases h4 : lessB c.at_ p.floor
        · rw [if_neg (by simp [h4])] at h
          cases h5 : heldFirst p.cells c.writes with
          | some l => rw [h5] at h; cases h
          | none => exact ⟨rfl, h3, rfl, rfl⟩
        · rw [if_pos h4] at h
          cases h
    · exact .inl rfl
  · unfold prepareF at h
    rw [if_pos h1] at h
    cases h
theorem lease_ok {p : PartM} {c : CmdM} (h : 0 ≤ p.epoch ∧ p.epoch ≤ 1000) : leaseOk p c = decide (c.epoch = p.epoch + 1) := by
  unfold leaseOk
  by_cases h1 : c.epoch = p.epoch + 1
  · simp [h1]; omega
  · simp [h1]
theorem doesK {p : PartM} {c : CmdM} (k : Int) (hk : c.kind = k) : doesF p c = if k = 2 then readF p c else if k = 3 then prepareF p c else if k = 4 then decideF p c else if k = 5 then settleF p c else if k = 6 then closeF p c else if k = 7 then trimPF p c else (p, repErr 9) := by
  subst hk
  rfl
theorem does2 {p : PartM} {c : CmdM} (hk : c.kind = 2) : doesF p c = readF p c := doesK 2 hk
theorem does3 {p : PartM} {c : CmdM} (hk : c.kind = 3) : doesF p c = prepareF p c := doesK 3 hk
theorem does4 {p : PartM} {c : CmdM} (hk : c.kind = 4) : doesF p c = decideF p c := doesK 4 hk
theorem does5 {p : PartM} {c : CmdM} (hk : c.kind = 5) : doesF p c = settleF p c := doesK 5 hk
theorem does6 {p : PartM} {c : CmdM} (hk : c.kind = 6) : doesF p c = closeF p c := doesK 6 hk
theorem does7 {p : PartM} {c : CmdM} (hk : c.kind = 7) : doesF p c = trimPF p c := doesK 7 hk
theorem does0 {p : PartM} {c : CmdM} (h2 : c.kind ≠ 2) (h3 : c.kind ≠ 3) (h4 : c.kind ≠ 4) (h5 : c.kind ≠ 5) (h6 : c.kind ≠ 6) (h7 : c.kind ≠ 7) : doesF p c = (p, repErr 9) := by
  unfold doesF
  rw [if_neg h2, if_neg h3, if_neg h4, if_neg h5, if_neg h6, if_neg h7]
/-- What goes well once goes well again, and turns nothing. -/
theorem does_again {p : PartM} {c : CmdM} (hg : Good p.cells) (h : (doesF p c).2.err = 0) : (doesF (doesF p c).1 c).1 = (doesF p c).1 ∧ (doesF (doesF p c).1 c).2.err = 0 ∧ (doesF p c).1.epoch = p.epoch := by
  by_cases h2 : c.kind = 2
  · rw [does2 h2] at h
    obtain ⟨a, b, d⟩ := read_ok h
    have e1 := readF_of a b d
    have e2 := readF_of (p := { p with floor := maxS p.floor c.at_ }) (c := c) a b d
    simp only [does2 h2, e1, e2, maxS_self]
    exact ⟨by first | rfl | trivial, by first | rfl | trivial, by first | rfl | trivial⟩
  by_cases h3 : c.kind = 3
  · rw [does3 h3] at h
    obtain ⟨a, b⟩ := prep_okF h
    rcases b with b | ⟨b, d, e, f⟩
    · have e1 := prepF_mine a b
      simp only [does3 h3, e1]
      exact ⟨by first | rfl | trivial, by first | rfl | trivial, by first | rfl | trivial⟩
    · have e1 := prepF_of a b d e f
      simp only [does3 h3, e1]
      by_cases hw : c.writes = []
      · have e0 : lockAll c p.cells c.writes = p.cells := by rw [hw]; rfl
        have e2 := prepF_of a b d e f
        rw [e0] at e2 ⊢
        rw [e2]
        exact ⟨by first | rfl | trivial, by first | rfl | trivial, by first | rfl | trivial⟩
      · have e2 := prepF_mine (p := { p with cells := lockAll c p.cells c.writes }) (c := c) a (mine_all hg hw)
        rw [e2]
        exact ⟨by first | rfl | trivial, by first | rfl | trivial, by first | rfl | trivial⟩
  by_cases h4 : c.kind = 4
  · simp only [does4 h4]
    unfold decideF
    by_cases hf : (findO p.recs c.by_).2 = true
    · simp only [if_pos hf]
      exact ⟨by first | rfl | trivial, by first | rfl | trivial, by first | rfl | trivial⟩
    · simp only [if_neg hf]
      rw [if_pos (by rw [findO_app (b := c.by_) (newO c) (by simpa using hf) rfl])]
      exact ⟨by first | rfl | trivial, by first | rfl | trivial, by first | rfl | trivial⟩
  by_cases h5 : c.kind = 5
  · simp only [does5 h5]
    unfold settleF
    dsimp only
    refine ⟨?_, rfl, rfl⟩
    rw [setl_again]
    by_cases hf : (findO p.done c.by_).2 = true
    · simp [hf]
    · simp only [if_neg hf]
      rw [if_pos (by rw [findO_app (b := c.by_) (newO c) (by simpa using hf) rfl])]
  by_cases h6 : c.kind = 6
  · simp only [does6 h6]
    unfold closeF
    dsimp only
    refine ⟨?_, rfl, rfl⟩
    rw [show max (max p.closed (min c.wall 4611686018427387904)) (min c.wall 4611686018427387904) = max p.closed (min c.wall 4611686018427387904) by omega]
  by_cases h7 : c.kind = 7
  · simp only [does7 h7]
    unfold trimPF lowF
    dsimp only
    refine ⟨?_, rfl, rfl⟩
    rw [show max (max p.low (min c.wall p.closed)) (min c.wall p.closed) = max p.low (min c.wall p.closed) by omega, trim_twice]
  rw [does0 h2 h3 h4 h5 h6 h7] at h
  cases h
/-- PartOnce, plain. -/
theorem once_plain {p : PartM} {c : CmdM} (hg : Good p.cells) (hk : c.kind ≠ 1) (he : c.epoch = p.epoch) :
    (applyF (applyF p c).1 c).1 = (applyF p c).1 ∧ (applyF (applyF p c).1 c).2.err = (applyF p c).2.err := by
  by_cases h : (applyF p c).2.err = 0
  · by_cases hp : p.epoch = 0
    · rw [apply_elder hk (.inl hp)] at h
      cases h
    · have e := apply_does hk hp he
      have hd : (doesF p c).2.err = 0 := by
        rw [e] at h
        split at h
        · exact h
        · rename_i h1; exact absurd h h1
      rw [if_pos hd] at e
      obtain ⟨h1, h2, h3⟩ := does_again hg hd
      rw [e, apply_does hk (by rw [h3]; exact hp) (by rw [h3]; exact he), if_pos h2]
      exact ⟨h1, by rw [h2, hd]⟩
  · have := apply_err h
    rw [this]
    exact ⟨this, rfl⟩
theorem once_lease {p : PartM} {c : CmdM} (hp : 0 ≤ p.epoch ∧ p.epoch ≤ 900) (hk : c.kind = 1) (he : c.epoch = p.epoch + 1) :
    (applyF p c).2.err = 0 ∧ (applyF (applyF p c).1 c).2.err = 25 ∧ (applyF (applyF p c).1 c).1 = (applyF p c).1 := by
  have e1 : applyF p c = ({ p with epoch := c.epoch, holder := c.node }, ReplyM.zero) := by
    rw [apply_lease hk]
    unfold leaseF
    rw [lease_ok (by omega), he]
    simp
  rw [e1]
  rw [apply_lease hk]
  unfold leaseF
  rw [lease_ok (by dsimp only; omega)]
  have hne : ¬ c.epoch = c.epoch + 1 := by omega
  simp [ReplyM.zero, repErr, hne]
/-- No command that has its epoch is told of another one. -/
theorem does_epoch (p : PartM) (c : CmdM) : (doesF p c).2.err ≠ 25 := by
  unfold doesF readF prepareF decideF settleF closeF trimPF
  have hscan : ∀ (l : List (List UInt8 × List UInt8)) (acc : List (List UInt8 × List UInt8)), (scanAll p.cells c.at_ l acc).2 = 0 ∨ (scanAll p.cells c.at_ l acc).2 = 3 := by
    intro l
    induction l with
    | nil => intro acc; exact .inl rfl
    | cons s l ih =>
      intro acc
      unfold scanAll
      split
      · exact ih _
      · rename_i h
        right
        unfold scanF at h ⊢
        split at h
        · rename_i h1; simp [h1]
        · exact absurd rfl h
  have hs := hscan c.spans []
  repeat' split
  all_goals simp only [ReplyM.zero, lockedR, repErr]
  all_goals omega
/-- PartEpochs, plain. -/
theorem epochs_lease {p : PartM} {c : CmdM} (hp : 0 ≤ p.epoch ∧ p.epoch ≤ 900) (hk : c.kind = 1) :
    (c.epoch = p.epoch + 1 → (applyF p c).2.err = 0 ∧ (applyF p c).1.epoch = c.epoch ∧ (applyF p c).1.holder = c.node) ∧ (c.epoch ≠ p.epoch + 1 → (applyF p c).2.err = 25 ∧ (applyF p c).1 = p) := by
  rw [apply_lease hk]
  unfold leaseF
  rw [lease_ok (by omega)]
  refine ⟨fun h => ?_, fun h => ?_⟩
  · simp [h, ReplyM.zero]
  · simp [h, repErr]
theorem epochs_else {p : PartM} {c : CmdM} (hk : c.kind ≠ 1) :
    ((p.epoch = 0 ∨ c.epoch ≠ p.epoch) → (applyF p c).2.err = 25 ∧ (applyF p c).1 = p) ∧ (¬ (p.epoch = 0 ∨ c.epoch ≠ p.epoch) → (applyF p c).2.err ≠ 25) := by
  refine ⟨fun h => ?_, fun h => ?_⟩
  · rw [apply_elder hk h]
    exact ⟨rfl, rfl⟩
  · rw [apply_does hk (fun e => h (.inl e)) (by by_cases h1 : c.epoch = p.epoch; exact h1; exact absurd (.inr h1) h)]
    split
    · exact does_epoch p c
    · exact does_epoch p c
/-- A Prepare of one write. -/
def prep1 (p : PartM) (b : TryT) (a : St) (x : Wr) : CmdM := ⟨3, p.epoch, 0, 0, b, a, 0, false, [], [x]⟩
theorem stops_plain {p : PartM} (hp : p.epoch ≠ 0) (b : TryT) (a : St) (x : Wr) :
    (applyF p (prep1 p b a x)).2 = if (findO p.done b).2 then { ReplyM.zero with err := 26, yes := (findO p.done b).1.yes } else if mineF p.cells b then ReplyM.zero else if a.wall ≤ p.closed then { ReplyM.zero with err := 21, wall := p.closed }
      else if lessB a p.floor then { ReplyM.zero with err := 22, at_ := p.floor } else if (heldF p.cells x.key).2 then lockedR (heldF p.cells x.key).1 else ReplyM.zero := by
  have e : doesF p (prep1 p b a x) = prepareF p (prep1 p b a x) := does3 rfl
  rw [apply_does (by simp [prep1]) hp rfl, e]
  have key : (if (prepareF p (prep1 p b a x)).2.err = 0 then prepareF p (prep1 p b a x) else (p, (prepareF p (prep1 p b a x)).2)).2 = (prepareF p (prep1 p b a x)).2 := by split <;> rfl
  rw [key]
  unfold prepareF
  show Prod.snd (if (findO p.done b).2 = true then _ else if mineF p.cells b = true then _ else if a.wall ≤ p.closed then _ else if lessB a p.floor = true then _ else _) = _
  split
  · rfl
  · split
    · rfl
    · split
      · rfl
      · split
        · rfl
        · have hh : heldFirst p.cells (prep1 p b a x).writes = if (heldF p.cells x.key).2 = true then some (heldF p.cells x.key).1 else none := rfl
          rw [hh]
          by_cases h : (heldF p.cells x.key).2 = true
          · rw [if_pos h, if_pos h]
          · rw [if_neg h, if_neg h]
/-- The settling of an attempt. -/
def setl1 (p : PartM) (b : TryT) (yes : Bool) : CmdM := ⟨5, p.epoch, 0, 0, b, ⟨0, 0⟩, 0, yes, [], []⟩
theorem held_gone {cs : List Cel} (h : Good cs) (w : Wr) (l : Lck) (hm : mineF cs l.by_ = false) (yes : Bool) : (heldF (setlF (lockF cs w.key (lockW w l)) l.by_ yes) w.key).2 = false := by
  cases hh : (heldF (setlF (lockF cs w.key (lockW w l)) l.by_ yes) w.key).2
  · rfl
  · obtain ⟨c, hc, h1, h2, h3⟩ := held_is (l := (heldF (setlF (lockF cs w.key (lockW w l)) l.by_ yes) w.key).1) (by rw [← hh])
    obtain ⟨A, o, Z, e1, e2, e3, e4, e5, e6, e7⟩ := lock_setl h w l hm yes
    rw [e6] at hc
    rcases List.mem_append.1 hc with hc | hc
    · exact absurd h1 (ltB_ne (e2 c hc))
    · rcases List.mem_append.1 hc with hc | hc
      · obtain ⟨_, hx⟩ := setlC_mem hc
        rw [e7, if_pos rfl] at hx
        subst hx
        cases h2
      · exact absurd h1.symm (ltB_ne (e3 c hc))
/-- PartSettled, plain. -/
theorem settled_plain {p : PartM} (hg : Good p.cells) (b : TryT) (a : St) (x : Wr) (yes : Bool) (hm : mineF p.cells b = false) (h : (applyF p (prep1 p b a x)).2.err = 0) :
    (applyF (applyF p (prep1 p b a x)).1 (setl1 p b yes)).1.cells = setlF (lockF p.cells x.key (lockW x ⟨b, 0, a, false, []⟩)) b yes := by
  by_cases hp : p.epoch = 0
  · rw [apply_elder (by simp [prep1]) (.inl hp)] at h
    cases h
  · have e := apply_does (p := p) (c := prep1 p b a x) (by simp [prep1]) hp rfl
    have hs := apply_step p (prep1 p b a x)
    have h2 : (applyF p (prep1 p b a x)).1 = { p with cells := lockAll (prep1 p b a x) p.cells [x] } := by
      have e2 : doesF p (prep1 p b a x) = prepareF p (prep1 p b a x) := does3 rfl
      rw [e2] at e
      have h3 : (prepareF p (prep1 p b a x)).2.err = 0 := by
        rw [e] at h
        split at h
        · exact h
        · rename_i h1; exact absurd h h1
      rw [if_pos h3] at e
      obtain ⟨k1, k2⟩ := prep_okF h3
      rcases k2 with k2 | ⟨k2, k3, k4, k5⟩
      · have : mineF p.cells b = true := k2
        rw [hm] at this
        cases this
      · rw [e, prepF_of k1 k2 k3 k4 k5]
        rfl
    rw [h2]
    rw [apply_does (by simp [setl1]) (by exact hp) rfl]
    rfl
end Go.Proofs.Ytoldelocfmpccaa
