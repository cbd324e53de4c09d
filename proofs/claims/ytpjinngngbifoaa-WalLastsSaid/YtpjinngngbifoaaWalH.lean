/-
  Plain laws of the log: what an opening finds behind a failure of the power.
-/
import Derived.Test.YtpjinngngbifoaaWalG
set_option linter.unusedSimpArgs false
set_option linter.unusedVariables false
namespace Go.Proofs.Ytpjinngngbifoaa
open Go.RowKit

theorem power_file (d : DiskM) (keep : List Int) {f : Int} (hf : F01 f) : ∃ n, n ≤ (d.file f).b.length - (d.file f).last ∧ (d.power keep).file f = (d.file f).cut n := by
  have hk : ∀ i x, keepN keep i x ≤ x.b.length - x.last := fun i x => by unfold keepN; split <;> omega
  rcases hf with rfl | rfl
  · exact ⟨_, hk 0 d.f0, rfl⟩
  · exact ⟨_, hk 1 d.f1, rfl⟩
theorem power_alive (d : DiskM) (keep : List Int) : (d.power keep).off = false ∧ (d.power keep).armed = -1 ∧ (d.power keep).lives = d.lives + 1 ∧ (d.power keep).steps = d.steps := ⟨rfl, rfl, rfl, rfl⟩
theorem pick_take {y : PickM} {x : LookM} (f : Int) (n : Nat) (h : y.f < 0 ∨ y.gen < x.gen) : y.look f (some x) n = ⟨f, x.gen, x.recs, n, x.spoil⟩ := if_pos h
theorem pick_keep {y : PickM} {x : LookM} (f : Int) (n : Nat) (h : ¬ (y.f < 0 ∨ y.gen < x.gen)) : y.look f (some x) n = y := if_neg h
theorem pick_low {d : DiskM} {m0 m1 mo : Option LookM} {x : LookM} {f : Int} (hf : F01 f) (hx : 1 ≤ x.gen) (hm : (if f = 0 then m0 else m1) = some x) (ho : (if f = 0 then m1 else m0) = mo) (hl : ∀ y, mo = some y → y.gen < x.gen) :
    pickK d m0 m1 2 = ⟨f, x.gen, x.recs, (d.file f).b.length, x.spoil⟩ := by
  show (pick0.look 0 m0 d.f0.b.length).look 1 m1 d.f1.b.length = _
  rcases hf with rfl | rfl
  · simp at hm ho
    subst hm ho
    have e : pick0.look 0 (some x) d.f0.b.length = ⟨0, x.gen, x.recs, d.f0.b.length, x.spoil⟩ := pick_take _ _ (Or.inl (by decide))
    rw [e]
    cases m1 with
    | none => rfl
    | some y =>
      have := hl y rfl
      exact pick_keep _ _ (by show ¬((0 : Int) < 0 ∨ x.gen < y.gen); omega)
  · simp at hm ho
    subst hm ho
    cases m0 with
    | none => exact pick_take _ _ (Or.inl (show (-1 : Int) < 0 by decide))
    | some y =>
      have := hl y rfl
      have e : pick0.look 0 (some y) d.f0.b.length = ⟨0, y.gen, y.recs, d.f0.b.length, y.spoil⟩ := pick_take _ _ (Or.inl (by decide))
      rw [e]
      exact pick_take _ _ (Or.inr this)
/-- What an opening is to leave. -/
structure Opened (d : DiskM) (l : WalM) (recs : List (List UInt8)) (n : Nat) : Prop where
  good : ∃ rs more, rs ++ more = recs ∧ Good d l.f l.gen rs more
  alive : Alive d l
  count : l.count = recs.length
  bytes : l.bytes = (d.file l.f).b.length
  gen : l.gen ≤ n
theorem Small.app {a b : List (List UInt8)} (ha : Small a) (hb : Small b) : Small (a ++ b) := fun r h => (List.mem_append.1 h).elim (ha r) (hb r)
/-- An opening with nothing armed. -/
theorem open_good {d : DiskM} {f : Int} {g : Nat} {rs more : List (List UInt8)} {m0 m1 mo : Option LookM} {sp : Bool} (h : LookF (d.file f).b (some ⟨g, rs ++ more, sp⟩)) (hf : F01 f) (hg : 1 ≤ g ∧ g + 1 < 4611686018427387904) (hrs : Small rs) (hmore : Small more)
    (hsp : sp = false → (d.file f).b = fileW g rs ++ recsF (more.map (82 :: ·)) ∧ (d.file f).last = (d.file f).b.length) (hlow : Low (d.file f).b (g + 1)) (hlast : (d.file f).last ≤ (d.file f).b.length) (hl2 : Low (d.file (1 - f)).b g) (hlast2 : (d.file (1 - f)).last ≤ (d.file (1 - f)).b.length)
    (hm : (if f = 0 then m0 else m1) = some ⟨g, rs ++ more, sp⟩) (ho : (if f = 0 then m1 else m0) = mo) (hmo : LookF (d.file (1 - f)).b mo) (hoff : d.off = false) (ha : d.armed < 0 ∧ -1 ≤ d.armed) :
    ∃ d' l', openW d m0 m1 = (0, d', some (l', rs ++ more)) ∧ Opened d' l' (rs ++ more) (g + 1) ∧ d'.armed < 0 ∧ d'.steps ≤ d.steps + 3 ∧ d'.lives = d.lives ∧ (sp = false → d' = d ∧ l'.f = f ∧ l'.gen = g) ∧
      (sp = true → l'.f = 1 - f ∧ l'.gen = g + 1 ∧ d'.file f = d.file f ∧ Good d' (1 - f) (g + 1) (rs ++ more) [] ∧ (d'.file (1 - f)).last = (d'.file (1 - f)).b.length) := by
  have hlo : ∀ y, mo = some y → y.gen < g := by
    obtain ⟨m', h1, h2⟩ := hl2.whole
    obtain rfl := h1.uniq hmo
    exact h2
  have hpk := pick_low (d := d) hf (x := ⟨g, rs ++ more, sp⟩) hg.1 hm ho hlo
  unfold openW
  rw [if_neg (by simp [hoff]), hpk]
  unfold openR
  dsimp only
  have hf0 : ¬ f < 0 := by rcases hf with rfl | rfl <;> decide
  cases sp with
  | false =>
    rw [if_neg (by simp [hf0])]
    obtain ⟨hb, hl⟩ := hsp rfl
    exact ⟨d, _, rfl, ⟨⟨rs, more, rfl, ⟨hf, hb, by show (fileW g rs).length ≤ (d.file f).last ∧ (d.file f).last ≤ (d.file f).b.length; rw [hl, hb, List.length_append]; omega, ⟨hg.1, by show g < _; omega⟩, hrs, hmore, hl2, hlast2⟩⟩, ⟨hoff, rfl, rfl, ha.2, by omega⟩, rfl, rfl, by show g ≤ _; omega⟩, ha.1, by omega, rfl, fun _ => ⟨rfl, rfl, rfl⟩, (fun h => by cases h)⟩
  | true =>
    rw [if_pos (Or.inr rfl)]
    have hal : Alive d (walOf d ⟨f, g, rs ++ more, (d.file f).b.length, true⟩) := ⟨hoff, rfl, rfl, ha.2, by omega⟩
    have hoe : (walOf d ⟨f, g, rs ++ more, (d.file f).b.length, true⟩).other = 1 - f := other_eq (l := walOf d ⟨f, g, rs ++ more, (d.file f).b.length, true⟩) hf
    rcases rewrite_good (rs ++ more) hal hg.2 with ⟨d', h1, h2⟩ | ⟨d1, d2, d3, h0, h1, h2, h3⟩
    · exact absurd h2.armed.1 (by omega)
    · rw [h0]
      rw [hoe] at h1 h2 h3
      have hn := Good.next hf ⟨by show 1 ≤ g + 1; omega, hg.2⟩ (hrs.app hmore) hlow hlast h1 h2 h3
      rw [if_neg (by simp)]
      have a1 := hal.did (l' := walOf d ⟨f, g, rs ++ more, (d.file f).b.length, true⟩) h1 rfl rfl
      have a2 := a1.did (l' := walOf d ⟨f, g, rs ++ more, (d.file f).b.length, true⟩) h2 rfl rfl
      have a3 := a2.did (l' := { walOf d ⟨f, g, rs ++ more, (d.file f).b.length, true⟩ with f := 1 - f, gen := g + 1, count := (rs ++ more).length, bytes := (fileW (g + 1) (rs ++ more)).length }) h3 rfl rfl
      have e1 := h1.armed.1 ha.1
      have e2 := h2.armed.1 (by omega)
      have e3 := h3.armed.1 (by omega)
      refine ⟨d3, _, rfl, ⟨⟨rs ++ more, [], by simp, ?_⟩, ?_, rfl, ?_, Nat.le_refl _⟩, by omega, by rw [h3.steps, h2.steps, h1.steps]; omega, by rw [h3.lives, h2.lives, h1.lives], (fun h => by cases h), fun _ => ⟨hoe, rfl, ?_, hn⟩⟩
      · rw [hoe]; exact hn.1
      · rw [hoe]; exact a3
      · show (fileW (g + 1) (rs ++ more)).length = _
        rw [hoe, hn.1.b]
        simp [recsF]
      · obtain ⟨o1, o2, o3⟩ := hf.other
        rw [h3.other f hf (Ne.symm o2), h2.other f hf (Ne.symm o2), h1.other f hf (Ne.symm o2)]
/-! ### sizes -/
def Len (d : DiskM) (n : Nat) : Prop := ∀ f, F01 f → (d.file f).b.length ≤ n
theorem Len.mono {d : DiskM} {n m : Nat} (h : Len d n) (hm : n ≤ m) : Len d m := fun f hf => Nat.le_trans (h f hf) hm
theorem Did.len {d d' : DiskM} {f : Int} {x : FileM} {n : Nat} (hd : Did d d' f x) (hf : F01 f) (h : Len d n) (hx : x.b.length ≤ n) : Len d' n := fun f' hf' => by
  by_cases e : f' = f
  · subst e; rw [hd.file]; exact hx
  · rw [hd.other f' hf' e]; exact h f' hf'
theorem Len.power {d : DiskM} {n : Nat} (h : Len d n) (keep : List Int) : Len (d.power keep) n := fun f hf => by
  obtain ⟨k, h1, h2⟩ := power_file d keep hf
  rw [h2]
  simp only [FileM.cut, List.length_take]
  have := h f hf
  omega
theorem Len.f0 {d : DiskM} {n : Nat} (h : Len d n) : d.f0.b.length ≤ n := h 0 (Or.inl rfl)
theorem Len.f1 {d : DiskM} {n : Nat} (h : Len d n) : d.f1.b.length ≤ n := h 1 (Or.inr rfl)
theorem Len.arm {d : DiskM} {n : Nat} (h : Len d n) (k : Int) : Len (d.arm k) n := h
/-! ### behind a failure of the power -/
theorem recsR_split (more : List (List UInt8)) (j : Nat) : recsF (more.map (82 :: ·)) = recsF ((more.take j).map (82 :: ·)) ++ recsF ((more.drop j).map (82 :: ·)) := by
  rw [← recsF_app, ← List.map_append, List.take_append_drop]
theorem Good.power {d : DiskM} {f : Int} {g : Nat} {rs more : List (List UInt8)} (h : Good d f g rs more) (keep : List Int) :
    ∃ j sp, j ≤ more.length ∧ LookF ((d.power keep).file f).b (some ⟨g, rs ++ more.take j, sp⟩) ∧ (∀ i, i ≤ more.length → (fileW g rs ++ recsF ((more.take i).map (82 :: ·))).length ≤ (d.file f).last → i ≤ j) ∧
      (sp = false → ((d.power keep).file f).b = fileW g rs ++ recsF ((more.take j).map (82 :: ·))) ∧ ((d.power keep).file f).last = ((d.power keep).file f).b.length ∧ Low ((d.power keep).file f).b (g + 1) ∧
      Low ((d.power keep).file (1 - f)).b g ∧ ((d.power keep).file (1 - f)).last = ((d.power keep).file (1 - f)).b.length := by
  obtain ⟨o1, o2, o3⟩ := h.f01.other
  obtain ⟨n, hn, e⟩ := power_file d keep h.f01
  obtain ⟨n', hn', e'⟩ := power_file d keep o1
  rw [e, e']
  have hl := h.last
  have hl2 := h.low2
  obtain ⟨m, h1, h2⟩ := cutLook h.gen rs more h.rs h.more ((d.file f).last + n) (by rw [← h.b]; omega)
  rw [← h.b] at h1
  have low1 : Low (d.file f).b (g + 1) := by rw [h.b]; exact Low.file h.gen (by omega) rs more h.rs h.more
  cases h2 with
  | part hp => omega
  | whole j h3 h4 h5 =>
    refine ⟨j, _, h3, h1, fun i hi hil => h5 i hi (by omega), fun hsp => ?_, ?_, low1.cut _, h.low.cut _, ?_⟩
    · have hge := of_decide_eq_false hsp
      have hk : (d.file f).last + n = (fileW g rs ++ recsF ((more.take j).map (82 :: ·))).length := by omega
      simp only [FileM.cut]
      rw [h.b, recsR_split more j, ← List.append_assoc, hk, List.take_left]
    · simp only [FileM.cut, List.length_take]; omega
    · simp only [FileM.cut, List.length_take]; omega
theorem Good.reopen {d : DiskM} {f : Int} {g : Nat} {rs more : List (List UInt8)} (h : Good d f g rs more) (hg : g + 1 < 4611686018427387904) (keep : List Int) {m0 m1 : Option LookM} (h0 : LookF (d.power keep).f0.b m0) (h1 : LookF (d.power keep).f1.b m1) :
    ∃ j, j ≤ more.length ∧ (∀ i, i ≤ more.length → (fileW g rs ++ recsF ((more.take i).map (82 :: ·))).length ≤ (d.file f).last → i ≤ j) ∧
      ∃ d' l', openW (d.power keep) m0 m1 = (0, d', some (l', rs ++ more.take j)) ∧ Opened d' l' (rs ++ more.take j) (g + 1) ∧ d'.armed < 0 ∧ d'.steps ≤ d.steps + 3 ∧ d'.lives = d.lives + 1 := by
  obtain ⟨j, sp, hj, hlk, hmax, hsp, hlast, hlow, hlow2, hlast2⟩ := h.power keep
  refine ⟨j, hj, hmax, ?_⟩
  have key : ∀ mo, (if f = 0 then m0 else m1) = some ⟨g, rs ++ more.take j, sp⟩ → (if f = 0 then m1 else m0) = mo → LookF ((d.power keep).file (1 - f)).b mo →
      ∃ d' l', openW (d.power keep) m0 m1 = (0, d', some (l', rs ++ more.take j)) ∧ Opened d' l' (rs ++ more.take j) (g + 1) ∧ d'.armed < 0 ∧ d'.steps ≤ d.steps + 3 ∧ d'.lives = d.lives + 1 := by
    intro mo hm ho hmo
    obtain ⟨d', l', a1, a2, a3, a4, a5, -, -⟩ := open_good hlk h.f01 ⟨h.gen.1, hg⟩ h.rs (fun r hr => h.more r (List.mem_of_mem_take hr)) (fun e => ⟨hsp e, hlast⟩) hlow (Nat.le_of_eq hlast) hlow2 (Nat.le_of_eq hlast2) hm ho hmo rfl ⟨show (-1 : Int) < 0 by decide, Int.le_refl _⟩
    exact ⟨d', l', a1, a2, a3, a4, a5⟩
  rcases h.f01 with rfl | rfl
  · obtain rfl := h0.uniq hlk
    exact key m1 rfl rfl h1
  · obtain rfl := h1.uniq hlk
    exact key m0 rfl rfl h0
/-- All of it, if all was let last. -/
theorem Good.reopen_all {d : DiskM} {f : Int} {g : Nat} {rs more : List (List UInt8)} (h : Good d f g rs more) (hl : (d.file f).last = (d.file f).b.length) (hg : g + 1 < 4611686018427387904) (keep : List Int) {m0 m1 : Option LookM}
    (h0 : LookF (d.power keep).f0.b m0) (h1 : LookF (d.power keep).f1.b m1) :
    ∃ d' l', openW (d.power keep) m0 m1 = (0, d', some (l', rs ++ more)) ∧ Opened d' l' (rs ++ more) (g + 1) ∧ d'.armed < 0 ∧ d'.steps ≤ d.steps + 3 ∧ d'.lives = d.lives + 1 := by
  obtain ⟨j, hj, hmax, h2⟩ := h.reopen hg keep h0 h1
  have := hmax more.length (Nat.le_refl _) (by rw [List.take_length, hl, h.b]; exact Nat.le_refl _)
  obtain rfl : j = more.length := by omega
  rw [List.take_length] at h2
  exact h2
/-- A new disk's log. -/
theorem open_new : ∃ d' l', openW DiskM.new none none = (0, d', some (l', [])) ∧ Good d' l'.f l'.gen [] [] ∧ Alive d' l' ∧ d'.armed < 0 ∧ d'.steps ≤ 3 ∧ d'.lives = 0 ∧ l'.gen = 1 ∧ l'.count = 0 ∧ l'.bytes = 26 ∧ Len d' 26 ∧ (d'.file l'.f).last = (d'.file l'.f).b.length := by
  unfold openW
  rw [if_neg (by decide)]
  have e : pickK DiskM.new none none 2 = pick0 := rfl
  rw [e]
  unfold openR
  rw [if_pos (Or.inl (by decide))]
  have hal : Alive DiskM.new (walOf DiskM.new pick0) := ⟨rfl, rfl, rfl, by decide, by decide⟩
  have hlow : Low ((DiskM.new).file 1).b 1 := Low.nil _
  rcases rewrite_good (l := walOf DiskM.new pick0) [] hal (by decide) with ⟨d', h1, h2⟩ | ⟨d1, d2, d3, h0, h1, h2, h3⟩
  · exact absurd h2.armed.1 (by decide)
  · have e2 : pick0.recs = [] := rfl
    rw [e2, h0, if_neg (by simp)]
    have hoe : (walOf DiskM.new pick0).other = 1 - 1 := rfl
    have hge : (walOf DiskM.new pick0).gen + 1 = 1 := rfl
    rw [hoe] at h1 h2 h3
    rw [hge] at h2
    have hn := Good.next (f := 1) (Or.inr rfl) ⟨Nat.le_refl _, by decide⟩ (fun r hr => (by cases hr)) hlow (by decide) h1 h2 h3
    have a1 := hal.did (l' := walOf DiskM.new pick0) h1 rfl rfl
    have a2 := a1.did (l' := walOf DiskM.new pick0) h2 rfl rfl
    have a3 := a2.did (l' := { walOf DiskM.new pick0 with f := 1 - 1, gen := 1, count := 0, bytes := 26 }) h3 rfl rfl
    have e1 := h1.armed.1 (by decide)
    have e2 := h2.armed.1 (by rw [e1]; decide)
    have e3 := h3.armed.1 (by rw [e2, e1]; decide)
    have hfl : (fileW 1 []).length = 26 := by rw [fileW_len]; rfl
    have hb1 : (d1.file (1 - 1)).b = [] := by rw [h1.file]
    have hl0 : Len DiskM.new 26 := fun f hf => by rcases hf with rfl | rfl <;> decide
    have hl1 := h1.len (Or.inl rfl) hl0 (by decide)
    have hl2 := h2.len (Or.inl rfl) hl1 (by show ((d1.file (1 - 1)).b ++ fileW 1 []).length ≤ 26; rw [hb1, List.nil_append, hfl]; omega)
    have hl3 := h3.len (Or.inl rfl) hl2 (hl2 _ (Or.inl rfl))
    refine ⟨d3, _, rfl, hn.1, a3, by rw [e3, e2, e1]; decide, by rw [h3.steps, h2.steps, h1.steps]; decide, by rw [h3.lives, h2.lives, h1.lives]; rfl, rfl, rfl, hfl, hl3, hn.2⟩
end Go.Proofs.Ytpjinngngbifoaa
