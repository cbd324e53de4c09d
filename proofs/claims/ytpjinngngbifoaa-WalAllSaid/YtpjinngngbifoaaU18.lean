/-
  Words, plain models, laws and walks that the claims of this layer share (joined by shake.py). No condition.
-/
import Derived.Test.YtpjinngngbifoaaU1
import Derived.Test.YtpjinngngbifoaaU2
import Derived.Test.YtpjinngngbifoaaU3
import Derived.Test.YtpjinngngbifoaaU4
import Derived.Test.YtpjinngngbifoaaU5
import Derived.Test.YtpjinngngbifoaaU6
import Derived.Test.YtpjinngngbifoaaU7
import Derived.Test.YtpjinngngbifoaaU8
import Derived.Test.YtpjinngngbifoaaU9
import Derived.Test.YtpjinngngbifoaaU10
import Derived.Test.YtpjinngngbifoaaU11
import Derived.Test.YtpjinngngbifoaaU12
import Derived.Test.YtpjinngngbifoaaU13
import Derived.Test.YtpjinngngbifoaaU14
import Derived.Test.YtpjinngngbifoaaU15
import Derived.Test.YtpjinngngbifoaaU16
import Derived.Test.YtpjinngngbifoaaU17
set_option linter.unusedSimpArgs false
set_option linter.unusedVariables false
namespace Go.Proofs.Ytpjinngngbifoaa
open Go.RowKit
def F01 (f : Int) : Prop := f = 0 ∨ f = 1
theorem file_put {d : DiskM} {f f' : Int} (x : FileM) (hf : F01 f) (hf' : F01 f') (h : f' ≠ f) : (d.put f x).file f' = d.file f' := by
  rcases hf with rfl | rfl <;> rcases hf' with rfl | rfl <;> first | rfl | exact absurd rfl h
/-- A step that was done. -/
structure Did (d d' : DiskM) (f : Int) (x : FileM) : Prop where
  file : d'.file f = x
  other : ∀ f', F01 f' → f' ≠ f → d'.file f' = d.file f'
  off : d'.off = d.off
  lives : d'.lives = d.lives
  armed : (d.armed < 0 → d'.armed = d.armed) ∧ -1 ≤ d'.armed ∧ d'.armed ≤ 9223372036854775807
  steps : d'.steps = d.steps + 1
theorem step_cases (d : DiskM) {f : Int} (x : FileM) (hf : F01 f) (ha : -1 ≤ d.armed ∧ d.armed ≤ 9223372036854775807) : (d.step f x = (6, { d with off := true }) ∧ d.armed = 0) ∨ ∃ d', d.step f x = (0, d') ∧ Did d d' f x := by
  unfold DiskM.step
  split
  · rename_i h; exact Or.inl ⟨rfl, h⟩
  · rename_i h
    have hA : -1 ≤ (if 0 < d.armed then d.armed - 1 else d.armed) ∧ (if 0 < d.armed then d.armed - 1 else d.armed) ≤ 9223372036854775807 := by split <;> omega
    refine Or.inr ⟨_, rfl, ⟨DiskM.put_file d x hf, fun f' h1 h2 => file_put x hf h1 h2, ?_, ?_, ⟨fun hn => ?_, hA⟩, ?_⟩⟩
    · show (d.put f x).off = d.off; unfold DiskM.put; split <;> rfl
    · show (d.put f x).lives = d.lives; unfold DiskM.put; split <;> rfl
    · show (if 0 < d.armed then d.armed - 1 else d.armed) = d.armed; rw [if_neg (by omega)]
    · rfl
theorem may_live {d : DiskM} {f : Int} (ho : d.off = false) (hf : F01 f) : d.may f = 0 := by
  unfold DiskM.may; rw [ho, if_neg (by simp)]; exact if_pos hf
theorem append_cases {d : DiskM} {f : Int} (b : List UInt8) (ho : d.off = false) (hf : F01 f) (ha : -1 ≤ d.armed ∧ d.armed ≤ 9223372036854775807) :
    (d.append f b = (6, { d with off := true }) ∧ d.armed = 0) ∨ ∃ d', d.append f b = (0, d') ∧ Did d d' f ⟨(d.file f).b ++ b, (d.file f).last⟩ := by
  unfold DiskM.append; rw [if_neg (by simp [may_live ho hf])]; exact step_cases d _ hf ha
theorem sync_cases {d : DiskM} {f : Int} (ho : d.off = false) (hf : F01 f) (ha : -1 ≤ d.armed ∧ d.armed ≤ 9223372036854775807) :
    (d.sync f = (6, { d with off := true }) ∧ d.armed = 0) ∨ ∃ d', d.sync f = (0, d') ∧ Did d d' f ⟨(d.file f).b, (d.file f).b.length⟩ := by
  unfold DiskM.sync; rw [if_neg (by simp [may_live ho hf])]; exact step_cases d _ hf ha
theorem clear_cases {d : DiskM} {f : Int} (ho : d.off = false) (hf : F01 f) (ha : -1 ≤ d.armed ∧ d.armed ≤ 9223372036854775807) :
    (d.clear f = (6, { d with off := true }) ∧ d.armed = 0) ∨ ∃ d', d.clear f = (0, d') ∧ Did d d' f ⟨[], 0⟩ := by
  unfold DiskM.clear; rw [if_neg (by simp [may_live ho hf])]; exact step_cases d _ hf ha
/-- However it is cut off, a look tells nothing of it, or an elder generation. -/
def Low (b : List UInt8) (g : Nat) : Prop := ∀ k, k ≤ b.length → ∃ m, LookF (b.take k) m ∧ ∀ x, m = some x → x.gen < g
theorem look_nil : LookF [] none := ⟨[], 0, ⟨.nil, by decide⟩, rfl⟩
theorem Low.nil (g : Nat) : Low [] g := fun k hk => ⟨none, by rw [List.take_nil]; exact look_nil, fun x h => by cases h⟩
theorem Low.mono {b : List UInt8} {g h : Nat} (hl : Low b g) (hh : g ≤ h) : Low b h := fun k hk => by
  obtain ⟨m, h1, h2⟩ := hl k hk
  exact ⟨m, h1, fun x hx => Nat.lt_of_lt_of_le (h2 x hx) hh⟩
theorem Low.cut {b : List UInt8} {g : Nat} (hl : Low b g) (n : Nat) : Low (b.take n) g := fun k hk => by
  rw [List.take_take, Nat.min_eq_left (by rw [List.length_take] at hk; omega)]
  exact hl k (by rw [List.length_take] at hk; omega)
theorem Low.file {g g' : Nat} (hg : 1 ≤ g' ∧ g' < 4611686018427387904) (h : g' < g) (rs more : List (List UInt8)) (hr : ∀ r ∈ rs, r.length ≤ 1048575) (hm : ∀ r ∈ more, r.length ≤ 1048575) : Low (fileW g' rs ++ recsF (more.map (82 :: ·))) g := fun k hk => by
  obtain ⟨m, h1, h2⟩ := cutLook hg rs more hr hm k hk
  refine ⟨m, h1, fun x hx => ?_⟩
  subst hx
  cases h2 with
  | whole j h3 h4 h5 => exact h
theorem Low.whole {b : List UInt8} {g : Nat} (h : Low b g) : ∃ m, LookF b m ∧ ∀ x, m = some x → x.gen < g := by
  have := h b.length (Nat.le_refl _)
  rwa [List.take_length] at this
/-- A file that was written but not let last: cut off anywhere it is none, or all there. -/
theorem cut_whole {g : Nat} (hg : 1 ≤ g ∧ g < 4611686018427387904) (rs : List (List UInt8)) (hr : ∀ r ∈ rs, r.length ≤ 1048575) (k : Nat) (hk : k ≤ (fileW g rs).length) :
    LookF ((fileW g rs).take k) none ∨ k = (fileW g rs).length ∧ LookF ((fileW g rs).take k) (some ⟨g, rs, false⟩) := by
  have e : fileW g rs ++ recsF (([] : List (List UInt8)).map (82 :: ·)) = fileW g rs := by simp [recsF]
  obtain ⟨m, h1, h2⟩ := cutLook hg rs [] hr (by simp) k (by rw [e]; exact hk)
  rw [e] at h1
  cases h2 with
  | part h => exact Or.inl h1
  | whole j h3 h4 h5 =>
    have hj : j = 0 := by simpa using h3
    subst hj
    rw [List.take_zero, e] at h1
    rw [List.take_zero, e] at h4
    have hk' : k = (fileW g rs).length := by omega
    refine Or.inr ⟨hk', ?_⟩
    rw [List.append_nil, decide_eq_false (by omega)] at h1
    exact h1
def Small (l : List (List UInt8)) : Prop := ∀ r ∈ l, r.length ≤ 1048575
structure Good (d : DiskM) (f : Int) (g : Nat) (rs more : List (List UInt8)) : Prop where
  f01 : F01 f
  b : (d.file f).b = fileW g rs ++ recsF (more.map (82 :: ·))
  last : (fileW g rs).length ≤ (d.file f).last ∧ (d.file f).last ≤ (d.file f).b.length
  gen : 1 ≤ g ∧ g < 4611686018427387904
  rs : Small rs
  more : Small more
  low : Low (d.file (1 - f)).b g
  low2 : (d.file (1 - f)).last ≤ (d.file (1 - f)).b.length
theorem F01.other {f : Int} (h : F01 f) : F01 (1 - f) ∧ 1 - f ≠ f ∧ 1 - (1 - f) = f := by
  rcases h with rfl | rfl
  · exact ⟨Or.inr rfl, by decide, rfl⟩
  · exact ⟨Or.inl rfl, by decide, rfl⟩
theorem other_eq {l : WalM} (h : F01 l.f) : l.other = 1 - l.f := by
  unfold WalM.other
  rcases h with h | h <;> rw [h] <;> rfl
/-- An append that was done. -/
theorem Good.app {d d' : DiskM} {f : Int} {g : Nat} {rs more : List (List UInt8)} {r : List UInt8} (h : Good d f g rs more) (hr : r.length ≤ 1048575) (hd : Did d d' f ⟨(d.file f).b ++ recF (82 :: r), (d.file f).last⟩) : Good d' f g rs (more ++ [r]) := by
  obtain ⟨o1, o2, o3⟩ := h.f01.other
  have hb : (d'.file f).b = (d.file f).b ++ recF (82 :: r) := by rw [hd.file]
  have hl : (d'.file f).last = (d.file f).last := by rw [hd.file]
  have ho := hd.other (1 - f) o1 o2
  refine ⟨h.f01, ?_, ?_, h.gen, h.rs, ?_, by rw [ho]; exact h.low, by rw [ho]; exact h.low2⟩
  · rw [hb, h.b, List.map_append, recsF_app, List.append_assoc]; simp [recsF]
  · rw [hl, hb, List.length_append]; have := h.last; omega
  · intro x hx
    rcases List.mem_append.1 hx with hx | hx
    · exact h.more x hx
    · rw [List.mem_singleton.1 hx]; exact hr
theorem Good.syn {d d' : DiskM} {f : Int} {g : Nat} {rs more : List (List UInt8)} (h : Good d f g rs more) (hd : Did d d' f ⟨(d.file f).b, (d.file f).b.length⟩) : Good d' f g rs more ∧ (d'.file f).last = (d'.file f).b.length := by
  obtain ⟨o1, o2, o3⟩ := h.f01.other
  have hb : (d'.file f).b = (d.file f).b := by rw [hd.file]
  have hl : (d'.file f).last = (d.file f).b.length := by rw [hd.file]
  have ho := hd.other (1 - f) o1 o2
  have := h.last
  exact ⟨⟨h.f01, by rw [hb, h.b], by rw [hl, hb]; omega, h.gen, h.rs, h.more, by rw [ho]; exact h.low, by rw [ho]; exact h.low2⟩, by rw [hl, hb]⟩
/-- The other file, cleared, written, let last: a new log. -/
theorem Good.next {d d1 d2 d3 : DiskM} {f : Int} {g : Nat} {rs : List (List UInt8)} (hf : F01 f) (hg : 1 ≤ g ∧ g < 4611686018427387904) (hr : Small rs) (hlow : Low (d.file f).b g) (hlow2 : (d.file f).last ≤ (d.file f).b.length)
    (h1 : Did d d1 (1 - f) ⟨[], 0⟩) (h2 : Did d1 d2 (1 - f) ⟨(d1.file (1 - f)).b ++ fileW g rs, (d1.file (1 - f)).last⟩) (h3 : Did d2 d3 (1 - f) ⟨(d2.file (1 - f)).b, (d2.file (1 - f)).b.length⟩) :
    Good d3 (1 - f) g rs [] ∧ (d3.file (1 - f)).last = (d3.file (1 - f)).b.length := by
  obtain ⟨o1, o2, o3⟩ := hf.other
  have hb : (d3.file (1 - f)).b = fileW g rs := by rw [h3.file]; show (d2.file (1 - f)).b = _; rw [h2.file]; show (d1.file (1 - f)).b ++ _ = _; rw [h1.file]; rfl
  have hl : (d3.file (1 - f)).last = (fileW g rs).length := by rw [h3.file]; show (d2.file (1 - f)).b.length = _; rw [h2.file]; show ((d1.file (1 - f)).b ++ _).length = _; rw [h1.file]; rfl
  have ho : d3.file f = d.file f := by rw [h3.other f hf (Ne.symm o2), h2.other f hf (Ne.symm o2), h1.other f hf (Ne.symm o2)]
  refine ⟨⟨o1, by rw [hb]; simp [recsF], by rw [hl, hb]; omega, hg, hr, fun x h => (by cases h), by rw [o3, ho]; exact hlow, by rw [o3, ho]; exact hlow2⟩, by rw [hl, hb]⟩
def Alive (d : DiskM) (l : WalM) : Prop := d.off = false ∧ l.done = false ∧ d.lives = l.lives ∧ -1 ≤ d.armed ∧ d.armed ≤ 9223372036854775807
theorem Alive.over {d : DiskM} {l : WalM} (h : Alive d l) : l.over d = false := by
  unfold WalM.over; rw [h.2.1, h.2.2.1]; simp
theorem Alive.did {d d' : DiskM} {l l' : WalM} {f : Int} {x : FileM} (h : Alive d l) (hd : Did d d' f x) (h1 : l'.done = l.done) (h2 : l'.lives = l.lives) : Alive d' l' :=
  ⟨by rw [hd.off]; exact h.1, by rw [h1]; exact h.2.1, by rw [hd.lives, h2]; exact h.2.2.1, hd.armed.2⟩
theorem append_good {d : DiskM} {l : WalM} (r : List UInt8) (ha : Alive d l) (hf : F01 l.f) :
    (appendW d l r = (6, { d with off := true }, l.fails 6) ∧ d.armed = 0) ∨
    ∃ d', appendW d l r = (0, d', { l with count := l.count + 1, bytes := l.bytes + (9 + r.length) }) ∧ Did d d' l.f ⟨(d.file l.f).b ++ recF (82 :: r), (d.file l.f).last⟩ := by
  unfold appendW
  rw [if_neg (by simp [ha.over])]
  rcases append_cases (recF (82 :: r)) ha.1 hf ha.2.2.2 with ⟨h, h1⟩ | ⟨d', h, h1⟩
  · rw [h]; exact Or.inl ⟨rfl, h1⟩
  · rw [h]; exact Or.inr ⟨d', rfl, h1⟩
theorem sync_good {d : DiskM} {l : WalM} (ha : Alive d l) (hf : F01 l.f) :
    (syncW d l = (6, { d with off := true }, l.fails 6) ∧ d.armed = 0) ∨ ∃ d', syncW d l = (0, d', l) ∧ Did d d' l.f ⟨(d.file l.f).b, (d.file l.f).b.length⟩ := by
  unfold syncW
  rw [if_neg (by simp [ha.over])]
  rcases sync_cases ha.1 hf ha.2.2.2 with ⟨h, h1⟩ | ⟨d', h, h1⟩
  · rw [h]; exact Or.inl ⟨rfl, h1⟩
  · rw [h]; exact Or.inr ⟨d', by rw [show l.fails (0, d').1 = l from l.fails0], h1⟩
/-- What a rewrite that failed leaves. -/
structure Half (d d' : DiskM) (o : Int) (g : Nat) (rs : List (List UInt8)) : Prop where
  same : d'.file (1 - o) = d.file (1 - o)
  other : d'.file o = d.file o ∨ d'.file o = ⟨[], 0⟩ ∨ d'.file o = ⟨fileW g rs, 0⟩
  off : d'.off = true
  lives : d'.lives = d.lives
  steps : d'.steps ≤ d.steps + 3
  armed : 0 ≤ d.armed ∧ -1 ≤ d'.armed ∧ d'.armed ≤ 9223372036854775807
theorem off_file (d : DiskM) (f : Int) : ({ d with off := true } : DiskM).file f = d.file f := by unfold DiskM.file; split <;> rfl
theorem rewrite_good {d : DiskM} {l : WalM} (rs : List (List UInt8)) (ha : Alive d l) (hg : l.gen + 1 < 4611686018427387904) :
    (∃ d', rewriteW d l rs = (6, d', l.fails 6) ∧ Half d d' l.other (l.gen + 1) rs) ∨
    ∃ d1 d2 d3, rewriteW d l rs = (0, d3, { l with f := l.other, gen := l.gen + 1, count := rs.length, bytes := (fileW (l.gen + 1) rs).length }) ∧ Did d d1 l.other ⟨[], 0⟩ ∧
      Did d1 d2 l.other ⟨(d1.file l.other).b ++ fileW (l.gen + 1) rs, (d1.file l.other).last⟩ ∧ Did d2 d3 l.other ⟨(d2.file l.other).b, (d2.file l.other).b.length⟩ := by
  have ho : F01 l.other := l.other_may
  obtain ⟨o1, o2, o3⟩ := ho.other
  unfold rewriteW
  rw [if_neg (by simp [ha.over]), if_neg (by omega)]
  rcases clear_cases ha.1 ho ha.2.2.2 with ⟨h, h1⟩ | ⟨d1, h, h1⟩
  · rw [h]
    exact Or.inl ⟨_, rfl, ⟨off_file _ _, Or.inl (off_file _ _), rfl, rfl, by show d.steps ≤ _; omega, by omega, ha.2.2.2⟩⟩
  rw [h]
  dsimp only
  rw [if_neg (by simp)]
  have a1 := ha.did (l' := l) h1 rfl rfl
  rcases append_cases (fileW (l.gen + 1) rs) a1.1 ho a1.2.2.2 with ⟨k, k1⟩ | ⟨d2, k, k1⟩
  · rw [k]
    refine Or.inl ⟨_, rfl, ⟨by rw [off_file]; exact h1.other _ o1 o2, Or.inr (Or.inl (by rw [off_file]; exact h1.file)), rfl, h1.lives, by show d1.steps ≤ _; rw [h1.steps]; omega, ?_, a1.2.2.2⟩⟩
    rcases Int.lt_or_le d.armed 0 with hn | hn
    · have := h1.armed.1 hn; omega
    · exact hn
  rw [k]
  dsimp only
  rw [if_neg (by simp)]
  have a2 := a1.did (l' := l) k1 rfl rfl
  rcases sync_cases a2.1 ho a2.2.2.2 with ⟨q, q1⟩ | ⟨d3, q, q1⟩
  · rw [q]
    refine Or.inl ⟨_, rfl, ⟨by rw [off_file, k1.other _ o1 o2]; exact h1.other _ o1 o2, Or.inr (Or.inr (by rw [off_file, k1.file, h1.file]; rfl)), rfl, by show d2.lives = _; rw [k1.lives, h1.lives], by show d2.steps ≤ _; rw [k1.steps, h1.steps]; omega, ?_, a2.2.2.2⟩⟩
    rcases Int.lt_or_le d.armed 0 with hn | hn
    · have h2 := h1.armed.1 hn
      have := k1.armed.1 (by omega)
      omega
    · exact hn
  rw [q]
  exact Or.inr ⟨d1, d2, d3, by simp, h1, k1, q1⟩
end Go.Proofs.Ytpjinngngbifoaa
namespace Go.Proofs.Ytpjinngngbifoaa
open Go.RowKit
theorem power_file (d : DiskM) (keep : List Int) {f : Int} (hf : F01 f) : ∃ n, n ≤ (d.file f).b.length - (d.file f).last ∧ (d.power keep).file f = (d.file f).cut n := by
  have hk : ∀ i x, keepN keep i x ≤ x.b.length - x.last := fun i x => by unfold keepN; split <;> omega
  rcases hf with rfl | rfl
  · exact ⟨_, hk 0 d.f0, rfl⟩
  · exact ⟨_, hk 1 d.f1, rfl⟩
theorem pick_take {y : PickM} {x : LookM} (f : Int) (n : Nat) (h : y.f < 0 ∨ y.gen < x.gen) : y.look f (some x) n = ⟨f, x.gen, x.recs, n, x.spoil⟩ := if_pos h
theorem pick_keep {y : PickM} {x : LookM} (f : Int) (n : Nat) (h : ¬ (y.f < 0 ∨ y.gen < x.gen)) : y.look f (some x) n = y := if_neg h
theorem pick_low {d : DiskM} {m0 m1 mo : Option LookM} {x : LookM} {f : Int} (hf : F01 f) (hx : 1 ≤ x.gen) (hm : (if f = 0 then m0 else m1) = some x) (ho : (if f = 0 then m1 else m0) = mo) (hl : ∀ y, mo = some y → y.gen < x.gen) :
    pickK d m0 m1 2 = ⟨f, x.gen, x.recs, (d.file f).b.length, x.spoil⟩ := by
  show (pick0.look 0 m0 d.f0.b.length).look 1 m1 d.f1.b.length = _
  rcases hf with rfl | rfl
  · simp at hm ho
    subst hm ho
    have e : pick0.look 0 (some x) d.f0.b.length = ⟨0, x.gen, x.recs, d.f0.b.length, x.spoil⟩ := pick_take _ _ (Or.inl (by decide))
    rw [e]
    cases m1 with
    | none => rfl
    | some y =>
      have := hl y rfl
      exact pick_keep _ _ (by show ¬((0 : Int) < 0 ∨ x.gen < y.gen); omega)
  · simp at hm ho
    subst hm ho
    cases m0 with
    | none => exact pick_take _ _ (Or.inl (show (-1 : Int) < 0 by decide))
    | some y =>
      have := hl y rfl
      have e : pick0.look 0 (some y) d.f0.b.length = ⟨0, y.gen, y.recs, d.f0.b.length, y.spoil⟩ := pick_take _ _ (Or.inl (by decide))
      rw [e]
      exact pick_take _ _ (Or.inr this)
/-- What an opening is to leave. -/
structure Opened (d : DiskM) (l : WalM) (recs : List (List UInt8)) (n : Nat) : Prop where
  good : ∃ rs more, rs ++ more = recs ∧ Good d l.f l.gen rs more
  alive : Alive d l
  count : l.count = recs.length
  bytes : l.bytes = (d.file l.f).b.length
  gen : l.gen ≤ n
theorem Small.app {a b : List (List UInt8)} (ha : Small a) (hb : Small b) : Small (a ++ b) := fun r h => (List.mem_append.1 h).elim (ha r) (hb r)
/-- An opening with nothing armed. -/
theorem open_good {d : DiskM} {f : Int} {g : Nat} {rs more : List (List UInt8)} {m0 m1 mo : Option LookM} {sp : Bool} (h : LookF (d.file f).b (some ⟨g, rs ++ more, sp⟩)) (hf : F01 f) (hg : 1 ≤ g ∧ g + 1 < 4611686018427387904) (hrs : Small rs) (hmore : Small more)
    (hsp : sp = false → (d.file f).b = fileW g rs ++ recsF (more.map (82 :: ·)) ∧ (d.file f).last = (d.file f).b.length) (hlow : Low (d.file f).b (g + 1)) (hlast : (d.file f).last ≤ (d.file f).b.length) (hl2 : Low (d.file (1 - f)).b g) (hlast2 : (d.file (1 - f)).last ≤ (d.file (1 - f)).b.length)
    (hm : (if f = 0 then m0 else m1) = some ⟨g, rs ++ more, sp⟩) (ho : (if f = 0 then m1 else m0) = mo) (hmo : LookF (d.file (1 - f)).b mo) (hoff : d.off = false) (ha : d.armed < 0 ∧ -1 ≤ d.armed) :
    ∃ d' l', openW d m0 m1 = (0, d', some (l', rs ++ more)) ∧ Opened d' l' (rs ++ more) (g + 1) ∧ d'.armed < 0 ∧ d'.steps ≤ d.steps + 3 ∧ d'.lives = d.lives ∧ (sp = false → d' = d ∧ l'.f = f ∧ l'.gen = g) ∧
      (sp = true → l'.f = 1 - f ∧ l'.gen = g + 1 ∧ d'.file f = d.file f ∧ Good d' (1 - f) (g + 1) (rs ++ more) [] ∧ (d'.file (1 - f)).last = (d'.file (1 - f)).b.length) := by
  have hlo : ∀ y, mo = some y → y.gen < g := by
    obtain ⟨m', h1, h2⟩ := hl2.whole
    obtain rfl := h1.uniq hmo
    exact h2
  have hpk := pick_low (d := d) hf (x := ⟨g, rs ++ more, sp⟩) hg.1 hm ho hlo
  unfold openW
  rw [if_neg (by simp [hoff]), hpk]
  unfold openR
  dsimp only
  have hf0 : ¬ f < 0 := by rcases hf with rfl | rfl <;> decide
  cases sp with
  | false =>
    rw [if_neg (by simp [hf0])]
    obtain ⟨hb, hl⟩ := hsp rfl
    exact ⟨d, _, rfl, ⟨⟨rs, more, rfl, ⟨hf, hb, by show (fileW g rs).length ≤ (d.file f).last ∧ (d.file f).last ≤ (d.file f).b.length; rw [hl, hb, List.length_append]; omega, ⟨hg.1, by show g < _; omega⟩, hrs, hmore, hl2, hlast2⟩⟩, ⟨hoff, rfl, rfl, ha.2, by omega⟩, rfl, rfl, by show g ≤ _; omega⟩, ha.1, by omega, rfl, fun _ => ⟨rfl, rfl, rfl⟩, (fun h => by cases h)⟩
  | true =>
    rw [if_pos (Or.inr rfl)]
    have hal : Alive d (walOf d ⟨f, g, rs ++ more, (d.file f).b.length, true⟩) := ⟨hoff, rfl, rfl, ha.2, by omega⟩
    have hoe : (walOf d ⟨f, g, rs ++ more, (d.file f).b.length, true⟩).other = 1 - f := other_eq (l := walOf d ⟨f, g, rs ++ more, (d.file f).b.length, true⟩) hf
    rcases rewrite_good (rs ++ more) hal hg.2 with ⟨d', h1, h2⟩ | ⟨d1, d2, d3, h0, h1, h2, h3⟩
    · exact absurd h2.armed.1 (by omega)
    · rw [h0]
      rw [hoe] at h1 h2 h3
      have hn := Good.next hf ⟨by show 1 ≤ g + 1; omega, hg.2⟩ (hrs.app hmore) hlow hlast h1 h2 h3
      rw [if_neg (by simp)]
      have a1 := hal.did (l' := walOf d ⟨f, g, rs ++ more, (d.file f).b.length, true⟩) h1 rfl rfl
      have a2 := a1.did (l' := walOf d ⟨f, g, rs ++ more, (d.file f).b.length, true⟩) h2 rfl rfl
      have a3 := a2.did (l' := { walOf d ⟨f, g, rs ++ more, (d.file f).b.length, true⟩ with f := 1 - f, gen := g + 1, count := (rs ++ more).length, bytes := (fileW (g + 1) (rs ++ more)).length }) h3 rfl rfl
      have e1 := h1.armed.1 ha.1
      have e2 := h2.armed.1 (by omega)
      have e3 := h3.armed.1 (by omega)
      refine ⟨d3, _, rfl, ⟨⟨rs ++ more, [], by simp, ?_⟩, ?_, rfl, ?_, Nat.le_refl _⟩, by omega, by rw [h3.steps, h2.steps, h1.steps]; omega, by rw [h3.lives, h2.lives, h1.lives], (fun h => by cases h), fun _ => ⟨hoe, rfl, ?_, hn⟩⟩
      · rw [hoe]; exact hn.1
      · rw [hoe]; exact a3
      · show (fileW (g + 1) (rs ++ more)).length = _
        rw [hoe, hn.1.b]
        simp [recsF]
      · obtain ⟨o1, o2, o3⟩ := hf.other
        rw [h3.other f hf (Ne.symm o2), h2.other f hf (Ne.symm o2), h1.other f hf (Ne.symm o2)]
def Len (d : DiskM) (n : Nat) : Prop := ∀ f, F01 f → (d.file f).b.length ≤ n
theorem Len.mono {d : DiskM} {n m : Nat} (h : Len d n) (hm : n ≤ m) : Len d m := fun f hf => Nat.le_trans (h f hf) hm
theorem Did.len {d d' : DiskM} {f : Int} {x : FileM} {n : Nat} (hd : Did d d' f x) (hf : F01 f) (h : Len d n) (hx : x.b.length ≤ n) : Len d' n := fun f' hf' => by
  by_cases e : f' = f
  · subst e; rw [hd.file]; exact hx
  · rw [hd.other f' hf' e]; exact h f' hf'
theorem Len.power {d : DiskM} {n : Nat} (h : Len d n) (keep : List Int) : Len (d.power keep) n := fun f hf => by
  obtain ⟨k, h1, h2⟩ := power_file d keep hf
  rw [h2]
  simp only [FileM.cut, List.length_take]
  have := h f hf
  omega
theorem Len.f0 {d : DiskM} {n : Nat} (h : Len d n) : d.f0.b.length ≤ n := h 0 (Or.inl rfl)
theorem Len.f1 {d : DiskM} {n : Nat} (h : Len d n) : d.f1.b.length ≤ n := h 1 (Or.inr rfl)
theorem Len.arm {d : DiskM} {n : Nat} (h : Len d n) (k : Int) : Len (d.arm k) n := h
theorem recsR_split (more : List (List UInt8)) (j : Nat) : recsF (more.map (82 :: ·)) = recsF ((more.take j).map (82 :: ·)) ++ recsF ((more.drop j).map (82 :: ·)) := by
  rw [← recsF_app, ← List.map_append, List.take_append_drop]
theorem Good.power {d : DiskM} {f : Int} {g : Nat} {rs more : List (List UInt8)} (h : Good d f g rs more) (keep : List Int) :
    ∃ j sp, j ≤ more.length ∧ LookF ((d.power keep).file f).b (some ⟨g, rs ++ more.take j, sp⟩) ∧ (∀ i, i ≤ more.length → (fileW g rs ++ recsF ((more.take i).map (82 :: ·))).length ≤ (d.file f).last → i ≤ j) ∧
      (sp = false → ((d.power keep).file f).b = fileW g rs ++ recsF ((more.take j).map (82 :: ·))) ∧ ((d.power keep).file f).last = ((d.power keep).file f).b.length ∧ Low ((d.power keep).file f).b (g + 1) ∧
      Low ((d.power keep).file (1 - f)).b g ∧ ((d.power keep).file (1 - f)).last = ((d.power keep).file (1 - f)).b.length := by
  obtain ⟨o1, o2, o3⟩ := h.f01.other
  obtain ⟨n, hn, e⟩ := power_file d keep h.f01
  obtain ⟨n', hn', e'⟩ := power_file d keep o1
  rw [e, e']
  have hl := h.last
  have hl2 := h.low2
  obtain ⟨m, h1, h2⟩ := cutLook h.gen rs more h.rs h.more ((d.file f).last + n) (by rw [← h.b]; omega)
  rw [← h.b] at h1
  have low1 : Low (d.file f).b (g + 1) := by rw [h.b]; exact Low.file h.gen (by omega) rs more h.rs h.more
  cases h2 with
  | part hp => omega
  | whole j h3 h4 h5 =>
    refine ⟨j, _, h3, h1, fun i hi hil => h5 i hi (by omega), fun hsp => ?_, ?_, low1.cut _, h.low.cut _, ?_⟩
    · have hge := of_decide_eq_false hsp
      have hk : (d.file f).last + n = (fileW g rs ++ recsF ((more.take j).map (82 :: ·))).length := by omega
      simp only [FileM.cut]
      rw [h.b, recsR_split more j, ← List.append_assoc, hk, List.take_left]
    · simp only [FileM.cut, List.length_take]; omega
    · simp only [FileM.cut, List.length_take]; omega
theorem Good.reopen {d : DiskM} {f : Int} {g : Nat} {rs more : List (List UInt8)} (h : Good d f g rs more) (hg : g + 1 < 4611686018427387904) (keep : List Int) {m0 m1 : Option LookM} (h0 : LookF (d.power keep).f0.b m0) (h1 : LookF (d.power keep).f1.b m1) :
    ∃ j, j ≤ more.length ∧ (∀ i, i ≤ more.length → (fileW g rs ++ recsF ((more.take i).map (82 :: ·))).length ≤ (d.file f).last → i ≤ j) ∧
      ∃ d' l', openW (d.power keep) m0 m1 = (0, d', some (l', rs ++ more.take j)) ∧ Opened d' l' (rs ++ more.take j) (g + 1) ∧ d'.armed < 0 ∧ d'.steps ≤ d.steps + 3 ∧ d'.lives = d.lives + 1 := by
  obtain ⟨j, sp, hj, hlk, hmax, hsp, hlast, hlow, hlow2, hlast2⟩ := h.power keep
  refine ⟨j, hj, hmax, ?_⟩
  have key : ∀ mo, (if f = 0 then m0 else m1) = some ⟨g, rs ++ more.take j, sp⟩ → (if f = 0 then m1 else m0) = mo → LookF ((d.power keep).file (1 - f)).b mo →
      ∃ d' l', openW (d.power keep) m0 m1 = (0, d', some (l', rs ++ more.take j)) ∧ Opened d' l' (rs ++ more.take j) (g + 1) ∧ d'.armed < 0 ∧ d'.steps ≤ d.steps + 3 ∧ d'.lives = d.lives + 1 := by
    intro mo hm ho hmo
    obtain ⟨d', l', a1, a2, a3, a4, a5, -, -⟩ := open_good hlk h.f01 ⟨h.gen.1, hg⟩ h.rs (fun r hr => h.more r (List.mem_of_mem_take hr)) (fun e => ⟨hsp e, hlast⟩) hlow (Nat.le_of_eq hlast) hlow2 (Nat.le_of_eq hlast2) hm ho hmo rfl ⟨show (-1 : Int) < 0 by decide, Int.le_refl _⟩
    exact ⟨d', l', a1, a2, a3, a4, a5⟩
  rcases h.f01 with rfl | rfl
  · obtain rfl := h0.uniq hlk
    exact key m1 rfl rfl h1
  · obtain rfl := h1.uniq hlk
    exact key m0 rfl rfl h0
/-- All of it, if all was let last. -/
theorem Good.reopen_all {d : DiskM} {f : Int} {g : Nat} {rs more : List (List UInt8)} (h : Good d f g rs more) (hl : (d.file f).last = (d.file f).b.length) (hg : g + 1 < 4611686018427387904) (keep : List Int) {m0 m1 : Option LookM}
    (h0 : LookF (d.power keep).f0.b m0) (h1 : LookF (d.power keep).f1.b m1) :
    ∃ d' l', openW (d.power keep) m0 m1 = (0, d', some (l', rs ++ more)) ∧ Opened d' l' (rs ++ more) (g + 1) ∧ d'.armed < 0 ∧ d'.steps ≤ d.steps + 3 ∧ d'.lives = d.lives + 1 := by
  obtain ⟨j, hj, hmax, h2⟩ := h.reopen hg keep h0 h1
  have := hmax more.length (Nat.le_refl _) (by rw [List.take_length, hl, h.b]; exact Nat.le_refl _)
  obtain rfl : j = more.length := by omega
  rw [List.take_length] at h2
  exact h2
/-- A new disk's log. -/
theorem open_new : ∃ d' l', openW DiskM.new none none = (0, d', some (l', [])) ∧ Good d' l'.f l'.gen [] [] ∧ Alive d' l' ∧ d'.armed < 0 ∧ d'.steps ≤ 3 ∧ d'.lives = 0 ∧ l'.gen = 1 ∧ l'.count = 0 ∧ l'.bytes = 26 ∧ Len d' 26 ∧ (d'.file l'.f).last = (d'.file l'.f).b.length := by
  unfold openW
  rw [if_neg (by decide)]
  have e : pickK DiskM.new none none 2 = pick0 := rfl
  rw [e]
  unfold openR
  rw [if_pos (Or.inl (by decide))]
  have hal : Alive DiskM.new (walOf DiskM.new pick0) := ⟨rfl, rfl, rfl, by decide, by decide⟩
  have hlow : Low ((DiskM.new).file 1).b 1 := Low.nil _
  rcases rewrite_good (l := walOf DiskM.new pick0) [] hal (by decide) with ⟨d', h1, h2⟩ | ⟨d1, d2, d3, h0, h1, h2, h3⟩
  · exact absurd h2.armed.1 (by decide)
  · have e2 : pick0.recs = [] := rfl
    rw [e2, h0, if_neg (by simp)]
    have hoe : (walOf DiskM.new pick0).other = 1 - 1 := rfl
    have hge : (walOf DiskM.new pick0).gen + 1 = 1 := rfl
    rw [hoe] at h1 h2 h3
    rw [hge] at h2
    have hn := Good.next (f := 1) (Or.inr rfl) ⟨Nat.le_refl _, by decide⟩ (fun r hr => (by cases hr)) hlow (by decide) h1 h2 h3
    have a1 := hal.did (l' := walOf DiskM.new pick0) h1 rfl rfl
    have a2 := a1.did (l' := walOf DiskM.new pick0) h2 rfl rfl
    have a3 := a2.did (l' := { walOf DiskM.new pick0 with f := 1 - 1, gen := 1, count := 0, bytes := 26 }) h3 rfl rfl
    have e1 := h1.armed.1 (by decide)
    have e2 := h2.armed.1 (by rw [e1]; decide)
    have e3 := h3.armed.1 (by rw [e2, e1]; decide)
    have hfl : (fileW 1 []).length = 26 := by rw [fileW_len]; rfl
    have hb1 : (d1.file (1 - 1)).b = [] := by rw [h1.file]
    have hl0 : Len DiskM.new 26 := fun f hf => by rcases hf with rfl | rfl <;> decide
    have hl1 := h1.len (Or.inl rfl) hl0 (by decide)
    have hl2 := h2.len (Or.inl rfl) hl1 (by show ((d1.file (1 - 1)).b ++ fileW 1 []).length ≤ 26; rw [hb1, List.nil_append, hfl]; omega)
    have hl3 := h3.len (Or.inl rfl) hl2 (hl2 _ (Or.inl rfl))
    refine ⟨d3, _, rfl, hn.1, a3, by rw [e3, e2, e1]; decide, by rw [h3.steps, h2.steps, h1.steps]; decide, by rw [h3.lives, h2.lives, h1.lives]; rfl, rfl, rfl, hfl, hl3, hn.2⟩
end Go.Proofs.Ytpjinngngbifoaa
