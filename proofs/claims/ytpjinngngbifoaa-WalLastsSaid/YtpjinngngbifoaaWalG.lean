/-
  Plain laws of the log: what a log that is whole leaves on its disk, whatever fails.
-/
import Derived.Test.YtpjinngngbifoaaWalO
set_option linter.unusedSimpArgs false
set_option linter.unusedVariables false
namespace Go.Proofs.Ytpjinngngbifoaa
open Go.RowKit

def F01 (f : Int) : Prop := f = 0 ∨ f = 1
theorem file_put {d : DiskM} {f f' : Int} (x : FileM) (hf : F01 f) (hf' : F01 f') (h : f' ≠ f) : (d.put f x).file f' = d.file f' := by
  rcases hf with rfl | rfl <;> rcases hf' with rfl | rfl <;> first | rfl | exact absurd rfl h
/-- A step that was done. -/
structure Did (d d' : DiskM) (f : Int) (x : FileM) : Prop where
  file : d'.file f = x
  other : ∀ f', F01 f' → f' ≠ f → d'.file f' = d.file f'
  off : d'.off = d.off
  lives : d'.lives = d.lives
  armed : (d.armed < 0 → d'.armed = d.armed) ∧ -1 ≤ d'.armed ∧ d'.armed ≤ 9223372036854775807
  steps : d'.steps = d.steps + 1
theorem step_cases (d : DiskM) {f : Int} (x : FileM) (hf : F01 f) (ha : -1 ≤ d.armed ∧ d.armed ≤ 9223372036854775807) : (d.step f x = (6, { d with off := true }) ∧ d.armed = 0) ∨ ∃ d', d.step f x = (0, d') ∧ Did d d' f x := by
  unfold DiskM.step
  split
  · rename_i h; exact Or.inl ⟨rfl, h⟩
  · rename_i h
    have hA : -1 ≤ (if 0 < d.armed then d.armed - 1 else d.armed) ∧ (if 0 < d.armed then d.armed - 1 else d.armed) ≤ 9223372036854775807 := by split <;> omega
    refine Or.inr ⟨_, rfl, ⟨DiskM.put_file d x hf, fun f' h1 h2 => file_put x hf h1 h2, ?_, ?_, ⟨fun hn => ?_, hA⟩, ?_⟩⟩
    · show (d.put f x).off = d.off; unfold DiskM.put; split <;> rfl
    · show (d.put f x).lives = d.lives; unfold DiskM.put; split <;> rfl
    · show (if 0 < d.armed then d.armed - 1 else d.armed) = d.armed; rw [if_neg (by omega)]
    · rfl
theorem may_live {d : DiskM} {f : Int} (ho : d.off = false) (hf : F01 f) : d.may f = 0 := by
  unfold DiskM.may; rw [ho, if_neg (by simp)]; exact if_pos hf
theorem append_cases {d : DiskM} {f : Int} (b : List UInt8) (ho : d.off = false) (hf : F01 f) (ha : -1 ≤ d.armed ∧ d.armed ≤ 9223372036854775807) :
    (d.append f b = (6, { d with off := true }) ∧ d.armed = 0) ∨ ∃ d', d.append f b = (0, d') ∧ Did d d' f ⟨(d.file f).b ++ b, (d.file f).last⟩ := by
  unfold DiskM.append; rw [if_neg (by simp [may_live ho hf])]; exact step_cases d _ hf ha
theorem sync_cases {d : DiskM} {f : Int} (ho : d.off = false) (hf : F01 f) (ha : -1 ≤ d.armed ∧ d.armed ≤ 9223372036854775807) :
    (d.sync f = (6, { d with off := true }) ∧ d.armed = 0) ∨ ∃ d', d.sync f = (0, d') ∧ Did d d' f ⟨(d.file f).b, (d.file f).b.length⟩ := by
  unfold DiskM.sync; rw [if_neg (by simp [may_live ho hf])]; exact step_cases d _ hf ha
theorem clear_cases {d : DiskM} {f : Int} (ho : d.off = false) (hf : F01 f) (ha : -1 ≤ d.armed ∧ d.armed ≤ 9223372036854775807) :
    (d.clear f = (6, { d with off := true }) ∧ d.armed = 0) ∨ ∃ d', d.clear f = (0, d') ∧ Did d d' f ⟨[], 0⟩ := by
  unfold DiskM.clear; rw [if_neg (by simp [may_live ho hf])]; exact step_cases d _ hf ha

/-! ### a file that cannot win -/
/-- However it is cut off, a look tells nothing of it, or an elder generation. -/
def Low (b : List UInt8) (g : Nat) : Prop := ∀ k, k ≤ b.length → ∃ m, LookF (b.take k) m ∧ ∀ x, m = some x → x.gen < g
theorem look_nil : LookF [] none := ⟨[], 0, ⟨.nil, by decide⟩, rfl⟩
theorem Low.nil (g : Nat) : Low [] g := fun k hk => ⟨none, by rw [List.take_nil]; exact look_nil, fun x h => by cases h⟩
theorem Low.mono {b : List UInt8} {g h : Nat} (hl : Low b g) (hh : g ≤ h) : Low b h := fun k hk => by
  obtain ⟨m, h1, h2⟩ := hl k hk
  exact ⟨m, h1, fun x hx => Nat.lt_of_lt_of_le (h2 x hx) hh⟩
theorem Low.cut {b : List UInt8} {g : Nat} (hl : Low b g) (n : Nat) : Low (b.take n) g := fun k hk => by
  rw [List.take_take, Nat.min_eq_left (by rw [List.length_take] at hk; omega)]
  exact hl k (by rw [List.length_take] at hk; omega)
theorem Low.file {g g' : Nat} (hg : 1 ≤ g' ∧ g' < 4611686018427387904) (h : g' < g) (rs more : List (List UInt8)) (hr : ∀ r ∈ rs, r.length ≤ 1048575) (hm : ∀ r ∈ more, r.length ≤ 1048575) : Low (fileW g' rs ++ recsF (more.map (82 :: ·))) g := fun k hk => by
  obtain ⟨m, h1, h2⟩ := cutLook hg rs more hr hm k hk
  refine ⟨m, h1, fun x hx => ?_⟩
  subst hx
  cases h2 with
  | whole j h3 h4 h5 => exact h
theorem Low.whole {b : List UInt8} {g : Nat} (h : Low b g) : ∃ m, LookF b m ∧ ∀ x, m = some x → x.gen < g := by
  have := h b.length (Nat.le_refl _)
  rwa [List.take_length] at this
/-- A file that was written but not let last: cut off anywhere it is none, or all there. -/
theorem cut_whole {g : Nat} (hg : 1 ≤ g ∧ g < 4611686018427387904) (rs : List (List UInt8)) (hr : ∀ r ∈ rs, r.length ≤ 1048575) (k : Nat) (hk : k ≤ (fileW g rs).length) :
    LookF ((fileW g rs).take k) none ∨ k = (fileW g rs).length ∧ LookF ((fileW g rs).take k) (some ⟨g, rs, false⟩) := by
  have e : fileW g rs ++ recsF (([] : List (List UInt8)).map (82 :: ·)) = fileW g rs := by simp [recsF]
  obtain ⟨m, h1, h2⟩ := cutLook hg rs [] hr (by simp) k (by rw [e]; exact hk)
  rw [e] at h1
  cases h2 with
  | part h => exact Or.inl h1
  | whole j h3 h4 h5 =>
    have hj : j = 0 := by simpa using h3
    subst hj
    rw [List.take_zero, e] at h1
    rw [List.take_zero, e] at h4
    have hk' : k = (fileW g rs).length := by omega
    refine Or.inr ⟨hk', ?_⟩
    rw [List.append_nil, decide_eq_false (by omega)] at h1
    exact h1

/-! ### a log that is whole -/
def Small (l : List (List UInt8)) : Prop := ∀ r ∈ l, r.length ≤ 1048575
structure Good (d : DiskM) (f : Int) (g : Nat) (rs more : List (List UInt8)) : Prop where
  f01 : F01 f
  b : (d.file f).b = fileW g rs ++ recsF (more.map (82 :: ·))
  last : (fileW g rs).length ≤ (d.file f).last ∧ (d.file f).last ≤ (d.file f).b.length
  gen : 1 ≤ g ∧ g < 4611686018427387904
  rs : Small rs
  more : Small more
  low : Low (d.file (1 - f)).b g
  low2 : (d.file (1 - f)).last ≤ (d.file (1 - f)).b.length
theorem F01.other {f : Int} (h : F01 f) : F01 (1 - f) ∧ 1 - f ≠ f ∧ 1 - (1 - f) = f := by
  rcases h with rfl | rfl
  · exact ⟨Or.inr rfl, by decide, rfl⟩
  · exact ⟨Or.inl rfl, by decide, rfl⟩
theorem other_eq {l : WalM} (h : F01 l.f) : l.other = 1 - l.f := by
  unfold WalM.other
  rcases h with h | h <;> rw [h] <;> rfl
/-- An append that was done. -/
theorem Good.app {d d' : DiskM} {f : Int} {g : Nat} {rs more : List (List UInt8)} {r : List UInt8} (h : Good d f g rs more) (hr : r.length ≤ 1048575) (hd : Did d d' f ⟨(d.file f).b ++ recF (82 :: r), (d.file f).last⟩) : Good d' f g rs (more ++ [r]) := by
  obtain ⟨o1, o2, o3⟩ := h.f01.other
  have hb : (d'.file f).b = (d.file f).b ++ recF (82 :: r) := by rw [hd.file]
  have hl : (d'.file f).last = (d.file f).last := by rw [hd.file]
  have ho := hd.other (1 - f) o1 o2
  refine ⟨h.f01, ?_, ?_, h.gen, h.rs, ?_, by rw [ho]; exact h.low, by rw [ho]; exact h.low2⟩
  · rw [hb, h.b, List.map_append, recsF_app, List.append_assoc]; simp [recsF]
  · rw [hl, hb, List.length_append]; have := h.last; omega
  · intro x hx
    rcases List.mem_append.1 hx with hx | hx
    · exact h.more x hx
    · rw [List.mem_singleton.1 hx]; exact hr
theorem Good.syn {d d' : DiskM} {f : Int} {g : Nat} {rs more : List (List UInt8)} (h : Good d f g rs more) (hd : Did d d' f ⟨(d.file f).b, (d.file f).b.length⟩) : Good d' f g rs more ∧ (d'.file f).last = (d'.file f).b.length := by
  obtain ⟨o1, o2, o3⟩ := h.f01.other
  have hb : (d'.file f).b = (d.file f).b := by rw [hd.file]
  have hl : (d'.file f).last = (d.file f).b.length := by rw [hd.file]
  have ho := hd.other (1 - f) o1 o2
  have := h.last
  exact ⟨⟨h.f01, by rw [hb, h.b], by rw [hl, hb]; omega, h.gen, h.rs, h.more, by rw [ho]; exact h.low, by rw [ho]; exact h.low2⟩, by rw [hl, hb]⟩
/-- The other file, cleared, written, let last: a new log. -/
theorem Good.next {d d1 d2 d3 : DiskM} {f : Int} {g : Nat} {rs : List (List UInt8)} (hf : F01 f) (hg : 1 ≤ g ∧ g < 4611686018427387904) (hr : Small rs) (hlow : Low (d.file f).b g) (hlow2 : (d.file f).last ≤ (d.file f).b.length)
    (h1 : Did d d1 (1 - f) ⟨[], 0⟩) (h2 : Did d1 d2 (1 - f) ⟨(d1.file (1 - f)).b ++ fileW g rs, (d1.file (1 - f)).last⟩) (h3 : Did d2 d3 (1 - f) ⟨(d2.file (1 - f)).b, (d2.file (1 - f)).b.length⟩) :
    Good d3 (1 - f) g rs [] ∧ (d3.file (1 - f)).last = (d3.file (1 - f)).b.length := by
  obtain ⟨o1, o2, o3⟩ := hf.other
  have hb : (d3.file (1 - f)).b = fileW g rs := by rw [h3.file]; show (d2.file (1 - f)).b = _; rw [h2.file]; show (d1.file (1 - f)).b ++ _ = _; rw [h1.file]; rfl
  have hl : (d3.file (1 - f)).last = (fileW g rs).length := by rw [h3.file]; show (d2.file (1 - f)).b.length = _; rw [h2.file]; show ((d1.file (1 - f)).b ++ _).length = _; rw [h1.file]; rfl
  have ho : d3.file f = d.file f := by rw [h3.other f hf (Ne.symm o2), h2.other f hf (Ne.symm o2), h1.other f hf (Ne.symm o2)]
  refine ⟨⟨o1, by rw [hb]; simp [recsF], by rw [hl, hb]; omega, hg, hr, fun x h => (by cases h), by rw [o3, ho]; exact hlow, by rw [o3, ho]; exact hlow2⟩, by rw [hl, hb]⟩
/-! ### the calls -/
def Alive (d : DiskM) (l : WalM) : Prop := d.off = false ∧ l.done = false ∧ d.lives = l.lives ∧ -1 ≤ d.armed ∧ d.armed ≤ 9223372036854775807
theorem Alive.over {d : DiskM} {l : WalM} (h : Alive d l) : l.over d = false := by
  unfold WalM.over; rw [h.2.1, h.2.2.1]; simp
theorem Alive.did {d d' : DiskM} {l l' : WalM} {f : Int} {x : FileM} (h : Alive d l) (hd : Did d d' f x) (h1 : l'.done = l.done) (h2 : l'.lives = l.lives) : Alive d' l' :=
  ⟨by rw [hd.off]; exact h.1, by rw [h1]; exact h.2.1, by rw [hd.lives, h2]; exact h.2.2.1, hd.armed.2⟩
theorem append_good {d : DiskM} {l : WalM} (r : List UInt8) (ha : Alive d l) (hf : F01 l.f) :
    (appendW d l r = (6, { d with off := true }, l.fails 6) ∧ d.armed = 0) ∨
    ∃ d', appendW d l r = (0, d', { l with count := l.count + 1, bytes := l.bytes + (9 + r.length) }) ∧ Did d d' l.f ⟨(d.file l.f).b ++ recF (82 :: r), (d.file l.f).last⟩ := by
  unfold appendW
  rw [if_neg (by simp [ha.over])]
  rcases append_cases (recF (82 :: r)) ha.1 hf ha.2.2.2 with ⟨h, h1⟩ | ⟨d', h, h1⟩
  · rw [h]; exact Or.inl ⟨rfl, h1⟩
  · rw [h]; exact Or.inr ⟨d', rfl, h1⟩
theorem sync_good {d : DiskM} {l : WalM} (ha : Alive d l) (hf : F01 l.f) :
    (syncW d l = (6, { d with off := true }, l.fails 6) ∧ d.armed = 0) ∨ ∃ d', syncW d l = (0, d', l) ∧ Did d d' l.f ⟨(d.file l.f).b, (d.file l.f).b.length⟩ := by
  unfold syncW
  rw [if_neg (by simp [ha.over])]
  rcases sync_cases ha.1 hf ha.2.2.2 with ⟨h, h1⟩ | ⟨d', h, h1⟩
  · rw [h]; exact Or.inl ⟨rfl, h1⟩
  · rw [h]; exact Or.inr ⟨d', by rw [show l.fails (0, d').1 = l from l.fails0], h1⟩
/-- What a rewrite that failed leaves. -/
structure Half (d d' : DiskM) (o : Int) (g : Nat) (rs : List (List UInt8)) : Prop where
  same : d'.file (1 - o) = d.file (1 - o)
  other : d'.file o = d.file o ∨ d'.file o = ⟨[], 0⟩ ∨ d'.file o = ⟨fileW g rs, 0⟩
  off : d'.off = true
  lives : d'.lives = d.lives
  steps : d'.steps ≤ d.steps + 3
  armed : 0 ≤ d.armed ∧ -1 ≤ d'.armed ∧ d'.armed ≤ 9223372036854775807
theorem off_file (d : DiskM) (f : Int) : ({ d with off := true } : DiskM).file f = d.file f := by unfold DiskM.file; split <;> rfl
theorem rewrite_good {d : DiskM} {l : WalM} (rs : List (List UInt8)) (ha : Alive d l) (hg : l.gen + 1 < 4611686018427387904) :
    (∃ d', rewriteW d l rs = (6, d', l.fails 6) ∧ Half d d' l.other (l.gen + 1) rs) ∨
    ∃ d1 d2 d3, rewriteW d l rs = (0, d3, { l with f := l.other, gen := l.gen + 1, count := rs.length, bytes := (fileW (l.gen + 1) rs).length }) ∧ Did d d1 l.other ⟨[], 0⟩ ∧
      Did d1 d2 l.other ⟨(d1.file l.other).b ++ fileW (l.gen + 1) rs, (d1.file l.other).last⟩ ∧ Did d2 d3 l.other ⟨(d2.file l.other).b, (d2.file l.other).b.length⟩ := by
  have ho : F01 l.other := l.other_may
  obtain ⟨o1, o2, o3⟩ := ho.other
  unfold rewriteW
  rw [if_neg (by simp [ha.over]), if_neg (by omega)]
  rcases clear_cases ha.1 ho ha.2.2.2 with ⟨h, h1⟩ | ⟨d1, h, h1⟩
  · rw [h]
    exact Or.inl ⟨_, rfl, ⟨off_file _ _, Or.inl (off_file _ _), rfl, rfl, by show d.steps ≤ _; omega, by omega, ha.2.2.2⟩⟩
  rw [h]
  dsimp only
  rw [if_neg (by simp)]
  have a1 := ha.did (l' := l) h1 rfl rfl
  rcases append_cases (fileW (l.gen + 1) rs) a1.1 ho a1.2.2.2 with ⟨k, k1⟩ | ⟨d2, k, k1⟩
  · rw [k]
    refine Or.inl ⟨_, rfl, ⟨by rw [off_file]; exact h1.other _ o1 o2, Or.inr (Or.inl (by rw [off_file]; exact h1.file)), rfl, h1.lives, by show d1.steps ≤ _; rw [h1.steps]; omega, ?_, a1.2.2.2⟩⟩
    rcases Int.lt_or_le d.armed 0 with hn | hn
    · have := h1.armed.1 hn; omega
    · exact hn
  rw [k]
  dsimp only
  rw [if_neg (by simp)]
  have a2 := a1.did (l' := l) k1 rfl rfl
  rcases sync_cases a2.1 ho a2.2.2.2 with ⟨q, q1⟩ | ⟨d3, q, q1⟩
  · rw [q]
    refine Or.inl ⟨_, rfl, ⟨by rw [off_file, k1.other _ o1 o2]; exact h1.other _ o1 o2, Or.inr (Or.inr (by rw [off_file, k1.file, h1.file]; rfl)), rfl, by show d2.lives = _; rw [k1.lives, h1.lives], by show d2.steps ≤ _; rw [k1.steps, h1.steps]; omega, ?_, a2.2.2.2⟩⟩
    rcases Int.lt_or_le d.armed 0 with hn | hn
    · have h2 := h1.armed.1 hn
      have := k1.armed.1 (by omega)
      omega
    · exact hn
  rw [q]
  exact Or.inr ⟨d1, d2, d3, by simp, h1, k1, q1⟩
end Go.Proofs.Ytpjinngngbifoaa
