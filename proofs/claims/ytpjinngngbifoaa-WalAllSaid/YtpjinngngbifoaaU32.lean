/-
  Words, plain models, laws and walks that the claims of this layer share (joined by shake.py). No condition.
-/
import Derived.Test.YtpjinngngbifoaaU1
import Derived.Test.YtpjinngngbifoaaU2
import Derived.Test.YtpjinngngbifoaaU3
import Derived.Test.YtpjinngngbifoaaU4
import Derived.Test.YtpjinngngbifoaaU5
import Derived.Test.YtpjinngngbifoaaU6
import Derived.Test.YtpjinngngbifoaaU7
import Derived.Test.YtpjinngngbifoaaU8
import Derived.Test.YtpjinngngbifoaaU9
import Derived.Test.YtpjinngngbifoaaU10
import Derived.Test.YtpjinngngbifoaaU11
import Derived.Test.YtpjinngngbifoaaU12
import Derived.Test.YtpjinngngbifoaaU13
import Derived.Test.YtpjinngngbifoaaU14
import Derived.Test.YtpjinngngbifoaaU15
import Derived.Test.YtpjinngngbifoaaU16
import Derived.Test.YtpjinngngbifoaaU17
import Derived.Test.YtpjinngngbifoaaU18
import Derived.Test.YtpjinngngbifoaaU19
import Derived.Test.YtpjinngngbifoaaU20
import Derived.Test.YtpjinngngbifoaaU27
import Derived.Test.YtpjinngngbifoaaU28
import Derived.Test.YtpjinngngbifoaaU29
set_option linter.unusedSimpArgs false
set_option linter.unusedVariables false
namespace Go.Proofs.Ytpjinngngbifoaa
open Go.RowKit
def StM := Option (WalM × List (List UInt8))
structure LInv (d : DiskM) (l : WalM) (recs : List (List UInt8)) (k : Nat) : Prop where
  cnt : l.count ≤ 20000 + k
  byt : l.bytes ≤ 20000 + 400 * k
  gen : l.gen ≤ 4611686018427387904
  rl : recs.length ≤ 20000 + k
  same : d.off = true ∨ l.over d = true ∨ (F01 l.f ∧ l.count = recs.length ∧ l.bytes = (d.file l.f).b.length)
structure PInv (k : Nat) (d : DiskM) (st : StM) : Prop where
  ok : d.Ok
  len : Len d (2200 + 400 * k)
  steps : d.steps ≤ 4 * k
  lives : d.lives ≤ k
  log : ∀ l recs, st = some (l, recs) → LInv d l recs k
theorem fails_over {l : WalM} {x : Int} (hx : x ≠ 0) (d : DiskM) : (l.fails x).over d = true := by
  unfold WalM.over WalM.fails; simp [hx]
theorem may_off {d : DiskM} {f : Int} (h : d.off = true) : d.may f = 6 := by unfold DiskM.may; rw [h]; rfl
theorem rewrite_log {d : DiskM} {l : WalM} (rs : List (List UInt8)) (ha : -1 ≤ d.armed ∧ d.armed ≤ 9223372036854775807) :
    ((rewriteW d l rs).1 ≠ 0 ∧ ((rewriteW d l rs).2 = (d, l) ∨ ∃ x, x ≠ 0 ∧ (rewriteW d l rs).2.2 = l.fails x)) ∨
    ((rewriteW d l rs).1 = 0 ∧ (rewriteW d l rs).2.2 = { l with f := l.other, gen := l.gen + 1, count := rs.length, bytes := (fileW (l.gen + 1) rs).length } ∧ ((rewriteW d l rs).2.1.file l.other).b = fileW (l.gen + 1) rs ∧ l.gen + 1 < 4611686018427387904) := by
  have hf : F01 l.other := l.other_may
  unfold rewriteW
  by_cases hov : l.over d = true
  · rw [if_pos hov]; exact Or.inl ⟨by simp, Or.inl rfl⟩
  rw [if_neg hov]
  by_cases hg : 4611686018427387904 ≤ l.gen + 1
  · rw [if_pos hg]; exact Or.inl ⟨by simp, Or.inl rfl⟩
  rw [if_neg hg]
  by_cases hoff : d.off = true
  · have e : d.clear l.other = (6, d) := by unfold DiskM.clear; rw [if_pos (by rw [may_off hoff]; decide), may_off hoff]
    rw [e]
    exact Or.inl ⟨by simp, Or.inr ⟨6, by decide, by simp⟩⟩
  have hoff : d.off = false := by simpa using hoff
  rcases clear_cases hoff hf ha with ⟨e, -⟩ | ⟨d1, e, h1⟩
  · rw [e]; exact Or.inl ⟨by simp, Or.inr ⟨6, by decide, by simp⟩⟩
  rw [e]
  dsimp only
  rw [if_neg (by simp)]
  rcases append_cases (fileW (l.gen + 1) rs) (by rw [h1.off]; exact hoff) hf h1.armed.2 with ⟨e2, -⟩ | ⟨d2, e2, h2⟩
  · rw [e2]; exact Or.inl ⟨by simp, Or.inr ⟨6, by decide, by simp⟩⟩
  rw [e2]
  dsimp only
  rw [if_neg (by simp)]
  rcases sync_cases (by rw [h2.off, h1.off]; exact hoff) hf h2.armed.2 with ⟨e3, -⟩ | ⟨d3, e3, h3⟩
  · rw [e3]; exact Or.inl ⟨by simp, Or.inr ⟨6, by decide, by simp⟩⟩
  rw [e3]
  dsimp only
  rw [if_neg (by simp)]
  refine Or.inr ⟨rfl, rfl, ?_, by omega⟩
  show (d3.file l.other).b = _
  rw [h3.file]
  show (d2.file l.other).b = _
  rw [h2.file]
  show (d1.file l.other).b ++ _ = _
  rw [h1.file]
  rfl
theorem LInv.mono {d : DiskM} {l : WalM} {recs : List (List UInt8)} {k : Nat} (h : LInv d l recs k) : LInv d l recs (k + 1) :=
  ⟨by have := h.cnt; omega, by have := h.byt; omega, h.gen, by have := h.rl; omega, h.same⟩
theorem LInv.fit {d : DiskM} {l : WalM} {recs : List (List UInt8)} {k : Nat} (h : LInv d l recs k) (hk : k ≤ 1000) : l.Fit :=
  ⟨by have := h.cnt; omega, by have := h.byt; omega, h.gen⟩
theorem LInv.app {d : DiskM} {l : WalM} {recs : List (List UInt8)} {k : Nat} (h : LInv d l recs k) (ha : -1 ≤ d.armed ∧ d.armed ≤ 9223372036854775807) {r : List UInt8} (hr : r.length ≤ 300) :
    LInv (appendW d l r).2.1 (appendW d l r).2.2 (if (appendW d l r).1 = 0 then recs ++ [r] else recs) (k + 1) := by
  have hc := h.cnt
  have hb := h.byt
  have hre := h.rl
  unfold appendW
  by_cases hov : l.over d = true
  · rw [if_pos hov, if_neg (by simp)]; exact h.mono
  rw [if_neg hov]
  by_cases hX : (d.append l.f (recF (82 :: r))).1 = 0
  · dsimp only
    rw [if_pos hX, if_pos hX]
    refine ⟨by show l.count + 1 ≤ _; omega, by show l.bytes + (9 + r.length) ≤ _; omega, h.gen, by rw [List.length_append, List.length_singleton]; omega, ?_⟩
    have hm : d.may l.f = 0 := by
      apply Classical.byContradiction
      intro hm
      rw [DiskM.append, if_pos hm] at hX
      exact hm hX
    have hf := DiskM.may_zero hm
    have hoff : d.off = false := by
      cases ho : d.off with
      | false => rfl
      | true => rw [may_off ho] at hm; cases hm
    rcases append_cases (recF (82 :: r)) hoff hf ha with ⟨e, -⟩ | ⟨d', e, h1⟩
    · rw [e] at hX; cases hX
    rw [e]
    right
    right
    rcases h.same with h2 | h2 | ⟨h2, h3, h4⟩
    · rw [hoff] at h2; cases h2
    · exact absurd h2 hov
    · refine ⟨h2, by show l.count + 1 = _; rw [List.length_append, List.length_singleton, h3], ?_⟩
      show l.bytes + (9 + r.length) = (d'.file l.f).b.length
      rw [h1.file, h4]
      simp [recF_len]
      omega
  · dsimp only
    rw [if_neg hX, if_neg hX]
    exact ⟨by show l.count ≤ _; omega, by show l.bytes ≤ _; omega, h.gen, by omega, Or.inr (Or.inl (fails_over hX _))⟩
theorem LInv.syn {d : DiskM} {l : WalM} {recs : List (List UInt8)} {k : Nat} (h : LInv d l recs k) (ha : -1 ≤ d.armed ∧ d.armed ≤ 9223372036854775807) :
    LInv (syncW d l).2.1 (syncW d l).2.2 recs (k + 1) := by
  have hc := h.cnt
  have hb := h.byt
  have hre := h.rl
  unfold syncW
  by_cases hov : l.over d = true
  · rw [if_pos hov]; exact h.mono
  rw [if_neg hov]
  by_cases hX : (d.sync l.f).1 = 0
  · dsimp only
    rw [hX, WalM.fails0]
    refine ⟨by omega, by omega, h.gen, by omega, ?_⟩
    have hm : d.may l.f = 0 := by
      apply Classical.byContradiction
      intro hm
      rw [DiskM.sync, if_pos hm] at hX
      exact hm hX
    have hf := DiskM.may_zero hm
    have hoff : d.off = false := by
      cases ho : d.off with
      | false => rfl
      | true => rw [may_off ho] at hm; cases hm
    rcases sync_cases hoff hf ha with ⟨e, -⟩ | ⟨d', e, h1⟩
    · rw [e] at hX; cases hX
    rw [e]
    right
    right
    rcases h.same with h2 | h2 | ⟨h2, h3, h4⟩
    · rw [hoff] at h2; cases h2
    · exact absurd h2 hov
    · exact ⟨h2, h3, by show l.bytes = (d'.file l.f).b.length; rw [h1.file, h4]⟩
  · dsimp only
    exact ⟨by show l.count ≤ _; omega, by show l.bytes ≤ _; omega, h.gen, by omega, Or.inr (Or.inl (fails_over hX _))⟩
theorem LInv.rew {d : DiskM} {l : WalM} {recs rs : List (List UInt8)} {k : Nat} (h : LInv d l recs k) (ha : -1 ≤ d.armed ∧ d.armed ≤ 9223372036854775807) (hl : rs.length ≤ 10) (hf : rs.flatten.length ≤ 2000) :
    LInv (rewriteW d l rs).2.1 (rewriteW d l rs).2.2 (if (rewriteW d l rs).1 = 0 then rs else recs) (k + 1) := by
  have hc := h.cnt
  have hb := h.byt
  have hre := h.rl
  rcases rewrite_log (d := d) (l := l) rs ha with ⟨h1, h2 | ⟨x, hx, h2⟩⟩ | ⟨h1, h2, h3, h4⟩
  · rw [if_neg h1, h2]
    exact h.mono
  · rw [if_neg h1, h2]
    exact ⟨by show l.count ≤ _; omega, by show l.bytes ≤ _; omega, h.gen, by omega, Or.inr (Or.inl (fails_over hx _))⟩
  · rw [if_pos h1, h2]
    exact ⟨by show rs.length ≤ _; omega, by show (fileW _ _).length ≤ _; rw [fileW_len]; omega, by show l.gen + 1 ≤ _; omega, by omega, Or.inr (Or.inr ⟨l.other_may, rfl, by show _ = ((rewriteW d l rs).2.1.file l.other).b.length; rw [h3]⟩)⟩
theorem pickK_file {d : DiskM} {m0 m1 : Option LookM} (h : 0 ≤ (pickK d m0 m1 2).f) : F01 (pickK d m0 m1 2).f ∧ (pickK d m0 m1 2).size = (d.file (pickK d m0 m1 2).f).b.length := by
  have key : ∀ (x : PickM) (f : Int) (m : Option LookM), (0 ≤ x.f → F01 x.f ∧ x.size = (d.file x.f).b.length) → F01 f → (0 ≤ (x.look f m (d.file f).b.length).f → F01 (x.look f m (d.file f).b.length).f ∧ (x.look f m (d.file f).b.length).size = (d.file (x.look f m (d.file f).b.length).f).b.length) := by
    intro x f m hx hf h
    cases m with
    | none => exact hx h
    | some m =>
      by_cases hc : x.f < 0 ∨ x.gen < m.gen
      · rw [pick_take _ _ hc] at h ⊢; exact ⟨hf, rfl⟩
      · rw [pick_keep _ _ hc] at h ⊢; exact hx h
  exact key (pick0.look 0 m0 (d.file 0).b.length) 1 m1 (key pick0 0 m0 (fun h => by have : (0 : Int) ≤ -1 := h; omega) (Or.inl rfl)) (Or.inr rfl) h
theorem PInv.opened {d : DiskM} {m0 m1 : Option LookM} {k : Nat} (h0 : LookF d.f0.b m0) (h1 : LookF d.f1.b m1) (hok : d.Ok) (hlen : Len d (2200 + 400 * k)) (hs : d.steps + 3 ≤ 4 * k) (hlv : d.lives ≤ k) (hk : k ≤ 42) :
    PInv k (openW d m0 m1).2.1 (openW d m0 m1).2.2 := by
  have hk1 := openW_kept h0 h1 hlen (by omega) hok.armed
  refine ⟨openW_ok hok, hk1.len, by have := hk1.steps; omega, by rw [hk1.lives]; exact hlv, ?_⟩
  intro l recs e
  have hfit := pickK_fit h0 h1 (d := d) (by have := hlen.f0; omega) (by have := hlen.f1; omega) 2
  unfold openW at e ⊢
  by_cases hoff : d.off = true
  · rw [if_pos hoff] at e; cases e
  rw [if_neg hoff] at e ⊢
  unfold openR at e ⊢
  obtain ⟨y, hy⟩ : ∃ y, y = pickK d m0 m1 2 := ⟨_, rfl⟩
  have hpf := pickK_file (d := d) (m0 := m0) (m1 := m1)
  rw [← hy] at e hfit hpf ⊢
  by_cases hc : y.f < 0 ∨ y.spoil = true
  · rw [if_pos hc] at e ⊢
    rcases rewrite_log (d := d) (l := walOf d y) y.recs hok.armed with ⟨h2, -⟩ | ⟨h2, h3, h4, h5⟩
    · rw [if_pos h2] at e; cases e
    · rw [if_neg (by simp [h2])] at e ⊢
      injection e with e
      injection e with e1 e2
      subst e1 e2
      rw [h3]
      exact ⟨by show y.recs.length ≤ _; omega, by show (fileW _ _).length ≤ _; rw [fileW_len]; omega, by show y.gen + 1 ≤ _; omega, by omega, Or.inr (Or.inr ⟨(walOf d y).other_may, rfl, by show _ = ((rewriteW d (walOf d y) y.recs).2.1.file _).b.length; rw [h4]⟩)⟩
  · rw [if_neg hc] at e ⊢
    injection e with e
    injection e with e1 e2
    subst e1 e2
    have hp := hpf (by have := not_or.1 hc; omega)
    exact ⟨by show y.recs.length ≤ _; omega, by show y.size ≤ _; omega, by show y.gen ≤ _; omega, by omega, Or.inr (Or.inr ⟨hp.1, rfl, hp.2⟩)⟩
section
variable {d : DiskM} {l : WalM} {recs rs : List (List UInt8)} {k : Nat} {st : StM}
theorem Len.file {n : Nat} (h : Len d n) (f : Int) : (d.file f).b.length ≤ n := by
  unfold DiskM.file; split
  · exact h.f0
  · exact h.f1
theorem appendW_ok {r : List UInt8} (h : d.Ok) : (appendW d l r).2.1.Ok := by
  unfold appendW; split
  · exact h
  · exact append_ok h
theorem syncW_ok (h : d.Ok) : (syncW d l).2.1.Ok := by
  unfold syncW; split
  · exact h
  · exact sync_ok h
theorem PInv.app (h : PInv k d (some (l, recs))) {r : List UInt8} (hr : r.length ≤ 300) : PInv (k + 1) (appendW d l r).2.1 (some ((appendW d l r).2.2, if (appendW d l r).1 = 0 then recs ++ [r] else recs)) := by
  have hk := appendW_kept (l := l) (r := r) (h.len.mono (m := 2200 + 400 * (k + 1)) (by omega)) h.ok.armed (by have := h.len.file l.f; omega)
  refine ⟨appendW_ok h.ok, hk.len, by have := hk.steps; have := h.steps; omega, by rw [hk.lives]; have := h.lives; omega, ?_⟩
  intro l' recs' e
  injection e with e; injection e with e1 e2; subst e1 e2
  exact (h.log l recs rfl).app h.ok.armed hr
theorem PInv.syn (h : PInv k d (some (l, recs))) : PInv (k + 1) (syncW d l).2.1 (some ((syncW d l).2.2, recs)) := by
  have hk := syncW_kept (l := l) (h.len.mono (m := 2200 + 400 * (k + 1)) (by omega)) h.ok.armed
  refine ⟨syncW_ok h.ok, hk.len, by have := hk.steps; have := h.steps; omega, by rw [hk.lives]; have := h.lives; omega, ?_⟩
  intro l' recs' e
  injection e with e; injection e with e1 e2; subst e1 e2
  exact (h.log l recs rfl).syn h.ok.armed
theorem PInv.rew (h : PInv k d (some (l, recs))) (hl : rs.length ≤ 10) (hf : rs.flatten.length ≤ 2000) : PInv (k + 1) (rewriteW d l rs).2.1 (some ((rewriteW d l rs).2.2, if (rewriteW d l rs).1 = 0 then rs else recs)) := by
  have hk := rewriteW_kept (l := l) (rs := rs) (h.len.mono (m := 2200 + 400 * (k + 1)) (by omega)) h.ok.armed (by rw [fileW_len]; omega)
  refine ⟨rewriteW_ok h.ok, hk.len, by have := hk.steps; have := h.steps; omega, by rw [hk.lives]; have := h.lives; omega, ?_⟩
  intro l' recs' e
  injection e with e; injection e with e1 e2; subst e1 e2
  exact (h.log l recs rfl).rew h.ok.armed hl hf
theorem PInv.mono (h : PInv k d st) : PInv (k + 1) d st :=
  ⟨h.ok, h.len.mono (by omega), by have := h.steps; omega, by have := h.lives; omega, fun l recs e => (h.log l recs e).mono⟩
theorem PInv.arm (h : PInv k d st) (n : Int) (hn : n ≤ 9223372036854775807) : PInv (k + 1) (d.arm n) st := by
  refine ⟨⟨h.ok.l0, h.ok.l1, ?_⟩, (h.len.arm n).mono (by omega), by have := h.steps; show d.steps ≤ _; omega, by have := h.lives; show d.lives ≤ _; omega, fun l recs e => ?_⟩
  · show -1 ≤ max n (-1) ∧ max n (-1) ≤ 9223372036854775807
    omega
  · have h2 := (h.log l recs e).mono
    exact ⟨h2.cnt, h2.byt, h2.gen, h2.rl, h2.same⟩
theorem PInv.fit (h : PInv k d st) (hk : k ≤ 1000) : d.Fit := ⟨h.ok.armed, by have := h.steps; omega⟩
theorem PInv.powered (h : PInv k d st) (keep : List Int) {m0 m1 : Option LookM} (hk : k ≤ 41) (h0 : LookF (d.power keep).f0.b m0) (h1 : LookF (d.power keep).f1.b m1) : PInv (k + 1) (openW (d.power keep) m0 m1).2.1 (openW (d.power keep) m0 m1).2.2 :=
  PInv.opened h0 h1 (power_ok h.ok keep) ((h.len.power keep).mono (by omega)) (by show d.steps + 3 ≤ _; have := h.steps; omega) (by show d.lives + 1 ≤ _; have := h.lives; omega) (by omega)
theorem PInv.again (h : PInv k d st) {m0 m1 : Option LookM} (hk : k ≤ 41) (h0 : LookF d.f0.b m0) (h1 : LookF d.f1.b m1) : PInv (k + 1) (openW d m0 m1).2.1 (openW d m0 m1).2.2 :=
  PInv.opened h0 h1 h.ok (h.len.mono (by omega)) (by have := h.steps; omega) (by have := h.lives; omega) (by omega)
theorem PInv.byHand (h : PInv k d st) (f : Int) {x : List UInt8} (hx : x.length ≤ 400) {m0 m1 : Option LookM} (hk : k ≤ 41) (h0 : LookF (d.append f x).2.f0.b m0) (h1 : LookF (d.append f x).2.f1.b m1) : PInv (k + 1) (openW (d.append f x).2 m0 m1).2.1 (openW (d.append f x).2 m0 m1).2.2 := by
  have hkp := append_kept (f := f) (b := x) (h.len.mono (m := 2200 + 400 * (k + 1)) (by omega)) h.ok.armed (by have := h.len.file f; omega)
  exact PInv.opened h0 h1 (append_ok h.ok) hkp.len (by have := hkp.steps; have := h.steps; omega) (by rw [hkp.lives]; have := h.lives; omega) (by omega)
theorem PInv.new {d : DiskM} {m0 m1 : Option LookM} (h0 : LookF DiskM.new.f0.b m0) (h1 : LookF DiskM.new.f1.b m1) : PInv 1 (openW DiskM.new m0 m1).2.1 (openW DiskM.new m0 m1).2.2 :=
  PInv.opened h0 h1 ⟨by decide, by decide, by decide⟩ (fun f hf => by rcases hf with rfl | rfl <;> simp [DiskM.new, DiskM.file]) (by decide) (by decide) (by omega)
end
end Go.Proofs.Ytpjinngngbifoaa
