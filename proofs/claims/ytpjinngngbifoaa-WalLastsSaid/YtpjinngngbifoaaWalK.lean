/-
  Plain laws of the log: what bounds a disk under any call.
-/
import Derived.Test.YtpjinngngbifoaaWalH
set_option linter.unusedSimpArgs false
set_option linter.unusedVariables false
namespace Go.Proofs.Ytpjinngngbifoaa
open Go.RowKit

/-- A disk under a call: k steps at most, no file longer than n. -/
structure Kept (d d' : DiskM) (n k : Nat) : Prop where
  len : Len d' n
  steps : d'.steps ≤ d.steps + k
  lives : d'.lives = d.lives
  armed : -1 ≤ d'.armed ∧ d'.armed ≤ 9223372036854775807
  unarmed : d.armed < 0 → d'.armed = d.armed
theorem Kept.refl {d : DiskM} {n : Nat} (h : Len d n) (ha : -1 ≤ d.armed ∧ d.armed ≤ 9223372036854775807) (k : Nat) : Kept d d n k := ⟨h, by omega, rfl, ha, fun _ => rfl⟩
theorem Kept.trans {a b c : DiskM} {n m j k : Nat} (h : Kept a b n j) (h2 : Kept b c m k) : Kept a c m (j + k) :=
  ⟨h2.len, by have := h.steps; have := h2.steps; omega, h2.lives.trans h.lives, h2.armed, fun hn => by have e := h.unarmed hn; rw [h2.unarmed (by omega), e]⟩
theorem step_kept {d : DiskM} {f : Int} {x : FileM} {n : Nat} (hf : F01 f) (h : Len d n) (ha : -1 ≤ d.armed ∧ d.armed ≤ 9223372036854775807) (hx : x.b.length ≤ n) : Kept d (d.step f x).2 n 1 := by
  rcases step_cases d x hf ha with ⟨e, h1⟩ | ⟨d', e, h1⟩
  · rw [e]
    exact ⟨fun f hf => by rw [off_file]; exact h f hf, by show d.steps ≤ _; omega, rfl, ha, fun _ => rfl⟩
  · rw [e]
    exact ⟨h1.len hf h hx, by rw [h1.steps]; exact Nat.le_refl _, h1.lives, h1.armed.2, h1.armed.1⟩
theorem append_kept {d : DiskM} {f : Int} {b : List UInt8} {n : Nat} (h : Len d n) (ha : -1 ≤ d.armed ∧ d.armed ≤ 9223372036854775807) (hx : (d.file f).b.length + b.length ≤ n) : Kept d (d.append f b).2 n 1 := by
  unfold DiskM.append
  split
  · exact Kept.refl h ha 1
  · rename_i hm
    exact step_kept (DiskM.may_zero (by simpa using hm)) h ha (by rw [List.length_append]; exact hx)
theorem sync_kept {d : DiskM} {f : Int} {n : Nat} (h : Len d n) (ha : -1 ≤ d.armed ∧ d.armed ≤ 9223372036854775807) : Kept d (d.sync f).2 n 1 := by
  unfold DiskM.sync
  split
  · exact Kept.refl h ha 1
  · rename_i hm
    have hf := DiskM.may_zero (d := d) (f := f) (by simpa using hm)
    exact step_kept hf h ha (h f hf)
theorem clear_kept {d : DiskM} {f : Int} {n : Nat} (h : Len d n) (ha : -1 ≤ d.armed ∧ d.armed ≤ 9223372036854775807) : Kept d (d.clear f).2 n 1 := by
  unfold DiskM.clear
  split
  · exact Kept.refl h ha 1
  · rename_i hm
    exact step_kept (DiskM.may_zero (by simpa using hm)) h ha (by simp)
theorem appendW_kept {d : DiskM} {l : WalM} {r : List UInt8} {n : Nat} (h : Len d n) (ha : -1 ≤ d.armed ∧ d.armed ≤ 9223372036854775807) (hx : (d.file l.f).b.length + (9 + r.length) ≤ n) : Kept d (appendW d l r).2.1 n 1 := by
  unfold appendW
  split
  · exact Kept.refl h ha 1
  · exact append_kept h ha (by rw [recF_len]; simp only [List.length_cons]; omega)
theorem syncW_kept {d : DiskM} {l : WalM} {n : Nat} (h : Len d n) (ha : -1 ≤ d.armed ∧ d.armed ≤ 9223372036854775807) : Kept d (syncW d l).2.1 n 1 := by
  unfold syncW
  split
  · exact Kept.refl h ha 1
  · exact sync_kept h ha
theorem rewriteW_kept {d : DiskM} {l : WalM} {rs : List (List UInt8)} {n : Nat} (h : Len d n) (ha : -1 ≤ d.armed ∧ d.armed ≤ 9223372036854775807) (hx : (fileW (l.gen + 1) rs).length ≤ n) : Kept d (rewriteW d l rs).2.1 n 3 := by
  unfold rewriteW
  split
  · exact Kept.refl h ha 3
  split
  · exact Kept.refl h ha 3
  have k1 := clear_kept (f := l.other) h ha
  have f1 := DiskM.clear_file (d := d) l.other_may
  rcases hX1 : d.clear l.other with ⟨x1, d1⟩
  rw [hX1] at k1 f1
  dsimp only at k1 f1 ⊢
  split
  · exact k1.trans (Kept.refl k1.len k1.armed 2)
  rename_i hx1
  have hb := f1 (by simpa using hx1)
  have k2 := append_kept (f := l.other) (b := fileW (l.gen + 1) rs) k1.len k1.armed (by rw [hb]; simpa using hx)
  rcases hX2 : d1.append l.other (fileW (l.gen + 1) rs) with ⟨x2, d2⟩
  rw [hX2] at k2
  dsimp only at k2 ⊢
  split
  · exact (k1.trans k2).trans (Kept.refl k2.len k2.armed 1)
  have k3 := sync_kept (f := l.other) k2.len k2.armed
  rcases hX3 : d2.sync l.other with ⟨x3, d3⟩
  rw [hX3] at k3
  dsimp only at k3 ⊢
  split
  · exact (k1.trans k2).trans k3
  · exact (k1.trans k2).trans k3
theorem look_total (b : List UInt8) : ∃ m, LookF b m := by
  have key : ∀ n l a, Reach b l a → b.length - a < n → ∃ l a, ScanF b l a := by
    intro n
    induction n with
    | zero => intro l a _ h; omega
    | succ n ih =>
      intro l a hr hn
      by_cases he : (nextF b a).2.2 = 0
      · obtain ⟨r, k, e, hx⟩ : ∃ r k e, nextF b a = (r, k, e) := ⟨_, _, _, rfl⟩
        rw [hx] at he
        have he : e = 0 := he
        subst he
        obtain ⟨h1, h2⟩ := nextF_nat hx
        subst h1
        exact ih _ _ (.snoc hr hx) (by omega)
      · exact ⟨l, a, hr, he⟩
  obtain ⟨l, a, h⟩ := key (b.length + 1) [] 0 .nil (by omega)
  exact ⟨_, l, a, h, rfl⟩
theorem pickK_len {d : DiskM} {m0 m1 : Option LookM} {n : Nat} (h0 : LookF d.f0.b m0) (h1 : LookF d.f1.b m1) (h : Len d n) (hn : 26 ≤ n) (g : Nat) : (fileW g (pickK d m0 m1 2).recs).length ≤ n := by
  have key : ∀ (x : PickM) (f : Int) (m : Option LookM) (b : List UInt8), (fileW g x.recs).length ≤ n → LookF b m → b.length ≤ n → (fileW g (x.look f m b.length).recs).length ≤ n := by
    intro x f m b hx hm hb
    cases m with
    | none => exact hx
    | some m =>
      have := hm.size
      by_cases hc : x.f < 0 ∨ x.gen < m.gen
      · rw [pick_take _ _ hc]; show (fileW g m.recs).length ≤ n; rw [fileW_len]; omega
      · rw [pick_keep _ _ hc]; exact hx
  exact key _ 1 m1 _ (key pick0 0 m0 _ (by show (fileW g []).length ≤ n; rw [fileW_len]; simpa using hn) h0 h.f0) h1 h.f1
theorem openW_kept {d : DiskM} {m0 m1 : Option LookM} {n : Nat} (h0 : LookF d.f0.b m0) (h1 : LookF d.f1.b m1) (h : Len d n) (hn : 26 ≤ n) (ha : -1 ≤ d.armed ∧ d.armed ≤ 9223372036854775807) : Kept d (openW d m0 m1).2.1 n 3 := by
  unfold openW
  split
  · exact Kept.refl h ha 3
  unfold openR
  have k := rewriteW_kept (l := walOf d (pickK d m0 m1 2)) (rs := (pickK d m0 m1 2).recs) h ha (pickK_len h0 h1 h hn _)
  split
  · split
    · exact k
    · exact k
  · exact Kept.refl h ha 3
end Go.Proofs.Ytpjinngngbifoaa
