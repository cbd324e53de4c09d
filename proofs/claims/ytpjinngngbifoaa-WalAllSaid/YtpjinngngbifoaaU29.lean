/-
  Words, plain models, laws and walks that the claims of this layer share (joined by shake.py). No condition.
-/
import Derived.Deep.RegionLawGrows
import Derived.Test.YtpjinngngbifoaaU1
import Derived.Test.YtpjinngngbifoaaU2
import Derived.Test.YtpjinngngbifoaaU3
import Derived.Test.YtpjinngngbifoaaU4
import Derived.Test.YtpjinngngbifoaaU5
import Derived.Test.YtpjinngngbifoaaU6
import Derived.Test.YtpjinngngbifoaaU7
import Derived.Test.YtpjinngngbifoaaU8
import Derived.Test.YtpjinngngbifoaaU9
import Derived.Test.YtpjinngngbifoaaU10
import Derived.Test.YtpjinngngbifoaaU11
import Derived.Test.YtpjinngngbifoaaU12
import Derived.Test.YtpjinngngbifoaaU13
import Derived.Test.YtpjinngngbifoaaU14
import Derived.Test.YtpjinngngbifoaaU15
import Derived.Test.YtpjinngngbifoaaU16
import Derived.Test.YtpjinngngbifoaaU17
import Derived.Test.YtpjinngngbifoaaU18
import Derived.Test.YtpjinngngbifoaaU19
import Derived.Test.YtpjinngngbifoaaU20
import Derived.Test.YtpjinngngbifoaaU27
import Derived.Test.YtpjinngngbifoaaU28
set_option linter.unusedSimpArgs false
set_option linter.unusedVariables false
namespace Go.Proofs.Ytpjinngngbifoaa
open Go.RowKit
theorem step_ok {d : DiskM} {f : Int} {x : FileM} (h : d.Ok) (hf : F01 f) (hx : x.last ≤ x.b.length) : (d.step f x).2.Ok := by
  rcases step_cases d x hf h.armed with ⟨e, -⟩ | ⟨d', e, hd⟩
  · rw [e]; exact ⟨h.l0, h.l1, h.armed⟩
  · rw [e]
    have key : ∀ f', F01 f' → (d'.file f').last ≤ (d'.file f').b.length := fun f' hf' => by
      by_cases q : f' = f
      · subst q; rw [hd.file]; exact hx
      · rw [hd.other f' hf' q]
        rcases hf' with rfl | rfl
        · exact h.l0
        · exact h.l1
    exact ⟨key 0 (Or.inl rfl), key 1 (Or.inr rfl), hd.armed.2⟩
theorem append_ok {d : DiskM} {f : Int} {b : List UInt8} (h : d.Ok) : (d.append f b).2.Ok := by
  unfold DiskM.append; split
  · exact h
  · rename_i hm
    have hf := DiskM.may_zero (d := d) (f := f) (by simpa using hm)
    refine step_ok h hf ?_
    show (d.file f).last ≤ ((d.file f).b ++ b).length
    rw [List.length_append]
    rcases hf with rfl | rfl
    · have := h.l0; show d.f0.last ≤ d.f0.b.length + _; omega
    · have := h.l1; show d.f1.last ≤ d.f1.b.length + _; omega
theorem sync_ok {d : DiskM} {f : Int} (h : d.Ok) : (d.sync f).2.Ok := by
  unfold DiskM.sync; split
  · exact h
  · rename_i hm; exact step_ok h (DiskM.may_zero (by simpa using hm)) (Nat.le_refl _)
theorem clear_ok {d : DiskM} {f : Int} (h : d.Ok) : (d.clear f).2.Ok := by
  unfold DiskM.clear; split
  · exact h
  · rename_i hm; exact step_ok h (DiskM.may_zero (by simpa using hm)) (Nat.le_refl _)
theorem rewriteW_ok {d : DiskM} {l : WalM} {rs : List (List UInt8)} (h : d.Ok) : (rewriteW d l rs).2.1.Ok := by
  unfold rewriteW
  split
  · exact h
  split
  · exact h
  have k1 := clear_ok (f := l.other) h
  rcases hX1 : d.clear l.other with ⟨x1, d1⟩
  rw [hX1] at k1
  dsimp only at k1 ⊢
  split
  · exact k1
  have k2 := append_ok (f := l.other) (b := fileW (l.gen + 1) rs) k1
  rcases hX2 : d1.append l.other (fileW (l.gen + 1) rs) with ⟨x2, d2⟩
  rw [hX2] at k2
  dsimp only at k2 ⊢
  split
  · exact k2
  have k3 := sync_ok (f := l.other) k2
  rcases hX3 : d2.sync l.other with ⟨x3, d3⟩
  rw [hX3] at k3
  dsimp only at k3 ⊢
  split
  · exact k3
  · exact k3
theorem openW_ok {d : DiskM} {m0 m1 : Option LookM} (h : d.Ok) : (openW d m0 m1).2.1.Ok := by
  unfold openW
  split
  · exact h
  unfold openR
  have k := rewriteW_ok (l := walOf d (pickK d m0 m1 2)) (rs := (pickK d m0 m1 2).recs) h
  split
  · split
    · exact k
    · exact k
  · exact h
theorem power_ok {d : DiskM} (h : d.Ok) (keep : List Int) : (d.power keep).Ok := by
  have k0 : keepN keep 0 d.f0 ≤ d.f0.b.length - d.f0.last := by unfold keepN; split <;> omega
  have k1 : keepN keep 1 d.f1 ≤ d.f1.b.length - d.f1.last := by unfold keepN; split <;> omega
  have := h.l0
  have := h.l1
  refine ⟨?_, ?_, ⟨Int.le_refl _, show (-1 : Int) ≤ _ by decide⟩⟩
  · show d.f0.last + keepN keep 0 d.f0 ≤ (d.f0.b.take (d.f0.last + keepN keep 0 d.f0)).length
    rw [List.length_take]; omega
  · show d.f1.last + keepN keep 1 d.f1 ≤ (d.f1.b.take (d.f1.last + keepN keep 1 d.f1)).length
    rw [List.length_take]; omega
theorem OpenPost.disk {g r : Nat} {F : Nat → Prop} {w w' : World} {R : Int × DiskM × Option (WalM × List (List UInt8))} {e : Ending} (h : OpenPost g r F w R e w') :
    ∃ pv A n c F', e = .returned (.tuple #[pv, .slice A n c, .int .i64 R.1]) ∧ (∀ k, F' k → F k ∨ w.heap.size ≤ k) ∧ DiskAt w' g r F' R.2.1 ∧ Same (fun k => k ≠ g ∧ k ≠ r) w w' := by
  obtain ⟨pv, A, n, c, rfl, ⟨F', hF, hm⟩, hs⟩ := h
  refine ⟨pv, A, n, c, F', rfl, hF, ?_, hs⟩
  obtain ⟨x, d, o⟩ := R
  cases o with
  | none => exact hm.2.2
  | some z => exact hm.2.2.2.disk
def LstIn (w : World) (p g r : Nat) (now : List (List UInt8)) (safe : Nat) (failed : Bool) (next : List (List UInt8)) (k : Nat) (off : Bool) (wr : World) : Prop :=
  ∃ d l F, LstP now safe failed next k d l ∧ d.off = off ∧ LogAt wr p g r F d l ∧ Same (fun _ => True) w wr
section
variable {w : World} {p g r : Nat} {now next : List (List UInt8)} {safe k : Nat} {failed off : Bool} {wr : World}
theorem LstIn.same (h : LstIn w p g r now safe failed next k off wr) : Same (fun _ => True) w wr := by
  obtain ⟨d, l, F, -, -, -, h⟩ := h
  exact h
theorem LstIn.keepAll {W : World} (h : LstIn w p g r now safe failed next k off wr) (hs : Same (fun _ => True) wr W) : LstIn w p g r now safe failed next k off W := by
  obtain ⟨d, l, F, h1, h2, h3, h4⟩ := h
  exact ⟨d, l, F, h1, h2, h3.keepAll hs, h4.trans hs⟩
def StepP (p g r : Nat) (x : Int) (wr : World) (P : World → Prop) (e : Ending) (w' : World) : Prop := e = .returned (.int .i64 x) ∧ P w' ∧ Same (Lk p g r) wr w'
theorem LstIn.app (h : LstIn w p g r now safe failed next k false wr) (hB : w.heap.size ≤ p ∧ w.heap.size ≤ g ∧ w.heap.size ≤ r) (hk : k ≤ 100) {v : Value} {S : Nat → Prop} {x : List UInt8} (hv : By wr S v x) (hx : x.length ≤ 300) :
    Calls Try.prog 18 #[ptr p, v] wr (StepP p g r 6 wr (LstIn w p g r now safe failed next (k + 1) true)) ∨
    Calls Try.prog 18 #[ptr p, v] wr (StepP p g r 0 wr (LstIn w p g r (now ++ [x]) safe failed next (k + 1) false)) := by
  obtain ⟨d, l, F, h1, h2, h3, h4⟩ := h
  have hlen := h1.len l.f (by obtain ⟨rs, more, -, -, hf, -⟩ := h1.run.main; exact hf)
  have hc := wappend_any p g r F S d l v x wr h3 (h1.fit hk) hv (by omega) (by omega) (h1.wfit hk)
  rcases h1.app h2 hk x hx with ⟨d', l', e, k1, k2⟩ | ⟨d', l', e, k1, k2⟩
  · rw [e] at hc
    refine Or.inl (hc.mono ?_)
    rintro e w' ⟨rfl, ⟨F', hF', hL'⟩, hS'⟩
    exact ⟨rfl, ⟨d', l', F', k1, k2, hL', h4.trans' hS' fun k hk _ => ⟨by omega, by omega, by omega⟩⟩, hS'⟩
  · rw [e] at hc
    refine Or.inr (hc.mono ?_)
    rintro e w' ⟨rfl, ⟨F', hF', hL'⟩, hS'⟩
    exact ⟨rfl, ⟨d', l', F', k1, k2, hL', h4.trans' hS' fun k hk _ => ⟨by omega, by omega, by omega⟩⟩, hS'⟩
theorem LstIn.syn (h : LstIn w p g r now safe failed next k false wr) (hB : w.heap.size ≤ p ∧ w.heap.size ≤ g ∧ w.heap.size ≤ r) (hk : k ≤ 100) :
    Calls Try.prog 19 #[ptr p] wr (StepP p g r 6 wr (LstIn w p g r now safe failed next (k + 1) true)) ∨
    Calls Try.prog 19 #[ptr p] wr (StepP p g r 0 wr (LstIn w p g r now now.length failed next (k + 1) false)) := by
  obtain ⟨d, l, F, h1, h2, h3, h4⟩ := h
  have hc := wsync_any p g r F d l wr h3 (h1.fit hk)
  rcases h1.syn h2 with ⟨d', l', e, k1, k2⟩ | ⟨d', l', e, k1, k2⟩
  · rw [e] at hc
    refine Or.inl (hc.mono ?_)
    rintro e w' ⟨rfl, ⟨F', hF', hL'⟩, hS'⟩
    exact ⟨rfl, ⟨d', l', F', k1, k2, hL', h4.trans' hS' fun k hk _ => ⟨by omega, by omega, by omega⟩⟩, hS'⟩
  · rw [e] at hc
    refine Or.inr (hc.mono ?_)
    rintro e w' ⟨rfl, ⟨F', hF', hL'⟩, hS'⟩
    exact ⟨rfl, ⟨d', l', F', k1, k2, hL', h4.trans' hS' fun k hk _ => ⟨by omega, by omega, by omega⟩⟩, hS'⟩
theorem LstIn.rew (h : LstIn w p g r now safe failed next k false wr) (hB : w.heap.size ≤ p ∧ w.heap.size ≤ g ∧ w.heap.size ≤ r) (hk : k ≤ 100) {v : Value} {S : Nat → Prop} {L : List (List UInt8)} (hv : ByL wr S v L) (hLl : L.length ≤ 10) (hLf : L.flatten.length ≤ 2000) :
    Calls Try.prog 21 #[ptr p, v] wr (StepP p g r 6 wr (LstIn w p g r now safe true L (k + 1) true)) ∨
    Calls Try.prog 21 #[ptr p, v] wr (StepP p g r 0 wr (LstIn w p g r L L.length failed next (k + 1) false)) := by
  obtain ⟨d, l, F, h1, h2, h3, h4⟩ := h
  have hst := h1.steps
  have hc := wrewrite_any p g r F S d l v L wr h3 (h1.fit hk) (by omega) hv (by omega) (Lib.hid fun x hx => by have := mem_flat_le hx; omega) (by rw [fileW_len]; omega) (h1.wfit hk)
  rcases h1.rew h2 hk L (fun x hx => by have := mem_flat_le hx; omega) hLl hLf with ⟨d', l', e, k1, k2⟩ | ⟨d', l', e, k1, k2⟩
  · rw [e] at hc
    refine Or.inl (hc.mono ?_)
    rintro e w' ⟨rfl, ⟨F', hF', hL'⟩, hS'⟩
    exact ⟨rfl, ⟨d', l', F', k1, k2, hL', h4.trans' hS' fun k hk _ => ⟨by omega, by omega, by omega⟩⟩, hS'⟩
  · rw [e] at hc
    refine Or.inr (hc.mono ?_)
    rintro e w' ⟨rfl, ⟨F', hF', hL'⟩, hS'⟩
    exact ⟨rfl, ⟨d', l', F', k1, k2, hL', h4.trans' hS' fun k hk _ => ⟨by omega, by omega, by omega⟩⟩, hS'⟩
end
section
variable {P : Program} {t e : TypeId} {size bytes : Nat} {z : Value}
theorem run_appLE (T : SlT P t e size bytes z) (w : World) (ty : TypeId) (B : Nat) (ad0 : Addr) (hown : w.ownsRow B e size (.slice (some ad0) 0 0) 0 [])
    (S : Nat → Prop) (A : Option Addr) (m c : Nat) (news : List Value) (hr : Sl w S size A m news) (h63 : m ≤ maxLen) (hbytes : m * bytes ≤ 140737488355328) (hbase : B ≤ w.heap.size) :
    ∃ v' w', (Builtin.append_ #[t, t] ty #[.slice (some ad0) 0 0, .slice A m c]).run P w = .ok v' w' ∧ w'.ownsRow B e size v' m news ∧ Same (fun _ => True) w w' := by
  obtain ⟨i, hi, hz, h4, h5⟩ := info_parts T.info
  rcases Nat.eq_zero_or_pos m with h0 | h0
  · subst h0
    have hn : news = [] := List.eq_nil_of_length_eq_zero (by simpa using hr.1)
    subst hn
    refine ⟨.slice (some ad0) 0 0, w, ?_, hown, Same.refl _ _⟩
    rcases A with _ | ad <;> simp [Builtin.append_, run_underlying T.und, sizeOf, typeInfo, hi, Builtin.lenOf, Builtin.firstCells, storeCells, loadCells, loadCellsFrom]
  · obtain ⟨ad, rfl, _, hc⟩ := hr.2 h0
    obtain ⟨v', w', hrun, h2, h3⟩ := run_append_arg_grows (P := P) (w := w) t ty e i z size bytes T.und hi hz h4 h5 T.zs T.pos ad0 0 0 [] (by simp) (by simp) ad m c news hr.1 hc (by omega) (by simpa using h63) (by simpa using hbytes)
    simp at h2
    exact ⟨v', w', hrun, own_lower h2 hbase, (Same.ofGrown (row := none) h3).mono fun k _ _ e => by cases e⟩
end
theorem RdS.take {w : World} {S : Nat → Prop} {A : Option Addr} {n c : Nat} {l : List (List UInt8)} (h : RdS w S (.slice A n c) l) {k : Nat} (hk : k ≤ l.length) : RdS w S (.slice A k c) (l.take k) := by
  obtain ⟨A', c', e, h1, h2, h3⟩ := h
  injection e with e1 e2 e3
  subst e1 e3
  have hl : (l.take k).length = k := by rw [List.length_take]; omega
  refine ⟨A, c, by rw [hl], by omega, h2, ?_⟩
  have := h3.take hk
  rw [Nat.mul_one] at this
  rw [hl, List.map_take]
  exact this
theorem RdS.nil (w : World) (S : Nat → Prop) : RdS w S (.slice none 0 0) [] := ⟨none, 0, rfl, by simp, by simp [maxLen], Sl.nil _ _ _ _⟩
end Go.Proofs.Ytpjinngngbifoaa
