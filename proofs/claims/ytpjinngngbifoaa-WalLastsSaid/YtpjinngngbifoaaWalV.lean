/-
  The run of WalLasts ahead of the failures, step by step.
-/
import Derived.Test.YtpjinngngbifoaaWalS
set_option linter.unusedSimpArgs false
set_option linter.unusedVariables false
namespace Go.Proofs.Ytpjinngngbifoaa
open Go.RowKit

structure LstP (now : List (List UInt8)) (safe : Nat) (failed : Bool) (next : List (List UInt8)) (k : Nat) (d : DiskM) (l : WalM) : Prop where
  run : RunI now safe failed next d l.f l.gen
  live : d.off = false → Alive d l ∧ failed = false
  armed : -1 ≤ d.armed ∧ d.armed ≤ 9223372036854775807
  steps : d.steps ≤ 3 + 3 * k
  len : Len d (2200 + 400 * k)
  lives : d.lives = 0
  count : l.count ≤ 10 + k
  bytes : l.bytes ≤ 2200 + 400 * k
  gen : l.gen ≤ 1 + k
  nowl : now.length ≤ 10 + k
  safel : safe ≤ now.length
theorem LstP.wfit {now next : List (List UInt8)} {safe k : Nat} {failed : Bool} {d : DiskM} {l : WalM} (h : LstP now safe failed next k d l) (hk : k ≤ 100) : l.Fit := ⟨by have := h.count; omega, by have := h.bytes; omega, by have := h.gen; omega⟩
theorem LstP.fit {now next : List (List UInt8)} {safe k : Nat} {failed : Bool} {d : DiskM} {l : WalM} (h : LstP now safe failed next k d l) (hk : k ≤ 100) : d.Fit := ⟨h.armed, by have := h.steps; omega⟩
theorem LstP.ok {now next : List (List UInt8)} {safe k : Nat} {failed : Bool} {d : DiskM} {l : WalM} (h : LstP now safe failed next k d l) : d.Ok := by
  obtain ⟨rs, more, -, -, hf, -, -, hl2, -⟩ := h.run.main
  have ho : (d.file (1 - l.f)).last ≤ (d.file (1 - l.f)).b.length := by
    rcases h.run.other with q | ⟨-, q, -⟩
    · exact q.2
    · rw [q]; exact Nat.zero_le _
  rcases hf with e | e
  · rw [e] at hl2 ho; exact ⟨hl2, ho, h.armed⟩
  · rw [e] at hl2 ho; exact ⟨ho, hl2, h.armed⟩
theorem LstP.more {now next : List (List UInt8)} {safe k : Nat} {failed : Bool} {d : DiskM} {l : WalM} (h : LstP now safe failed next k d l) : LstP now safe failed next (k + 1) d l :=
  ⟨h.run, h.live, h.armed, by have := h.steps; omega, h.len.mono (by omega), h.lives, by have := h.count; omega, by have := h.bytes; omega, by have := h.gen; omega, by have := h.nowl; omega, h.safel⟩
theorem LstP.start {d : DiskM} {l : WalM} (hg : Good d l.f l.gen [] []) (ha : Alive d l) (hs : d.steps ≤ 3) (hv : d.lives = 0) (hgen : l.gen = 1) (hc : l.count = 0) (hb : l.bytes = 26) (hl : Len d 26) (n : Int) (hn : 0 ≤ n ∧ n ≤ 1000) : LstP [] 0 false [] 0 (d.arm n) l := by
  have hp := hg.last.1
  refine ⟨⟨⟨[], [], rfl, rfl, hg.f01, hg.b, hg.last.1, hg.last.2, hg.rs, hg.more, 0, by simp, by simp, ?_⟩, ⟨hg.gen.1, by omega⟩, Or.inl ⟨hg.low, hg.low2⟩⟩, fun _ => ⟨⟨ha.1, ha.2.1, ha.2.2.1, ?_⟩, rfl⟩, ?_, hs, hl.mono (by omega), hv, by omega, by omega, by omega, by simp, by simp⟩
  · show (fileW l.gen [] ++ recsF (([] : List (List UInt8)).map (82 :: ·))).length ≤ (d.file l.f).last
    rw [List.length_append]
    have : (recsF (([] : List (List UInt8)).map (82 :: ·))).length = 0 := rfl
    omega
  · show -1 ≤ max n (-1) ∧ max n (-1) ≤ _; omega
  · show -1 ≤ max n (-1) ∧ max n (-1) ≤ _; omega
/-- A disk that went off keeps its files. -/
theorem RunI.off {now next : List (List UInt8)} {safe : Nat} {failed : Bool} {d : DiskM} {f : Int} {g : Nat} (h : RunI now safe failed next d f g) : RunI now safe failed next { d with off := true } f g := by
  obtain ⟨rs, more, h1, h0, h2, h3, h4, h5, h6, h7, h8⟩ := h.main
  exact ⟨⟨rs, more, h1, rfl, h2, by rw [off_file]; exact h3, by rw [off_file]; exact h4, by rw [off_file]; exact h5, h6, h7, by rw [off_file]; exact h8⟩, h.gen, by rw [off_file]; exact h.other⟩
theorem LstP.offd {now next : List (List UInt8)} {safe k : Nat} {failed : Bool} {d : DiskM} {l : WalM} (h : LstP now safe failed next k d l) (x : Int) : LstP now safe failed next (k + 1) { d with off := true } (l.fails x) :=
  ⟨h.run.off, (fun e => by cases e), h.armed, by show d.steps ≤ _; have := h.steps; omega, fun f hf => by rw [off_file]; have := h.len f hf; omega, h.lives, by show l.count ≤ _; have := h.count; omega, by show l.bytes ≤ _; have := h.bytes; omega, by show l.gen ≤ _; have := h.gen; omega, by have := h.nowl; omega, h.safel⟩
theorem LstP.app {now next : List (List UInt8)} {safe k : Nat} {d : DiskM} {l : WalM} {failed : Bool} (h : LstP now safe failed next k d l) (hoff : d.off = false) (hk : k ≤ 100) (r : List UInt8) (hr : r.length ≤ 300) :
    (∃ d' l', appendW d l r = (6, d', l') ∧ LstP now safe failed next (k + 1) d' l' ∧ d'.off = true) ∨ ∃ d' l', appendW d l r = (0, d', l') ∧ LstP (now ++ [r]) safe failed next (k + 1) d' l' ∧ d'.off = false := by
  obtain ⟨ha, rfl⟩ := h.live hoff
  obtain ⟨rs, more, h1, -, h2, h3, h4, h5, h6, h7, i, hi, hs, hil⟩ := h.run.main
  obtain ⟨o1, o2, o3⟩ := h2.other
  rcases append_good r ha h2 with ⟨e, -⟩ | ⟨d', e, hd⟩
  · exact Or.inl ⟨_, _, e, h.offd 6, rfl⟩
  · have hb : (d'.file l.f).b = (d.file l.f).b ++ recF (82 :: r) := by rw [hd.file]
    have hl : (d'.file l.f).last = (d.file l.f).last := by rw [hd.file]
    have ho := hd.other _ o1 o2
    have hlen := h.len _ h2
    refine Or.inr ⟨d', _, e, ⟨⟨⟨rs, more ++ [r], by rw [← h1, List.append_assoc], rfl, h2, ?_, ?_, ?_, h6, ?_, i, by rw [List.length_append]; omega, hs, ?_⟩, h.run.gen, ?_⟩, fun _ => ⟨ha.did hd rfl rfl, rfl⟩, hd.armed.2, by rw [hd.steps]; have := h.steps; omega, ?_, by rw [hd.lives]; exact h.lives, by show l.count + 1 ≤ _; have := h.count; omega, by show l.bytes + (9 + r.length) ≤ _; have := h.bytes; omega, by show l.gen ≤ _; have := h.gen; omega, by rw [List.length_append]; have := h.nowl; simp; omega, by rw [List.length_append]; have := h.safel; omega⟩, by rw [hd.off]; exact hoff⟩
    · show (d'.file l.f).b = _
      rw [hb, h3, List.map_append, recsF_app, List.append_assoc]; simp [recsF]
    · show _ ≤ (d'.file l.f).last
      rw [hl]; exact h4
    · show (d'.file l.f).last ≤ (d'.file l.f).b.length
      rw [hl, hb, List.length_append]; omega
    · intro x hx
      rcases List.mem_append.1 hx with hx | hx
      · exact h7 x hx
      · rw [List.mem_singleton.1 hx]; omega
    · show _ ≤ (d'.file l.f).last
      rw [hl, List.take_append_of_le_length hi]; exact hil
    · show (Low (d'.file (1 - l.f)).b l.gen ∧ _) ∨ _
      rw [ho]; exact h.run.other
    · refine hd.len h2 (h.len.mono (by omega)) ?_
      show ((d.file l.f).b ++ recF (82 :: r)).length ≤ _
      rw [List.length_append, recF_len]; simp only [List.length_cons]; omega
theorem LstP.syn {now next : List (List UInt8)} {safe k : Nat} {d : DiskM} {l : WalM} {failed : Bool} (h : LstP now safe failed next k d l) (hoff : d.off = false) :
    (∃ d' l', syncW d l = (6, d', l') ∧ LstP now safe failed next (k + 1) d' l' ∧ d'.off = true) ∨ ∃ d' l', syncW d l = (0, d', l') ∧ LstP now now.length failed next (k + 1) d' l' ∧ d'.off = false := by
  obtain ⟨ha, rfl⟩ := h.live hoff
  obtain ⟨rs, more, h1, -, h2, h3, h4, h5, h6, h7, i, hi, hs, hil⟩ := h.run.main
  obtain ⟨o1, o2, o3⟩ := h2.other
  rcases sync_good ha h2 with ⟨e, -⟩ | ⟨d', e, hd⟩
  · exact Or.inl ⟨_, _, e, h.offd 6, rfl⟩
  · have hb : (d'.file l.f).b = (d.file l.f).b := by rw [hd.file]
    have hl : (d'.file l.f).last = (d.file l.f).b.length := by rw [hd.file]
    have ho := hd.other _ o1 o2
    refine Or.inr ⟨d', l, e, ⟨⟨⟨rs, more, h1, rfl, h2, by rw [hb]; exact h3, by rw [hl]; omega, by rw [hl, hb]; exact Nat.le_refl _, h6, h7, more.length, Nat.le_refl _, by rw [← h1, List.length_append]; exact Nat.le_refl _, by rw [List.take_length, hl, h3]; exact Nat.le_refl _⟩, h.run.gen, by rw [ho]; exact h.run.other⟩, fun _ => ⟨ha.did hd rfl rfl, rfl⟩, hd.armed.2, by rw [hd.steps]; have := h.steps; omega, (hd.len h2 h.len (h.len _ h2)).mono (by omega), by rw [hd.lives]; exact h.lives, by have := h.count; omega, by have := h.bytes; omega, by have := h.gen; omega, by have := h.nowl; omega, Nat.le_refl _⟩, by rw [hd.off]; exact hoff⟩
theorem LstP.rew {now next : List (List UInt8)} {safe k : Nat} {d : DiskM} {l : WalM} {failed : Bool} (h : LstP now safe failed next k d l) (hoff : d.off = false) (hk : k ≤ 100) (L : List (List UInt8)) (hL : Small L) (hLl : L.length ≤ 10) (hLf : L.flatten.length ≤ 2000) :
    (∃ d' l', rewriteW d l L = (6, d', l') ∧ LstP now safe true L (k + 1) d' l' ∧ d'.off = true) ∨ ∃ d' l', rewriteW d l L = (0, d', l') ∧ LstP L L.length failed next (k + 1) d' l' ∧ d'.off = false := by
  obtain ⟨ha, rfl⟩ := h.live hoff
  obtain ⟨rs, more, h1, -, h2, h3, h4, h5, h6, h7, i, hi, hs, hil⟩ := h.run.main
  obtain ⟨o1, o2, o3⟩ := h2.other
  have hoe := other_eq h2
  have hge := h.gen
  have hfw : (fileW (l.gen + 1) L).length ≤ 2116 := by rw [fileW_len]; omega
  have hq2 : (fileW (l.gen + 1) L).length ≤ 2200 + 400 * (k + 1) := Nat.le_trans hfw (by omega)
  have hlow : Low (d.file (1 - l.f)).b l.gen ∧ (d.file (1 - l.f)).last ≤ (d.file (1 - l.f)).b.length := by
    rcases h.run.other with q | ⟨q, -⟩
    · exact q
    · cases q
  rcases rewrite_good L ha (by omega) with ⟨d', e, hh⟩ | ⟨d1, d2, d3, e, k1, k2, k3⟩
  · rw [hoe] at hh
    have hsame := hh.same
    rw [o3] at hsame
    obtain ⟨n, hn⟩ : ∃ n, n = 2200 + 400 * (k + 1) := ⟨_, rfl⟩
    have hkept := rewriteW_kept (l := l) (rs := L) (n := n) (h.len.mono (by omega)) ha.2.2.2 (by omega)
    rw [e] at hkept
    have hklen : Len _ n := hkept.len
    rw [hn] at hklen
    refine Or.inl ⟨d', _, e, ⟨⟨⟨rs, more, h1, rfl, h2, by show (d'.file l.f).b = _; rw [hsame]; exact h3, by show _ ≤ (d'.file l.f).last; rw [hsame]; exact h4, by show (d'.file l.f).last ≤ (d'.file l.f).b.length; rw [hsame]; exact h5, h6, h7, i, hi, hs, by show _ ≤ (d'.file l.f).last; rw [hsame]; exact hil⟩, h.run.gen, ?_⟩, (fun e => by rw [hh.off] at e; cases e), hkept.armed, by have := hkept.steps; have := h.steps; simp only at *; omega, hklen, by rw [hh.lives]; exact h.lives, by show l.count ≤ _; have := h.count; omega, by show l.bytes ≤ _; have := h.bytes; omega, by show l.gen ≤ _; omega, by have := h.nowl; omega, h.safel⟩, hh.off⟩
    show (Low (d'.file (1 - l.f)).b l.gen ∧ (d'.file (1 - l.f)).last ≤ (d'.file (1 - l.f)).b.length) ∨ _
    rcases hh.other with q | q | q
    · rw [q]; exact Or.inl hlow
    · rw [q]; exact Or.inl ⟨Low.nil _, Nat.le_refl _⟩
    · exact Or.inr ⟨rfl, q, hL⟩
  · rw [hoe] at k1 k2 k3
    have low1 : Low (d.file l.f).b (l.gen + 1) := by rw [h3]; exact Low.file ⟨h.run.gen.1, by omega⟩ (by omega) rs more h6 h7
    have hnx := Good.next h2 ⟨by omega, by omega⟩ hL low1 h5 k1 k2 k3
    have a1 := ha.did (l' := l) k1 rfl rfl
    have a2 := a1.did (l' := l) k2 rfl rfl
    have a3 := a2.did (l' := { l with f := l.other, gen := l.gen + 1, count := L.length, bytes := (fileW (l.gen + 1) L).length }) k3 rfl rfl
    obtain ⟨n, hn⟩ : ∃ n, n = 2200 + 400 * (k + 1) := ⟨_, rfl⟩
    have hkept := rewriteW_kept (l := l) (rs := L) (n := n) (h.len.mono (by omega)) ha.2.2.2 (by omega)
    rw [e] at hkept
    have hklen : Len _ n := hkept.len
    rw [hn] at hklen
    have hb : (d3.file (1 - l.f)).b = fileW (l.gen + 1) L := by rw [hnx.1.b]; simp [recsF]
    have hq1 : L.length ≤ 10 + (k + 1) := by omega
    have hq3 : l.gen + 1 ≤ 1 + (k + 1) := by omega
    refine Or.inr ⟨d3, _, e, ⟨⟨⟨L, [], by simp, rfl, by show F01 l.other; rw [hoe]; exact o1, ?_, ?_, ?_, hL, (fun r hr => by cases hr), 0, by simp, by omega, ?_⟩, ⟨by show 1 ≤ l.gen + 1; omega, by show l.gen + 1 + 1 < _; omega⟩, ?_⟩, fun _ => ⟨a3, rfl⟩, hkept.armed, by have := hkept.steps; have := h.steps; simp only at *; omega, hklen, by rw [k3.lives, k2.lives, k1.lives]; exact h.lives, hq1, hq2, hq3, hq1, Nat.le_refl _⟩, by rw [k3.off, k2.off, k1.off]; exact hoff⟩
    · show (d3.file l.other).b = _
      rw [hoe, hb]; simp [recsF]
    · show _ ≤ (d3.file l.other).last
      rw [hoe, hnx.2, hb]; exact Nat.le_refl _
    · show (d3.file l.other).last ≤ (d3.file l.other).b.length
      rw [hoe, hnx.2]; exact Nat.le_refl _
    · show _ ≤ (d3.file l.other).last
      rw [hoe, hnx.2, hb]; simp [recsF]
    · show (Low (d3.file (1 - l.other)).b (l.gen + 1) ∧ (d3.file (1 - l.other)).last ≤ (d3.file (1 - l.other)).b.length) ∨ _
      rw [hoe]
      exact Or.inl ⟨hnx.1.low, hnx.1.low2⟩
/-- All of it: what the last opening finds. -/
theorem LstP.end_ {now next : List (List UInt8)} {safe k : Nat} {d : DiskM} {l : WalM} {failed : Bool} (h : LstP now safe failed next k d l) (hk : k ≤ 100) (keep more : List Int) (n : Int) (hn : 0 ≤ n ∧ n ≤ 1000) :
    ∃ R, Acc now safe failed next R ∧ ∀ m0 m1, LookF ((d.power keep).arm n).f0.b m0 → LookF ((d.power keep).arm n).f1.b m1 → ∀ q0 q1, LookF ((openW ((d.power keep).arm n) m0 m1).2.1.power more).f0.b q0 → LookF ((openW ((d.power keep).arm n) m0 m1).2.1.power more).f1.b q1 →
      ∃ d' l', openW ((openW ((d.power keep).arm n) m0 m1).2.1.power more) q0 q1 = (0, d', some (l', R)) := by
  obtain ⟨f1, g1, R, sp, hw, hg1, hacc⟩ := h.run.win keep
  have hge := h.gen
  have hw' : Win ((d.power keep).arm n) f1 g1 R sp := ⟨hw.f01, hw.look, hw.plain, hw.last, hw.last2, hw.low, hw.low2, hw.gen, hw.small⟩
  refine ⟨R, hacc, fun m0 m1 a0 a1 q0 q1 b0 b1 => ?_⟩
  obtain ⟨f2, g2, sp2, hw2, hg2⟩ := hw'.again (by omega) rfl (by show -1 ≤ max n (-1) ∧ max n (-1) ≤ _; omega) more a0 a1
  exact hw2.found (by omega) rfl ⟨show (-1 : Int) < 0 by decide, Int.le_refl _⟩ b0 b1
end Go.Proofs.Ytpjinngngbifoaa
