/-
  The plain law of WalGoes: whatever is appended, through rewrites of itself, is there.
-/
import Derived.Test.YtpjinngngbifoaaWalK
set_option linter.unusedSimpArgs false
set_option linter.unusedVariables false
namespace Go.Proofs.Ytpjinngngbifoaa
open Go.RowKit

/-- A log that holds these records; s bounds the disk's steps, g the generation, n the files. -/
structure LogI (recs : List (List UInt8)) (s g n : Nat) (d : DiskM) (l : WalM) : Prop where
  ex : ∃ rs more, rs ++ more = recs ∧ Good d l.f l.gen rs more
  alive : Alive d l
  unarmed : d.armed < 0
  count : l.count = recs.length
  bytes : l.bytes = (d.file l.f).b.length
  gen : l.gen ≤ g
  len : Len d n
  steps : d.steps ≤ s
  lives : d.lives = 0
theorem LogI.mono {recs : List (List UInt8)} {s s' g g' n n' : Nat} {d : DiskM} {l : WalM} (h : LogI recs s g n d l) (hs : s ≤ s') (hg : g ≤ g') (hn : n ≤ n') : LogI recs s' g' n' d l :=
  ⟨h.ex, h.alive, h.unarmed, h.count, h.bytes, Nat.le_trans h.gen hg, h.len.mono hn, Nat.le_trans h.steps hs, h.lives⟩
theorem LogI.f01 {recs : List (List UInt8)} {s g n : Nat} {d : DiskM} {l : WalM} (h : LogI recs s g n d l) : F01 l.f := by
  obtain ⟨rs, more, -, hg⟩ := h.ex
  exact hg.f01
theorem LogI.size {recs : List (List UInt8)} {s g n : Nat} {d : DiskM} {l : WalM} (h : LogI recs s g n d l) : (d.file l.f).b.length = 26 + 9 * recs.length + recs.flatten.length := by
  obtain ⟨rs, more, rfl, hg⟩ := h.ex
  rw [hg.b, List.length_append, fileW_len, appR_len, List.length_append, List.flatten_append, List.length_append]
  omega
theorem LogI.small {recs : List (List UInt8)} {s g n : Nat} {d : DiskM} {l : WalM} (h : LogI recs s g n d l) : Small recs := by
  obtain ⟨rs, more, rfl, hg⟩ := h.ex
  exact hg.rs.app hg.more
theorem LogI.fit {recs : List (List UInt8)} {s g n : Nat} {d : DiskM} {l : WalM} (h : LogI recs s g n d l) (hs : s < 999990) : d.Fit := ⟨h.alive.2.2.2, by have := h.steps; omega⟩
theorem LogI.wfit {recs : List (List UInt8)} {s g n : Nat} {d : DiskM} {l : WalM} (h : LogI recs s g n d l) (hg : g ≤ 1000000) (hn : n ≤ 1000000) : l.Fit := by
  have h1 := h.size
  have h2 := h.len _ h.f01
  exact ⟨by rw [h.count]; omega, by rw [h.bytes]; omega, by have := h.gen; omega⟩
theorem LogI.new : ∃ d l, openW DiskM.new none none = (0, d, some (l, [])) ∧ LogI [] 3 1 26 d l := by
  obtain ⟨d, l, h, hg, ha, hu, hs, hv, hgen, hc, hb, hl, hla⟩ := open_new
  refine ⟨d, l, h, ⟨[], [], rfl, hg⟩, ha, hu, hc, ?_, by omega, hl, hs, hv⟩
  rw [hb, hg.b]
  simp [recsF, fileW_len]
theorem LogI.app {recs : List (List UInt8)} {s g n : Nat} {d : DiskM} {l : WalM} (h : LogI recs s g n d l) (r : List UInt8) (hr : r.length ≤ 1048575) (hn : 26 + 9 * (recs.length + 1) + (recs.flatten.length + r.length) ≤ n) :
    ∃ d' l', appendW d l r = (0, d', l') ∧ LogI (recs ++ [r]) (s + 1) g n d' l' ∧ l'.f = l.f := by
  obtain ⟨rs, more, hrm, hg⟩ := h.ex
  rcases append_good r h.alive hg.f01 with ⟨-, h1⟩ | ⟨d', h1, hd⟩
  · have := h.unarmed; omega
  · have hb : (d'.file l.f).b = (d.file l.f).b ++ recF (82 :: r) := by rw [hd.file]
    refine ⟨d', _, h1, ⟨⟨rs, more ++ [r], by rw [← hrm, List.append_assoc], hg.app hr hd⟩, h.alive.did hd rfl rfl, ?_, ?_, ?_, h.gen, ?_, ?_, ?_⟩, rfl⟩
    · have := hd.armed.1 h.unarmed; have := h.unarmed; omega
    · show l.count + 1 = _; rw [h.count]; simp
    · show l.bytes + (9 + r.length) = (d'.file l.f).b.length
      rw [hb, h.bytes, List.length_append, recF_len]; simp; omega
    · refine hd.len hg.f01 h.len ?_
      show ((d.file l.f).b ++ recF (82 :: r)).length ≤ n
      rw [List.length_append, recF_len, h.size]; simp only [List.length_cons]; omega
    · rw [hd.steps]; have := h.steps; omega
    · rw [hd.lives]; exact h.lives
theorem LogI.rew {recs : List (List UInt8)} {s g n : Nat} {d : DiskM} {l : WalM} (h : LogI recs s g n d l) (rs' : List (List UInt8)) (hr : Small rs') (hn : 26 + 9 * rs'.length + rs'.flatten.length ≤ n) (hgb : g + 1 < 4611686018427387904) :
    ∃ d' l', rewriteW d l rs' = (0, d', l') ∧ LogI rs' (s + 3) (g + 1) n d' l' ∧ (d'.file l'.f).last = (d'.file l'.f).b.length := by
  obtain ⟨rs, more, hrm, hg⟩ := h.ex
  have hge := h.gen
  rcases rewrite_good rs' h.alive (by omega) with ⟨d', -, h1⟩ | ⟨d1, d2, d3, h0, h1, h2, h3⟩
  · have := h1.armed.1; have := h.unarmed; omega
  · have hoe := other_eq hg.f01
    obtain ⟨o1, o2, o3⟩ := hg.f01.other
    rw [hoe] at h1 h2 h3
    have low1 : Low (d.file l.f).b (l.gen + 1) := by rw [hg.b]; exact Low.file hg.gen (by omega) rs more hg.rs hg.more
    have hnx := Good.next hg.f01 ⟨by omega, by omega⟩ hr low1 hg.last.2 h1 h2 h3
    have a1 := h.alive.did (l' := l) h1 rfl rfl
    have a2 := a1.did (l' := l) h2 rfl rfl
    have a3 := a2.did (l' := { l with f := l.other, gen := l.gen + 1, count := rs'.length, bytes := (fileW (l.gen + 1) rs').length }) h3 rfl rfl
    have e1 := h1.armed.1 h.unarmed
    have e2 := h2.armed.1 (by rw [e1]; exact h.unarmed)
    have e3 := h3.armed.1 (by rw [e2, e1]; exact h.unarmed)
    have hu := h.unarmed
    have hb1 : (d1.file (1 - l.f)).b = [] := by rw [h1.file]
    have l1 := h1.len o1 h.len (by simp)
    have l2 := h2.len o1 l1 (by show ((d1.file (1 - l.f)).b ++ fileW (l.gen + 1) rs').length ≤ n; rw [hb1, List.nil_append, fileW_len]; exact hn)
    have l3 := h3.len o1 l2 (l2 _ o1)
    refine ⟨d3, _, h0, ⟨⟨rs', [], by simp, ?_⟩, a3, by omega, rfl, ?_, by show l.gen + 1 ≤ _; omega, l3, by rw [h3.steps, h2.steps, h1.steps]; have := h.steps; omega, by rw [h3.lives, h2.lives, h1.lives]; exact h.lives⟩, ?_⟩
    · show Good d3 l.other (l.gen + 1) rs' []
      rw [hoe]; exact hnx.1
    · show (fileW (l.gen + 1) rs').length = (d3.file l.other).b.length
      rw [hoe, hnx.1.b]; simp [recsF]
    · show (d3.file l.other).last = (d3.file l.other).b.length
      rw [hoe]; exact hnx.2
/-- A sync, and a failure of the power behind it: all is read. -/
theorem LogI.syn {recs : List (List UInt8)} {s g n : Nat} {d : DiskM} {l : WalM} (h : LogI recs s g n d l) :
    ∃ d', syncW d l = (0, d', l) ∧ LogI recs (s + 1) g n d' l ∧ (d'.file l.f).last = (d'.file l.f).b.length ∧ d'.Ok := by
  obtain ⟨rs, more, hrm, hg⟩ := h.ex
  rcases sync_good h.alive hg.f01 with ⟨-, h1⟩ | ⟨d', h1, hd⟩
  · have := h.unarmed; omega
  · have hs := hg.syn hd
    have ha := h.alive.did (l' := l) hd rfl rfl
    have hb : (d'.file l.f).b = (d.file l.f).b := by rw [hd.file]
    refine ⟨d', h1, ⟨⟨rs, more, hrm, hs.1⟩, ha, by have := hd.armed.1 h.unarmed; have := h.unarmed; omega, h.count, by rw [hb]; exact h.bytes, h.gen, hd.len hg.f01 h.len (h.len _ hg.f01), by rw [hd.steps]; have := h.steps; omega, by rw [hd.lives]; exact h.lives⟩, hs.2, ?_⟩
    have q1 := hs.1.last
    have q2 := hs.1.low2
    rcases hg.f01 with e | e
    · rw [e] at q1 q2; exact ⟨q1.2, q2, ha.2.2.2⟩
    · rw [e] at q1 q2; exact ⟨q2, q1.2, ha.2.2.2⟩
theorem LogI.again {recs : List (List UInt8)} {s g n : Nat} {d : DiskM} {l : WalM} (h : LogI recs s g n d l) (hl : (d.file l.f).last = (d.file l.f).b.length) (hg : g + 1 < 4611686018427387904) (hn : 26 ≤ n) (keep : List Int) {m0 m1 : Option LookM}
    (h0 : LookF (d.power keep).f0.b m0) (h1 : LookF (d.power keep).f1.b m1) :
    ∃ d' l', openW (d.power keep) m0 m1 = (0, d', some (l', recs)) ∧ Opened d' l' recs (g + 1) ∧ d'.steps ≤ s + 3 ∧ d'.lives = 1 ∧ Len d' n ∧ -1 ≤ d'.armed ∧ d'.armed ≤ 9223372036854775807 := by
  obtain ⟨rs, more, hrm, hgd⟩ := h.ex
  obtain ⟨d', l', a1, a2, a3, a4, a5⟩ := hgd.reopen_all hl (by have := h.gen; omega) keep h0 h1
  rw [hrm] at a1 a2
  have hk := openW_kept h0 h1 (h.len.power keep) hn ⟨Int.le_refl _, show (-1 : Int) ≤ _ by decide⟩
  rw [a1] at hk
  exact ⟨d', l', a1, ⟨a2.good, a2.alive, a2.count, a2.bytes, by have := a2.gen; have := h.gen; omega⟩, by have := h.steps; omega, by rw [a5, h.lives], hk.len, hk.armed⟩
end Go.Proofs.Ytpjinngngbifoaa
