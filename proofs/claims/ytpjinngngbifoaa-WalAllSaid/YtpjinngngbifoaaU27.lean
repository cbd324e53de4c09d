/-
  Words, plain models, laws and walks that the claims of this layer share (joined by shake.py). No condition.
-/
import Derived.Test.YtpjinngngbifoaaU1
import Derived.Test.YtpjinngngbifoaaU2
import Derived.Test.YtpjinngngbifoaaU3
import Derived.Test.YtpjinngngbifoaaU4
import Derived.Test.YtpjinngngbifoaaU5
import Derived.Test.YtpjinngngbifoaaU6
import Derived.Test.YtpjinngngbifoaaU7
import Derived.Test.YtpjinngngbifoaaU8
import Derived.Test.YtpjinngngbifoaaU9
import Derived.Test.YtpjinngngbifoaaU10
import Derived.Test.YtpjinngngbifoaaU11
import Derived.Test.YtpjinngngbifoaaU12
import Derived.Test.YtpjinngngbifoaaU13
import Derived.Test.YtpjinngngbifoaaU14
import Derived.Test.YtpjinngngbifoaaU15
import Derived.Test.YtpjinngngbifoaaU16
import Derived.Test.YtpjinngngbifoaaU17
import Derived.Test.YtpjinngngbifoaaU18
import Derived.Test.YtpjinngngbifoaaU19
set_option linter.unusedSimpArgs false
set_option linter.unusedVariables false
namespace Go.Proofs.Ytpjinngngbifoaa
open Go.RowKit
/-- A log that holds these records; s bounds the disk's steps, g the generation, n the files. -/
structure LogI (recs : List (List UInt8)) (s g n : Nat) (d : DiskM) (l : WalM) : Prop where
  ex : ∃ rs more, rs ++ more = recs ∧ Good d l.f l.gen rs more
  alive : Alive d l
  unarmed : d.armed < 0
  count : l.count = recs.length
  bytes : l.bytes = (d.file l.f).b.length
  gen : l.gen ≤ g
  len : Len d n
  steps : d.steps ≤ s
  lives : d.lives = 0
theorem LogI.mono {recs : List (List UInt8)} {s s' g g' n n' : Nat} {d : DiskM} {l : WalM} (h : LogI recs s g n d l) (hs : s ≤ s') (hg : g ≤ g') (hn : n ≤ n') : LogI recs s' g' n' d l :=
  ⟨h.ex, h.alive, h.unarmed, h.count, h.bytes, Nat.le_trans h.gen hg, h.len.mono hn, Nat.le_trans h.steps hs, h.lives⟩
theorem LogI.f01 {recs : List (List UInt8)} {s g n : Nat} {d : DiskM} {l : WalM} (h : LogI recs s g n d l) : F01 l.f := by
  obtain ⟨rs, more, -, hg⟩ := h.ex
  exact hg.f01
theorem LogI.size {recs : List (List UInt8)} {s g n : Nat} {d : DiskM} {l : WalM} (h : LogI recs s g n d l) : (d.file l.f).b.length = 26 + 9 * recs.length + recs.flatten.length := by
  obtain ⟨rs, more, rfl, hg⟩ := h.ex
  rw [hg.b, List.length_append, fileW_len, appR_len, List.length_append, List.flatten_append, List.length_append]
  omega
theorem LogI.small {recs : List (List UInt8)} {s g n : Nat} {d : DiskM} {l : WalM} (h : LogI recs s g n d l) : Small recs := by
  obtain ⟨rs, more, rfl, hg⟩ := h.ex
  exact hg.rs.app hg.more
theorem LogI.fit {recs : List (List UInt8)} {s g n : Nat} {d : DiskM} {l : WalM} (h : LogI recs s g n d l) (hs : s < 999990) : d.Fit := ⟨h.alive.2.2.2, by have := h.steps; omega⟩
theorem LogI.wfit {recs : List (List UInt8)} {s g n : Nat} {d : DiskM} {l : WalM} (h : LogI recs s g n d l) (hg : g ≤ 1000000) (hn : n ≤ 1000000) : l.Fit := by
  have h1 := h.size
  have h2 := h.len _ h.f01
  exact ⟨by rw [h.count]; omega, by rw [h.bytes]; omega, by have := h.gen; omega⟩
theorem LogI.new : ∃ d l, openW DiskM.new none none = (0, d, some (l, [])) ∧ LogI [] 3 1 26 d l := by
  obtain ⟨d, l, h, hg, ha, hu, hs, hv, hgen, hc, hb, hl, hla⟩ := open_new
  refine ⟨d, l, h, ⟨[], [], rfl, hg⟩, ha, hu, hc, ?_, by omega, hl, hs, hv⟩
  rw [hb, hg.b]
  simp [recsF, fileW_len]
theorem LogI.app {recs : List (List UInt8)} {s g n : Nat} {d : DiskM} {l : WalM} (h : LogI recs s g n d l) (r : List UInt8) (hr : r.length ≤ 1048575) (hn : 26 + 9 * (recs.length + 1) + (recs.flatten.length + r.length) ≤ n) :
    ∃ d' l', appendW d l r = (0, d', l') ∧ LogI (recs ++ [r]) (s + 1) g n d' l' ∧ l'.f = l.f := by
  obtain ⟨rs, more, hrm, hg⟩ := h.ex
  rcases append_good r h.alive hg.f01 with ⟨-, h1⟩ | ⟨d', h1, hd⟩
  · have := h.unarmed; omega
  · have hb : (d'.file l.f).b = (d.file l.f).b ++ recF (82 :: r) := by rw [hd.file]
    refine ⟨d', _, h1, ⟨⟨rs, more ++ [r], by rw [← hrm, List.append_assoc], hg.app hr hd⟩, h.alive.did hd rfl rfl, ?_, ?_, ?_, h.gen, ?_, ?_, ?_⟩, rfl⟩
    · have := hd.armed.1 h.unarmed; have := h.unarmed; omega
    · show l.count + 1 = _; rw [h.count]; simp
    · show l.bytes + (9 + r.length) = (d'.file l.f).b.length
      rw [hb, h.bytes, List.length_append, recF_len]; simp; omega
    · refine hd.len hg.f01 h.len ?_
      show ((d.file l.f).b ++ recF (82 :: r)).length ≤ n
      rw [List.length_append, recF_len, h.size]; simp only [List.length_cons]; omega
    · rw [hd.steps]; have := h.steps; omega
    · rw [hd.lives]; exact h.lives
theorem LogI.rew {recs : List (List UInt8)} {s g n : Nat} {d : DiskM} {l : WalM} (h : LogI recs s g n d l) (rs' : List (List UInt8)) (hr : Small rs') (hn : 26 + 9 * rs'.length + rs'.flatten.length ≤ n) (hgb : g + 1 < 4611686018427387904) :
    ∃ d' l', rewriteW d l rs' = (0, d', l') ∧ LogI rs' (s + 3) (g + 1) n d' l' ∧ (d'.file l'.f).last = (d'.file l'.f).b.length := by
  obtain ⟨rs, more, hrm, hg⟩ := h.ex
  have hge := h.gen
  rcases rewrite_good rs' h.alive (by omega) with ⟨d', -, h1⟩ | ⟨d1, d2, d3, h0, h1, h2, h3⟩
  · have := h1.armed.1; have := h.unarmed; omega
  · have hoe := other_eq hg.f01
    obtain ⟨o1, o2, o3⟩ := hg.f01.other
    rw [hoe] at h1 h2 h3
    have low1 : Low (d.file l.f).b (l.gen + 1) := by rw [hg.b]; exact Low.file hg.gen (by omega) rs more hg.rs hg.more
    have hnx := Good.next hg.f01 ⟨by omega, by omega⟩ hr low1 hg.last.2 h1 h2 h3
    have a1 := h.alive.did (l' := l) h1 rfl rfl
    have a2 := a1.did (l' := l) h2 rfl rfl
    have a3 := a2.did (l' := { l with f := l.other, gen := l.gen + 1, count := rs'.length, bytes := (fileW (l.gen + 1) rs').length }) h3 rfl rfl
    have e1 := h1.armed.1 h.unarmed
    have e2 := h2.armed.1 (by rw [e1]; exact h.unarmed)
    have e3 := h3.armed.1 (by rw [e2, e1]; exact h.unarmed)
    have hu := h.unarmed
    have hb1 : (d1.file (1 - l.f)).b = [] := by rw [h1.file]
    have l1 := h1.len o1 h.len (by simp)
    have l2 := h2.len o1 l1 (by show ((d1.file (1 - l.f)).b ++ fileW (l.gen + 1) rs').length ≤ n; rw [hb1, List.nil_append, fileW_len]; exact hn)
    have l3 := h3.len o1 l2 (l2 _ o1)
    refine ⟨d3, _, h0, ⟨⟨rs', [], by simp, ?_⟩, a3, by omega, rfl, ?_, by show l.gen + 1 ≤ _; omega, l3, by rw [h3.steps, h2.steps, h1.steps]; have := h.steps; omega, by rw [h3.lives, h2.lives, h1.lives]; exact h.lives⟩, ?_⟩
    · show Good d3 l.other (l.gen + 1) rs' []
      rw [hoe]; exact hnx.1
    · show (fileW (l.gen + 1) rs').length = (d3.file l.other).b.length
      rw [hoe, hnx.1.b]; simp [recsF]
    · show (d3.file l.other).last = (d3.file l.other).b.length
      rw [hoe]; exact hnx.2
/-- A sync, and a failure of the power behind it: all is read. -/
theorem LogI.syn {recs : List (List UInt8)} {s g n : Nat} {d : DiskM} {l : WalM} (h : LogI recs s g n d l) :
    ∃ d', syncW d l = (0, d', l) ∧ LogI recs (s + 1) g n d' l ∧ (d'.file l.f).last = (d'.file l.f).b.length ∧ d'.Ok := by
  obtain ⟨rs, more, hrm, hg⟩ := h.ex
  rcases sync_good h.alive hg.f01 with ⟨-, h1⟩ | ⟨d', h1, hd⟩
  · have := h.unarmed; omega
  · have hs := hg.syn hd
    have ha := h.alive.did (l' := l) hd rfl rfl
    have hb : (d'.file l.f).b = (d.file l.f).b := by rw [hd.file]
    refine ⟨d', h1, ⟨⟨rs, more, hrm, hs.1⟩, ha, by have := hd.armed.1 h.unarmed; have := h.unarmed; omega, h.count, by rw [hb]; exact h.bytes, h.gen, hd.len hg.f01 h.len (h.len _ hg.f01), by rw [hd.steps]; have := h.steps; omega, by rw [hd.lives]; exact h.lives⟩, hs.2, ?_⟩
    have q1 := hs.1.last
    have q2 := hs.1.low2
    rcases hg.f01 with e | e
    · rw [e] at q1 q2; exact ⟨q1.2, q2, ha.2.2.2⟩
    · rw [e] at q1 q2; exact ⟨q2, q1.2, ha.2.2.2⟩
theorem LogI.again {recs : List (List UInt8)} {s g n : Nat} {d : DiskM} {l : WalM} (h : LogI recs s g n d l) (hl : (d.file l.f).last = (d.file l.f).b.length) (hg : g + 1 < 4611686018427387904) (hn : 26 ≤ n) (keep : List Int) {m0 m1 : Option LookM}
    (h0 : LookF (d.power keep).f0.b m0) (h1 : LookF (d.power keep).f1.b m1) :
    ∃ d' l', openW (d.power keep) m0 m1 = (0, d', some (l', recs)) ∧ Opened d' l' recs (g + 1) ∧ d'.steps ≤ s + 3 ∧ d'.lives = 1 ∧ Len d' n ∧ -1 ≤ d'.armed ∧ d'.armed ≤ 9223372036854775807 := by
  obtain ⟨rs, more, hrm, hgd⟩ := h.ex
  obtain ⟨d', l', a1, a2, a3, a4, a5⟩ := hgd.reopen_all hl (by have := h.gen; omega) keep h0 h1
  rw [hrm] at a1 a2
  have hk := openW_kept h0 h1 (h.len.power keep) hn ⟨Int.le_refl _, show (-1 : Int) ≤ _ by decide⟩
  rw [a1] at hk
  exact ⟨d', l', a1, ⟨a2.good, a2.alive, a2.count, a2.bytes, by have := a2.gen; have := h.gen; omega⟩, by have := h.steps; omega, by rw [a5, h.lives], hk.len, hk.armed⟩
end Go.Proofs.Ytpjinngngbifoaa
namespace Go.Proofs.Ytpjinngngbifoaa
open Go.RowKit
structure Fair (d : DiskM) (f : Int) (g : Nat) (rs more : List (List UInt8)) : Prop where
  f01 : F01 f
  b : (d.file f).b = fileW g rs ++ recsF (more.map (82 :: ·))
  last : (d.file f).last ≤ (d.file f).b.length
  gen : 1 ≤ g ∧ g < 4611686018427387904
  rs : Small rs
  more : Small more
  low2 : (d.file (1 - f)).last ≤ (d.file (1 - f)).b.length
theorem Good.fair {d : DiskM} {f : Int} {g : Nat} {rs more : List (List UInt8)} (h : Good d f g rs more) : Fair d f g rs more := ⟨h.f01, h.b, h.last.2, h.gen, h.rs, h.more, h.low2⟩
structure LogJ (recs : List (List UInt8)) (s g n : Nat) (d : DiskM) (l : WalM) : Prop where
  ex : ∃ rs more, rs ++ more = recs ∧ Fair d l.f l.gen rs more
  alive : Alive d l
  unarmed : d.armed < 0
  count : l.count = recs.length
  bytes : l.bytes = (d.file l.f).b.length
  gen : l.gen = g
  len : Len d n
  steps : d.steps ≤ s
  lives : d.lives = 0
theorem LogJ.f01 {recs : List (List UInt8)} {s g n : Nat} {d : DiskM} {l : WalM} (h : LogJ recs s g n d l) : F01 l.f := by
  obtain ⟨rs, more, -, hg⟩ := h.ex
  exact hg.f01
theorem LogJ.size {recs : List (List UInt8)} {s g n : Nat} {d : DiskM} {l : WalM} (h : LogJ recs s g n d l) : (d.file l.f).b.length = 26 + 9 * recs.length + recs.flatten.length := by
  obtain ⟨rs, more, rfl, hg⟩ := h.ex
  rw [hg.b, List.length_append, fileW_len, appR_len, List.length_append, List.flatten_append, List.length_append]
  omega
theorem LogJ.small {recs : List (List UInt8)} {s g n : Nat} {d : DiskM} {l : WalM} (h : LogJ recs s g n d l) : Small recs := by
  obtain ⟨rs, more, rfl, hg⟩ := h.ex
  exact hg.rs.app hg.more
theorem LogJ.fit {recs : List (List UInt8)} {s g n : Nat} {d : DiskM} {l : WalM} (h : LogJ recs s g n d l) (hs : s < 999990) : d.Fit := ⟨h.alive.2.2.2, by have := h.steps; omega⟩
theorem LogJ.wfit {recs : List (List UInt8)} {s g n : Nat} {d : DiskM} {l : WalM} (h : LogJ recs s g n d l) (hn : n ≤ 1000000) : l.Fit := by
  have h1 := h.size
  have h2 := h.len _ h.f01
  obtain ⟨rs, more, -, hg⟩ := h.ex
  have := hg.gen
  exact ⟨by rw [h.count]; omega, by rw [h.bytes]; omega, by omega⟩
theorem LogJ.live {recs : List (List UInt8)} {s g n : Nat} {d : DiskM} {l : WalM} (h : LogJ recs s g n d l) : (if l.over d = true then 0 else l.count : Nat) = recs.length := by
  rw [if_neg (by simp [h.alive.over]), h.count]
theorem LogJ.app {recs : List (List UInt8)} {s g n : Nat} {d : DiskM} {l : WalM} (h : LogJ recs s g n d l) (r : List UInt8) (hr : r.length ≤ 1048575) (hn : 26 + 9 * (recs.length + 1) + (recs.flatten.length + r.length) ≤ n) :
    ∃ d' l', appendW d l r = (0, d', l') ∧ LogJ (recs ++ [r]) (s + 1) g n d' l' ∧ l'.f = l.f ∧ l'.lives = l.lives ∧ d'.file (1 - l.f) = d.file (1 - l.f) := by
  obtain ⟨rs, more, hrm, hg⟩ := h.ex
  obtain ⟨o1, o2, o3⟩ := hg.f01.other
  rcases append_good r h.alive hg.f01 with ⟨-, h1⟩ | ⟨d', h1, hd⟩
  · have := h.unarmed; omega
  · have hb : (d'.file l.f).b = (d.file l.f).b ++ recF (82 :: r) := by rw [hd.file]
    have hl : (d'.file l.f).last = (d.file l.f).last := by rw [hd.file]
    have ho := hd.other _ o1 o2
    refine ⟨d', _, h1, ⟨⟨rs, more ++ [r], by rw [← hrm, List.append_assoc], ⟨hg.f01, ?_, ?_, hg.gen, hg.rs, ?_, ?_⟩⟩, h.alive.did hd rfl rfl, ?_, ?_, ?_, h.gen, ?_, ?_, ?_⟩, rfl, rfl, ho⟩
    · show (d'.file l.f).b = _
      rw [hb, hg.b, List.map_append, recsF_app, List.append_assoc]; simp [recsF]
    · show (d'.file l.f).last ≤ (d'.file l.f).b.length
      rw [hl, hb, List.length_append]; have := hg.last; omega
    · intro x hx
      rcases List.mem_append.1 hx with hx | hx
      · exact hg.more x hx
      · rw [List.mem_singleton.1 hx]; exact hr
    · show (d'.file (1 - l.f)).last ≤ _
      rw [ho]; exact hg.low2
    · have := hd.armed.1 h.unarmed; have := h.unarmed; omega
    · show l.count + 1 = _; rw [h.count]; simp
    · show l.bytes + (9 + r.length) = (d'.file l.f).b.length
      rw [hb, h.bytes, List.length_append, recF_len]; simp; omega
    · refine hd.len hg.f01 h.len ?_
      show ((d.file l.f).b ++ recF (82 :: r)).length ≤ n
      rw [List.length_append, recF_len, h.size]; simp only [List.length_cons]; omega
    · rw [hd.steps]; have := h.steps; omega
    · rw [hd.lives]; exact h.lives
theorem LogJ.syn {recs : List (List UInt8)} {s g n : Nat} {d : DiskM} {l : WalM} (h : LogJ recs s g n d l) :
    ∃ d', syncW d l = (0, d', l) ∧ LogJ recs (s + 1) g n d' l ∧ (d'.file l.f).last = (d'.file l.f).b.length ∧ d'.Ok ∧ d'.file (1 - l.f) = d.file (1 - l.f) := by
  obtain ⟨rs, more, hrm, hg⟩ := h.ex
  obtain ⟨o1, o2, o3⟩ := hg.f01.other
  rcases sync_good h.alive hg.f01 with ⟨-, h1⟩ | ⟨d', h1, hd⟩
  · have := h.unarmed; omega
  · have ha := h.alive.did (l' := l) hd rfl rfl
    have hb : (d'.file l.f).b = (d.file l.f).b := by rw [hd.file]
    have hl : (d'.file l.f).last = (d'.file l.f).b.length := by rw [hd.file]
    have ho := hd.other _ o1 o2
    have hlow2 := hg.low2
    rw [← ho] at hlow2
    refine ⟨d', h1, ⟨⟨rs, more, hrm, ⟨hg.f01, by rw [hb]; exact hg.b, Nat.le_of_eq hl, hg.gen, hg.rs, hg.more, hlow2⟩⟩, ha, by have := hd.armed.1 h.unarmed; have := h.unarmed; omega, h.count, by rw [hb]; exact h.bytes, h.gen, hd.len hg.f01 h.len (h.len _ hg.f01), by rw [hd.steps]; have := h.steps; omega, by rw [hd.lives]; exact h.lives⟩, hl, ?_, ho⟩
    rcases hg.f01 with e | e
    · rw [e] at hl hlow2; exact ⟨Nat.le_of_eq hl, hlow2, ha.2.2.2⟩
    · rw [e] at hl hlow2; exact ⟨hlow2, Nat.le_of_eq hl, ha.2.2.2⟩
/-- A rewrite that is not armed, whatever the file that is read. -/
theorem rewrite_fresh {d : DiskM} {l : WalM} {s g n : Nat} (rs : List (List UInt8)) (ha : Alive d l) (hu : d.armed < 0) (hf : F01 l.f) (hg : l.gen + 1 = g) (hgb : g < 4611686018427387904) (hr : Small rs) (hlow : Low (d.file l.f).b g) (hlast : (d.file l.f).last ≤ (d.file l.f).b.length) (hlen : Len d n) (hn : 26 + 9 * rs.length + rs.flatten.length ≤ n)
    (hs : d.steps ≤ s) (hlv : d.lives = 0) : ∃ d' l', rewriteW d l rs = (0, d', l') ∧ LogJ rs (s + 3) g n d' l' ∧ Good d' l'.f l'.gen rs [] ∧ (d'.file l'.f).last = (d'.file l'.f).b.length ∧ l'.f = 1 - l.f := by
  subst hg
  rcases rewrite_good rs ha (by omega) with ⟨d', -, h1⟩ | ⟨d1, d2, d3, h0, h1, h2, h3⟩
  · have := h1.armed.1; omega
  · have hoe := other_eq hf
    obtain ⟨o1, o2, o3⟩ := hf.other
    rw [hoe] at h1 h2 h3
    have hnx := Good.next hf ⟨by omega, by omega⟩ hr hlow hlast h1 h2 h3
    have a1 := ha.did (l' := l) h1 rfl rfl
    have a2 := a1.did (l' := l) h2 rfl rfl
    have a3 := a2.did (l' := { l with f := l.other, gen := l.gen + 1, count := rs.length, bytes := (fileW (l.gen + 1) rs).length }) h3 rfl rfl
    have e1 := h1.armed.1 hu
    have e2 := h2.armed.1 (by rw [e1]; exact hu)
    have e3 := h3.armed.1 (by rw [e2, e1]; exact hu)
    have hb1 : (d1.file (1 - l.f)).b = [] := by rw [h1.file]
    have l1 := h1.len o1 hlen (by simp)
    have l2 := h2.len o1 l1 (by show ((d1.file (1 - l.f)).b ++ fileW (l.gen + 1) rs).length ≤ n; rw [hb1, List.nil_append, fileW_len]; exact hn)
    have l3 := h3.len o1 l2 (l2 _ o1)
    have hgd : Good d3 l.other (l.gen + 1) rs [] := by rw [hoe]; exact hnx.1
    have hgl : (d3.file l.other).last = (d3.file l.other).b.length := by rw [hoe]; exact hnx.2
    refine ⟨d3, _, h0, ⟨⟨rs, [], by simp, hgd.fair⟩, a3, by omega, rfl, ?_, rfl, l3, by rw [h3.steps, h2.steps, h1.steps]; omega, by rw [h3.lives, h2.lives, h1.lives]; exact hlv⟩, hgd, hgl, hoe⟩
    show (fileW (l.gen + 1) rs).length = (d3.file l.other).b.length
    rw [hoe, hnx.1.b]; simp [recsF]
theorem LogJ.rew {recs : List (List UInt8)} {s g n : Nat} {d : DiskM} {l : WalM} (h : LogJ recs s g n d l) (rs' : List (List UInt8)) (hr : Small rs') (hn : 26 + 9 * rs'.length + rs'.flatten.length ≤ n) (hgb : g + 1 < 4611686018427387904) :
    ∃ d' l', rewriteW d l rs' = (0, d', l') ∧ LogJ rs' (s + 3) (g + 1) n d' l' := by
  obtain ⟨rs, more, hrm, hg⟩ := h.ex
  have hge := h.gen
  obtain ⟨d', l', h1, h2, -⟩ := rewrite_fresh (s := s) (n := n) rs' h.alive h.unarmed hg.f01 (by rw [hge]) hgb hr (by rw [hg.b]; exact Low.file hg.gen (by omega) rs more hg.rs hg.more) hg.last h.len hn h.steps h.lives
  exact ⟨d', l', h1, h2⟩
/-- A failure of the power behind a sync, the other file being low then: all is read. -/
theorem LogJ.again {recs : List (List UInt8)} {s g n : Nat} {d : DiskM} {l : WalM} (h : LogJ recs s g n d l) (hl : (d.file l.f).last = (d.file l.f).b.length) (hlow : Low ((d.power []).file (1 - l.f)).b l.gen) (hg : g + 1 < 4611686018427387904) (hn : 26 ≤ n) {m0 m1 : Option LookM}
    (h0 : LookF (d.power []).f0.b m0) (h1 : LookF (d.power []).f1.b m1) :
    ∃ d' l', openW (d.power []) m0 m1 = (0, d', some (l', recs)) ∧ Opened d' l' recs (g + 1) ∧ d'.steps ≤ s + 3 ∧ d'.lives = 1 := by
  obtain ⟨rs, more, hrm, hgd⟩ := h.ex
  obtain ⟨o1, o2, o3⟩ := hgd.f01.other
  obtain ⟨k, hk, e⟩ := power_file d [] hgd.f01
  obtain ⟨k', hk', e'⟩ := power_file d [] o1
  have hk0 : k = 0 := by omega
  have hfile : (d.power []).file l.f = d.file l.f := by
    rw [e, hk0]
    simp only [FileM.cut, Nat.add_zero]
    rw [hl, List.take_length]
    have : d.file l.f = ⟨(d.file l.f).b, (d.file l.f).last⟩ := rfl
    rw [this]
    simp only
    rw [hl]
  have hl2 : ((d.power []).file (1 - l.f)).last ≤ ((d.power []).file (1 - l.f)).b.length := by
    rw [e']
    simp only [FileM.cut, List.length_take]
    have := hgd.low2
    omega
  have hlk : LookF ((d.power []).file l.f).b (some ⟨l.gen, rs ++ more, false⟩) := by
    rw [hfile, hgd.b]
    have := look_tail hgd.gen rs more hgd.rs hgd.more [] (by decide)
    simpa using this
  have hge := h.gen
  have key : ∀ mo, (if l.f = 0 then m0 else m1) = some ⟨l.gen, rs ++ more, false⟩ → (if l.f = 0 then m1 else m0) = mo → LookF ((d.power []).file (1 - l.f)).b mo →
      ∃ d' l', openW (d.power []) m0 m1 = (0, d', some (l', rs ++ more)) ∧ Opened d' l' (rs ++ more) (l.gen + 1) ∧ d'.steps ≤ d.steps + 3 ∧ d'.lives = d.lives + 1 := by
    intro mo hm ho hmo
    obtain ⟨d', l', a1, a2, a3, a4, a5, -, -⟩ := open_good hlk hgd.f01 ⟨hgd.gen.1, by omega⟩ hgd.rs hgd.more (fun _ => ⟨by rw [hfile]; exact hgd.b, by rw [hfile]; exact hl⟩) (by rw [hfile, hgd.b]; exact Low.file hgd.gen (by omega) rs more hgd.rs hgd.more) (by rw [hfile, hl]; exact Nat.le_refl _) hlow hl2 hm ho hmo rfl ⟨show (-1 : Int) < 0 by decide, Int.le_refl _⟩
    exact ⟨d', l', a1, a2, a4, a5⟩
  have fin : ∃ d' l', openW (d.power []) m0 m1 = (0, d', some (l', rs ++ more)) ∧ Opened d' l' (rs ++ more) (l.gen + 1) ∧ d'.steps ≤ d.steps + 3 ∧ d'.lives = d.lives + 1 := by
    rcases hgd.f01 with e0 | e0
    · rw [e0] at hlk hlow key
      obtain rfl := h0.uniq hlk
      exact key m1 rfl rfl h1
    · rw [e0] at hlk hlow key
      obtain rfl := h1.uniq hlk
      exact key m0 rfl rfl h0
  obtain ⟨d', l', a1, a2, a3, a4⟩ := fin
  rw [hrm] at a1 a2
  exact ⟨d', l', a1, ⟨a2.good, a2.alive, a2.count, a2.bytes, by have := a2.gen; omega⟩, by have := h.steps; omega, by rw [a4, h.lives]⟩
end Go.Proofs.Ytpjinngngbifoaa
namespace Go.Proofs.Ytpjinngngbifoaa
open Go.RowKit
/-- One file wins, whatever is armed. -/
structure Win (d : DiskM) (f : Int) (g : Nat) (R : List (List UInt8)) (sp : Bool) : Prop where
  f01 : F01 f
  look : LookF (d.file f).b (some ⟨g, R, sp⟩)
  plain : sp = false → ∃ rs more, rs ++ more = R ∧ (d.file f).b = fileW g rs ++ recsF (more.map (82 :: ·))
  last : (d.file f).last = (d.file f).b.length
  last2 : (d.file (1 - f)).last = (d.file (1 - f)).b.length
  low : Low (d.file f).b (g + 1)
  low2 : Low (d.file (1 - f)).b g
  gen : 1 ≤ g
  small : Small R
theorem cut_all {x : FileM} {n : Nat} (h : x.last = x.b.length) (hn : n ≤ x.b.length - x.last) : x.cut n = x := by
  have : n = 0 := by omega
  subst this
  simp only [FileM.cut, Nat.add_zero]
  rw [h, List.take_length]
  cases x
  simp at h
  simp [h]
/-- A file that was written, not let last, and cut off. -/
theorem half_low {g : Nat} (hg : 1 ≤ g ∧ g < 4611686018427387904) (rs : List (List UInt8)) (hr : Small rs) (k : Nat) (hk : k < (fileW g rs).length) : Low ((fileW g rs).take k) 1 := by
  intro j hj
  rw [List.take_take]
  have hjk : min j k < (fileW g rs).length := by omega
  rcases cut_whole hg rs hr (min j k) (by omega) with h | ⟨h, -⟩
  · exact ⟨none, h, fun x hx => by cases hx⟩
  · omega
/-- The other file behind a rewrite that failed, cut off: it wins, or it does not. -/
theorem Win.power_half {d d' : DiskM} {f : Int} {g : Nat} {R : List (List UInt8)} {sp : Bool} {N : List (List UInt8)} (keep : List Int) (hg : g + 1 < 4611686018427387904) (hf : F01 f) (hN : Small N) (hgen : 1 ≤ g)
    (hlook : LookF ((d'.power keep).file f).b (some ⟨g, R, sp⟩)) (hplain : sp = false → ∃ rs more, rs ++ more = R ∧ ((d'.power keep).file f).b = fileW g rs ++ recsF (more.map (82 :: ·))) (hlast : ((d'.power keep).file f).last = ((d'.power keep).file f).b.length) (hlow : Low ((d'.power keep).file f).b (g + 1)) (hR : Small R)
    (ho : (Low (d'.file (1 - f)).b g ∧ (d'.file (1 - f)).last ≤ (d'.file (1 - f)).b.length) ∨ d'.file (1 - f) = ⟨fileW (g + 1) N, 0⟩) :
    Win (d'.power keep) f g R sp ∨ Win (d'.power keep) (1 - f) (g + 1) N false := by
  obtain ⟨o1, o2, o3⟩ := hf.other
  obtain ⟨n, hn, e⟩ := power_file d' keep o1
  rcases ho with ⟨h1, h2⟩ | h
  · refine Or.inl ⟨hf, hlook, hplain, hlast, ?_, hlow, ?_, hgen, hR⟩
    · rw [e]; simp only [FileM.cut, List.length_take]; omega
    · rw [e]; exact h1.cut _
  · rw [h] at e hn
    have hb : ((d'.power keep).file (1 - f)).b = (fileW (g + 1) N).take n := by rw [e]; simp [FileM.cut]
    have hl : ((d'.power keep).file (1 - f)).last = n := by rw [e]; simp [FileM.cut]
    have hn' : n ≤ (fileW (g + 1) N).length := by simpa using hn
    have hll : ((d'.power keep).file (1 - f)).last = ((d'.power keep).file (1 - f)).b.length := by rw [hb, hl, List.length_take]; omega
    rcases Nat.lt_or_ge n (fileW (g + 1) N).length with hlt | hge
    · refine Or.inl ⟨hf, hlook, hplain, hlast, hll, hlow, ?_, hgen, hR⟩
      rw [hb]
      exact (half_low ⟨by omega, hg⟩ N hN n hlt).mono hgen
    · have hnn : n = (fileW (g + 1) N).length := by omega
      have hb' : ((d'.power keep).file (1 - f)).b = fileW (g + 1) N := by rw [hb, hnn, List.take_length]
      refine Or.inr ⟨o1, ?_, fun _ => ⟨N, [], by simp, by rw [hb']; simp [recsF]⟩, hll, by rw [o3]; exact hlast, ?_, by rw [o3]; exact hlow, by omega, hN⟩
      · rcases cut_whole ⟨by omega, hg⟩ N hN n (by omega) with h | ⟨-, h⟩
        · exfalso
          rw [hnn, List.take_length] at h
          have h2 := look_tail (g := g + 1) ⟨by omega, hg⟩ N [] hN (by simp) [] (by decide)
          have h3 : LookF (fileW (g + 1) N) (some ⟨g + 1, N, false⟩) := by simpa [recsF] using h2
          have := h.uniq h3
          cases this
        · rw [hnn, List.take_length] at h
          rw [hb']; exact h
      · rw [hb']
        have := Low.file (g := g + 1 + 1) (g' := g + 1) ⟨by omega, hg⟩ (by omega) N [] hN (by simp)
        simpa [recsF] using this
theorem Win.opened {d : DiskM} {f : Int} {g : Nat} {R : List (List UInt8)} {sp : Bool} (h : Win d f g R sp) {m0 m1 : Option LookM} (h0 : LookF d.f0.b m0) (h1 : LookF d.f1.b m1) :
    pickK d m0 m1 2 = ⟨f, g, R, (d.file f).b.length, sp⟩ := by
  have hlk := h.look
  have hl2 := h.low2
  rcases h.f01 with rfl | rfl
  · obtain rfl := h0.uniq hlk
    refine pick_low (x := ⟨g, R, sp⟩) (Or.inl rfl) h.gen rfl rfl ?_
    obtain ⟨m', k1, k2⟩ := hl2.whole
    obtain rfl := k1.uniq h1
    exact k2
  · obtain rfl := h1.uniq hlk
    refine pick_low (x := ⟨g, R, sp⟩) (Or.inr rfl) h.gen rfl rfl ?_
    obtain ⟨m', k1, k2⟩ := hl2.whole
    obtain rfl := k1.uniq h0
    exact k2
/-- A failure of the power where nothing was done. -/
theorem Win.power {d : DiskM} {f : Int} {g : Nat} {R : List (List UInt8)} {sp : Bool} (h : Win d f g R sp) (keep : List Int) : Win (d.power keep) f g R sp := by
  obtain ⟨o1, o2, o3⟩ := h.f01.other
  obtain ⟨n, hn, e⟩ := power_file d keep h.f01
  obtain ⟨n', hn', e'⟩ := power_file d keep o1
  rw [cut_all h.last hn] at e
  rw [cut_all h.last2 hn'] at e'
  exact ⟨h.f01, by rw [e]; exact h.look, by rw [e]; exact h.plain, by rw [e]; exact h.last, by rw [e']; exact h.last2, by rw [e]; exact h.low, by rw [e']; exact h.low2, h.gen, h.small⟩
/-- An opening on an armed disk, and a failure of the power: the same records win. -/
theorem Win.again {d : DiskM} {f : Int} {g : Nat} {R : List (List UInt8)} {sp : Bool} (h : Win d f g R sp) (hg : g + 1 < 4611686018427387904) (hoff : d.off = false) (ha : -1 ≤ d.armed ∧ d.armed ≤ 9223372036854775807) (keep : List Int) {m0 m1 : Option LookM} (h0 : LookF d.f0.b m0) (h1 : LookF d.f1.b m1) :
    ∃ f' g' sp', Win ((openW d m0 m1).2.1.power keep) f' g' R sp' ∧ g' ≤ g + 1 := by
  obtain ⟨o1, o2, o3⟩ := h.f01.other
  unfold openW
  rw [if_neg (by simp [hoff]), h.opened h0 h1]
  unfold openR
  dsimp only
  have hf0 : ¬ f < 0 := by rcases h.f01 with rfl | rfl <;> decide
  cases sp with
  | false =>
    rw [if_neg (by simp [hf0])]
    exact ⟨f, g, false, h.power keep, by omega⟩
  | true =>
    rw [if_pos (Or.inr rfl)]
    have hal : Alive d (walOf d ⟨f, g, R, (d.file f).b.length, true⟩) := ⟨hoff, rfl, rfl, ha.1, ha.2⟩
    have hoe : (walOf d ⟨f, g, R, (d.file f).b.length, true⟩).other = 1 - f := other_eq (l := walOf d ⟨f, g, R, (d.file f).b.length, true⟩) h.f01
    rcases rewrite_good R hal hg with ⟨d', e, hh⟩ | ⟨d1, d2, d3, e, k1, k2, k3⟩
    · rw [e, if_pos (by show (6 : Int) ≠ 0; decide)]
      dsimp only
      rw [hoe] at hh
      have hs := hh.same
      rw [o3] at hs
      obtain ⟨n, hn, ep⟩ := power_file d' keep h.f01
      rw [hs, cut_all h.last (by rw [← hs]; exact hn)] at ep
      have key := Win.power_half (d := d) (d' := d') (g := g) (R := R) (sp := true) (N := R) keep hg h.f01 h.small h.gen (by rw [ep]; exact h.look) (fun e => by cases e) (by rw [ep]; exact h.last) (by rw [ep]; exact h.low) h.small (by
        rcases hh.other with q | q | q
        · rw [q]; exact Or.inl ⟨h.low2, Nat.le_of_eq h.last2⟩
        · rw [q]; exact Or.inl ⟨Low.nil _, Nat.le_refl _⟩
        · exact Or.inr q)
      rcases key with q | q
      · exact ⟨f, g, true, q, by omega⟩
      · exact ⟨1 - f, g + 1, false, q, Nat.le_refl _⟩
    · rw [e, if_neg (by simp)]
      dsimp only
      rw [hoe] at k1 k2 k3
      have hnx := Good.next h.f01 ⟨by show 1 ≤ g + 1; omega, hg⟩ h.small h.low (Nat.le_of_eq h.last) k1 k2 k3
      have hb : (d3.file (1 - f)).b = fileW (g + 1) R := by rw [hnx.1.b]; simp [recsF]
      have hfo : d3.file f = d.file f := by rw [k3.other f h.f01 (Ne.symm o2), k2.other f h.f01 (Ne.symm o2), k1.other f h.f01 (Ne.symm o2)]
      refine ⟨1 - f, g + 1, false, Win.power ⟨o1, ?_, fun _ => ⟨R, [], by simp, by rw [hb]; simp [recsF]⟩, hnx.2, by rw [o3, hfo]; exact h.last, ?_, by rw [o3, hfo]; exact h.low, by omega, h.small⟩ keep, Nat.le_refl _⟩
      · rw [hb]
        have h2 := look_tail (g := g + 1) ⟨by omega, hg⟩ R [] h.small (by simp) [] (by decide)
        simpa [recsF] using h2
      · rw [hb]
        have := Low.file (g := g + 1 + 1) (g' := g + 1) ⟨by omega, hg⟩ (by omega) R [] h.small (by simp)
        simpa [recsF] using this
/-- Where the run stands; off: nothing is done any more. -/
structure RunI (now : List (List UInt8)) (safe : Nat) (failed : Bool) (next : List (List UInt8)) (d : DiskM) (f : Int) (g : Nat) : Prop where
  main : ∃ rs more, rs ++ more = now ∧ f = f ∧ F01 f ∧ (d.file f).b = fileW g rs ++ recsF (more.map (82 :: ·)) ∧ (fileW g rs).length ≤ (d.file f).last ∧ (d.file f).last ≤ (d.file f).b.length ∧ Small rs ∧ Small more ∧
    ∃ i, i ≤ more.length ∧ safe ≤ rs.length + i ∧ (fileW g rs ++ recsF ((more.take i).map (82 :: ·))).length ≤ (d.file f).last
  gen : 1 ≤ g ∧ g + 1 < 4611686018427387904
  other : (Low (d.file (1 - f)).b g ∧ (d.file (1 - f)).last ≤ (d.file (1 - f)).b.length) ∨ (failed = true ∧ d.file (1 - f) = ⟨fileW (g + 1) next, 0⟩ ∧ Small next)
end Go.Proofs.Ytpjinngngbifoaa
