/-
  The plain laws of WalLast and WalPicks: files by hand.
-/
import Derived.Test.YtpjinngngbifoaaWalGo
set_option linter.unusedSimpArgs false
set_option linter.unusedVariables false
namespace Go.Proofs.Ytpjinngngbifoaa
open Go.RowKit

structure Fair (d : DiskM) (f : Int) (g : Nat) (rs more : List (List UInt8)) : Prop where
  f01 : F01 f
  b : (d.file f).b = fileW g rs ++ recsF (more.map (82 :: ·))
  last : (d.file f).last ≤ (d.file f).b.length
  gen : 1 ≤ g ∧ g < 4611686018427387904
  rs : Small rs
  more : Small more
  low2 : (d.file (1 - f)).last ≤ (d.file (1 - f)).b.length
theorem Good.fair {d : DiskM} {f : Int} {g : Nat} {rs more : List (List UInt8)} (h : Good d f g rs more) : Fair d f g rs more := ⟨h.f01, h.b, h.last.2, h.gen, h.rs, h.more, h.low2⟩
structure LogJ (recs : List (List UInt8)) (s g n : Nat) (d : DiskM) (l : WalM) : Prop where
  ex : ∃ rs more, rs ++ more = recs ∧ Fair d l.f l.gen rs more
  alive : Alive d l
  unarmed : d.armed < 0
  count : l.count = recs.length
  bytes : l.bytes = (d.file l.f).b.length
  gen : l.gen = g
  len : Len d n
  steps : d.steps ≤ s
  lives : d.lives = 0
theorem LogJ.f01 {recs : List (List UInt8)} {s g n : Nat} {d : DiskM} {l : WalM} (h : LogJ recs s g n d l) : F01 l.f := by
  obtain ⟨rs, more, -, hg⟩ := h.ex
  exact hg.f01
theorem LogJ.size {recs : List (List UInt8)} {s g n : Nat} {d : DiskM} {l : WalM} (h : LogJ recs s g n d l) : (d.file l.f).b.length = 26 + 9 * recs.length + recs.flatten.length := by
  obtain ⟨rs, more, rfl, hg⟩ := h.ex
  rw [hg.b, List.length_append, fileW_len, appR_len, List.length_append, List.flatten_append, List.length_append]
  omega
theorem LogJ.small {recs : List (List UInt8)} {s g n : Nat} {d : DiskM} {l : WalM} (h : LogJ recs s g n d l) : Small recs := by
  obtain ⟨rs, more, rfl, hg⟩ := h.ex
  exact hg.rs.app hg.more
theorem LogJ.fit {recs : List (List UInt8)} {s g n : Nat} {d : DiskM} {l : WalM} (h : LogJ recs s g n d l) (hs : s < 999990) : d.Fit := ⟨h.alive.2.2.2, by have := h.steps; omega⟩
theorem LogJ.wfit {recs : List (List UInt8)} {s g n : Nat} {d : DiskM} {l : WalM} (h : LogJ recs s g n d l) (hn : n ≤ 1000000) : l.Fit := by
  have h1 := h.size
  have h2 := h.len _ h.f01
  obtain ⟨rs, more, -, hg⟩ := h.ex
  have := hg.gen
  exact ⟨by rw [h.count]; omega, by rw [h.bytes]; omega, by omega⟩
theorem LogJ.live {recs : List (List UInt8)} {s g n : Nat} {d : DiskM} {l : WalM} (h : LogJ recs s g n d l) : (if l.over d = true then 0 else l.count : Nat) = recs.length := by
  rw [if_neg (by simp [h.alive.over]), h.count]
theorem LogJ.app {recs : List (List UInt8)} {s g n : Nat} {d : DiskM} {l : WalM} (h : LogJ recs s g n d l) (r : List UInt8) (hr : r.length ≤ 1048575) (hn : 26 + 9 * (recs.length + 1) + (recs.flatten.length + r.length) ≤ n) :
    ∃ d' l', appendW d l r = (0, d', l') ∧ LogJ (recs ++ [r]) (s + 1) g n d' l' ∧ l'.f = l.f ∧ l'.lives = l.lives ∧ d'.file (1 - l.f) = d.file (1 - l.f) := by
  obtain ⟨rs, more, hrm, hg⟩ := h.ex
  obtain ⟨o1, o2, o3⟩ := hg.f01.other
  rcases append_good r h.alive hg.f01 with ⟨-, h1⟩ | ⟨d', h1, hd⟩
  · have := h.unarmed; omega
  · have hb : (d'.file l.f).b = (d.file l.f).b ++ recF (82 :: r) := by rw [hd.file]
    have hl : (d'.file l.f).last = (d.file l.f).last := by rw [hd.file]
    have ho := hd.other _ o1 o2
    refine ⟨d', _, h1, ⟨⟨rs, more ++ [r], by rw [← hrm, List.append_assoc], ⟨hg.f01, ?_, ?_, hg.gen, hg.rs, ?_, ?_⟩⟩, h.alive.did hd rfl rfl, ?_, ?_, ?_, h.gen, ?_, ?_, ?_⟩, rfl, rfl, ho⟩
    · show (d'.file l.f).b = _
      rw [hb, hg.b, List.map_append, recsF_app, List.append_assoc]; simp [recsF]
    · show (d'.file l.f).last ≤ (d'.file l.f).b.length
      rw [hl, hb, List.length_append]; have := hg.last; omega
    · intro x hx
      rcases List.mem_append.1 hx with hx | hx
      · exact hg.more x hx
      · rw [List.mem_singleton.1 hx]; exact hr
    · show (d'.file (1 - l.f)).last ≤ _
      rw [ho]; exact hg.low2
    · have := hd.armed.1 h.unarmed; have := h.unarmed; omega
    · show l.count + 1 = _; rw [h.count]; simp
    · show l.bytes + (9 + r.length) = (d'.file l.f).b.length
      rw [hb, h.bytes, List.length_append, recF_len]; simp; omega
    · refine hd.len hg.f01 h.len ?_
      show ((d.file l.f).b ++ recF (82 :: r)).length ≤ n
      rw [List.length_append, recF_len, h.size]; simp only [List.length_cons]; omega
    · rw [hd.steps]; have := h.steps; omega
    · rw [hd.lives]; exact h.lives
theorem LogJ.syn {recs : List (List UInt8)} {s g n : Nat} {d : DiskM} {l : WalM} (h : LogJ recs s g n d l) :
    ∃ d', syncW d l = (0, d', l) ∧ LogJ recs (s + 1) g n d' l ∧ (d'.file l.f).last = (d'.file l.f).b.length ∧ d'.Ok ∧ d'.file (1 - l.f) = d.file (1 - l.f) := by
  obtain ⟨rs, more, hrm, hg⟩ := h.ex
  obtain ⟨o1, o2, o3⟩ := hg.f01.other
  rcases sync_good h.alive hg.f01 with ⟨-, h1⟩ | ⟨d', h1, hd⟩
  · have := h.unarmed; omega
  · have ha := h.alive.did (l' := l) hd rfl rfl
    have hb : (d'.file l.f).b = (d.file l.f).b := by rw [hd.file]
    have hl : (d'.file l.f).last = (d'.file l.f).b.length := by rw [hd.file]
    have ho := hd.other _ o1 o2
    have hlow2 := hg.low2
    rw [← ho] at hlow2
    refine ⟨d', h1, ⟨⟨rs, more, hrm, ⟨hg.f01, by rw [hb]; exact hg.b, Nat.le_of_eq hl, hg.gen, hg.rs, hg.more, hlow2⟩⟩, ha, by have := hd.armed.1 h.unarmed; have := h.unarmed; omega, h.count, by rw [hb]; exact h.bytes, h.gen, hd.len hg.f01 h.len (h.len _ hg.f01), by rw [hd.steps]; have := h.steps; omega, by rw [hd.lives]; exact h.lives⟩, hl, ?_, ho⟩
    rcases hg.f01 with e | e
    · rw [e] at hl hlow2; exact ⟨Nat.le_of_eq hl, hlow2, ha.2.2.2⟩
    · rw [e] at hl hlow2; exact ⟨hlow2, Nat.le_of_eq hl, ha.2.2.2⟩
/-- A rewrite that is not armed, whatever the file that is read. -/
theorem rewrite_fresh {d : DiskM} {l : WalM} {s g n : Nat} (rs : List (List UInt8)) (ha : Alive d l) (hu : d.armed < 0) (hf : F01 l.f) (hg : l.gen + 1 = g) (hgb : g < 4611686018427387904) (hr : Small rs) (hlow : Low (d.file l.f).b g) (hlast : (d.file l.f).last ≤ (d.file l.f).b.length) (hlen : Len d n) (hn : 26 + 9 * rs.length + rs.flatten.length ≤ n)
    (hs : d.steps ≤ s) (hlv : d.lives = 0) : ∃ d' l', rewriteW d l rs = (0, d', l') ∧ LogJ rs (s + 3) g n d' l' ∧ Good d' l'.f l'.gen rs [] ∧ (d'.file l'.f).last = (d'.file l'.f).b.length ∧ l'.f = 1 - l.f := by
  subst hg
  rcases rewrite_good rs ha (by omega) with ⟨d', -, h1⟩ | ⟨d1, d2, d3, h0, h1, h2, h3⟩
  · have := h1.armed.1; omega
  · have hoe := other_eq hf
    obtain ⟨o1, o2, o3⟩ := hf.other
    rw [hoe] at h1 h2 h3
    have hnx := Good.next hf ⟨by omega, by omega⟩ hr hlow hlast h1 h2 h3
    have a1 := ha.did (l' := l) h1 rfl rfl
    have a2 := a1.did (l' := l) h2 rfl rfl
    have a3 := a2.did (l' := { l with f := l.other, gen := l.gen + 1, count := rs.length, bytes := (fileW (l.gen + 1) rs).length }) h3 rfl rfl
    have e1 := h1.armed.1 hu
    have e2 := h2.armed.1 (by rw [e1]; exact hu)
    have e3 := h3.armed.1 (by rw [e2, e1]; exact hu)
    have hb1 : (d1.file (1 - l.f)).b = [] := by rw [h1.file]
    have l1 := h1.len o1 hlen (by simp)
    have l2 := h2.len o1 l1 (by show ((d1.file (1 - l.f)).b ++ fileW (l.gen + 1) rs).length ≤ n; rw [hb1, List.nil_append, fileW_len]; exact hn)
    have l3 := h3.len o1 l2 (l2 _ o1)
    have hgd : Good d3 l.other (l.gen + 1) rs [] := by rw [hoe]; exact hnx.1
    have hgl : (d3.file l.other).last = (d3.file l.other).b.length := by rw [hoe]; exact hnx.2
    refine ⟨d3, _, h0, ⟨⟨rs, [], by simp, hgd.fair⟩, a3, by omega, rfl, ?_, rfl, l3, by rw [h3.steps, h2.steps, h1.steps]; omega, by rw [h3.lives, h2.lives, h1.lives]; exact hlv⟩, hgd, hgl, hoe⟩
    show (fileW (l.gen + 1) rs).length = (d3.file l.other).b.length
    rw [hoe, hnx.1.b]; simp [recsF]
theorem LogJ.rew {recs : List (List UInt8)} {s g n : Nat} {d : DiskM} {l : WalM} (h : LogJ recs s g n d l) (rs' : List (List UInt8)) (hr : Small rs') (hn : 26 + 9 * rs'.length + rs'.flatten.length ≤ n) (hgb : g + 1 < 4611686018427387904) :
    ∃ d' l', rewriteW d l rs' = (0, d', l') ∧ LogJ rs' (s + 3) (g + 1) n d' l' := by
  obtain ⟨rs, more, hrm, hg⟩ := h.ex
  have hge := h.gen
  obtain ⟨d', l', h1, h2, -⟩ := rewrite_fresh (s := s) (n := n) rs' h.alive h.unarmed hg.f01 (by rw [hge]) hgb hr (by rw [hg.b]; exact Low.file hg.gen (by omega) rs more hg.rs hg.more) hg.last h.len hn h.steps h.lives
  exact ⟨d', l', h1, h2⟩
theorem LogJ.full {recs : List (List UInt8)} {s g n : Nat} {d : DiskM} {l : WalM} (h : LogJ recs s g n d l) (rs' : List (List UInt8)) (hgb : 4611686018427387904 ≤ g + 1) : rewriteW d l rs' = (8, d, l) := by
  unfold rewriteW
  rw [if_neg (by simp [h.alive.over]), if_pos (by rw [h.gen]; exact hgb)]
/-- A failure of the power behind a sync, the other file being low then: all is read. -/
theorem LogJ.again {recs : List (List UInt8)} {s g n : Nat} {d : DiskM} {l : WalM} (h : LogJ recs s g n d l) (hl : (d.file l.f).last = (d.file l.f).b.length) (hlow : Low ((d.power []).file (1 - l.f)).b l.gen) (hg : g + 1 < 4611686018427387904) (hn : 26 ≤ n) {m0 m1 : Option LookM}
    (h0 : LookF (d.power []).f0.b m0) (h1 : LookF (d.power []).f1.b m1) :
    ∃ d' l', openW (d.power []) m0 m1 = (0, d', some (l', recs)) ∧ Opened d' l' recs (g + 1) ∧ d'.steps ≤ s + 3 ∧ d'.lives = 1 := by
  obtain ⟨rs, more, hrm, hgd⟩ := h.ex
  obtain ⟨o1, o2, o3⟩ := hgd.f01.other
  obtain ⟨k, hk, e⟩ := power_file d [] hgd.f01
  obtain ⟨k', hk', e'⟩ := power_file d [] o1
  have hk0 : k = 0 := by omega
  have hfile : (d.power []).file l.f = d.file l.f := by
    rw [e, hk0]
    simp only [FileM.cut, Nat.add_zero]
    rw [hl, List.take_length]
    have : d.file l.f = ⟨(d.file l.f).b, (d.file l.f).last⟩ := rfl
    rw [this]
    simp only
    rw [hl]
  have hl2 : ((d.power []).file (1 - l.f)).last ≤ ((d.power []).file (1 - l.f)).b.length := by
    rw [e']
    simp only [FileM.cut, List.length_take]
    have := hgd.low2
    omega
  have hlk : LookF ((d.power []).file l.f).b (some ⟨l.gen, rs ++ more, false⟩) := by
    rw [hfile, hgd.b]
    have := look_tail hgd.gen rs more hgd.rs hgd.more [] (by decide)
    simpa using this
  have hge := h.gen
  have key : ∀ mo, (if l.f = 0 then m0 else m1) = some ⟨l.gen, rs ++ more, false⟩ → (if l.f = 0 then m1 else m0) = mo → LookF ((d.power []).file (1 - l.f)).b mo →
      ∃ d' l', openW (d.power []) m0 m1 = (0, d', some (l', rs ++ more)) ∧ Opened d' l' (rs ++ more) (l.gen + 1) ∧ d'.steps ≤ d.steps + 3 ∧ d'.lives = d.lives + 1 := by
    intro mo hm ho hmo
    obtain ⟨d', l', a1, a2, a3, a4, a5, -, -⟩ := open_good hlk hgd.f01 ⟨hgd.gen.1, by omega⟩ hgd.rs hgd.more (fun _ => ⟨by rw [hfile]; exact hgd.b, by rw [hfile]; exact hl⟩) (by rw [hfile, hgd.b]; exact Low.file hgd.gen (by omega) rs more hgd.rs hgd.more) (by rw [hfile, hl]; exact Nat.le_refl _) hlow hl2 hm ho hmo rfl ⟨show (-1 : Int) < 0 by decide, Int.le_refl _⟩
    exact ⟨d', l', a1, a2, a4, a5⟩
  have fin : ∃ d' l', openW (d.power []) m0 m1 = (0, d', some (l', rs ++ more)) ∧ Opened d' l' (rs ++ more) (l.gen + 1) ∧ d'.steps ≤ d.steps + 3 ∧ d'.lives = d.lives + 1 := by
    rcases hgd.f01 with e0 | e0
    · rw [e0] at hlk hlow key
      obtain rfl := h0.uniq hlk
      exact key m1 rfl rfl h1
    · rw [e0] at hlk hlow key
      obtain rfl := h1.uniq hlk
      exact key m0 rfl rfl h0
  obtain ⟨d', l', a1, a2, a3, a4⟩ := fin
  rw [hrm] at a1 a2
  exact ⟨d', l', a1, ⟨a2.good, a2.alive, a2.count, a2.bytes, by have := a2.gen; omega⟩, by have := h.steps; omega, by rw [a4, h.lives]⟩
end Go.Proofs.Ytpjinngngbifoaa
