/-
  Words, plain models, laws and walks that the claims of this layer share (joined by shake.py). No condition.
-/
import Derived.Test.YtpjinngngbifoaaU1
import Derived.Test.YtpjinngngbifoaaU2
import Derived.Test.YtpjinngngbifoaaU3
import Derived.Test.YtpjinngngbifoaaU4
import Derived.Test.YtpjinngngbifoaaU5
import Derived.Test.YtpjinngngbifoaaU6
import Derived.Test.YtpjinngngbifoaaU7
import Derived.Test.YtpjinngngbifoaaU8
import Derived.Test.YtpjinngngbifoaaU9
import Derived.Test.YtpjinngngbifoaaU10
import Derived.Test.YtpjinngngbifoaaU11
import Derived.Test.YtpjinngngbifoaaU12
import Derived.Test.YtpjinngngbifoaaU13
import Derived.Test.YtpjinngngbifoaaU14
import Derived.Test.YtpjinngngbifoaaU15
import Derived.Test.YtpjinngngbifoaaU16
import Derived.Test.YtpjinngngbifoaaU17
import Derived.Test.YtpjinngngbifoaaU18
import Derived.Test.YtpjinngngbifoaaU19
import Derived.Test.YtpjinngngbifoaaU20
import Derived.Test.YtpjinngngbifoaaU27
set_option linter.unusedSimpArgs false
set_option linter.unusedVariables false
namespace Go.Proofs.Ytpjinngngbifoaa
open Go.RowKit
structure LstP (now : List (List UInt8)) (safe : Nat) (failed : Bool) (next : List (List UInt8)) (k : Nat) (d : DiskM) (l : WalM) : Prop where
  run : RunI now safe failed next d l.f l.gen
  live : d.off = false → Alive d l ∧ failed = false
  armed : -1 ≤ d.armed ∧ d.armed ≤ 9223372036854775807
  steps : d.steps ≤ 3 + 3 * k
  len : Len d (2200 + 400 * k)
  lives : d.lives = 0
  count : l.count ≤ 10 + k
  bytes : l.bytes ≤ 2200 + 400 * k
  gen : l.gen ≤ 1 + k
  nowl : now.length ≤ 10 + k
  safel : safe ≤ now.length
theorem LstP.wfit {now next : List (List UInt8)} {safe k : Nat} {failed : Bool} {d : DiskM} {l : WalM} (h : LstP now safe failed next k d l) (hk : k ≤ 100) : l.Fit := ⟨by have := h.count; omega, by have := h.bytes; omega, by have := h.gen; omega⟩
theorem LstP.fit {now next : List (List UInt8)} {safe k : Nat} {failed : Bool} {d : DiskM} {l : WalM} (h : LstP now safe failed next k d l) (hk : k ≤ 100) : d.Fit := ⟨h.armed, by have := h.steps; omega⟩
theorem LstP.ok {now next : List (List UInt8)} {safe k : Nat} {failed : Bool} {d : DiskM} {l : WalM} (h : LstP now safe failed next k d l) : d.Ok := by
  obtain ⟨rs, more, -, -, hf, -, -, hl2, -⟩ := h.run.main
  have ho : (d.file (1 - l.f)).last ≤ (d.file (1 - l.f)).b.length := by
    rcases h.run.other with q | ⟨-, q, -⟩
    · exact q.2
    · rw [q]; exact Nat.zero_le _
  rcases hf with e | e
  · rw [e] at hl2 ho; exact ⟨hl2, ho, h.armed⟩
  · rw [e] at hl2 ho; exact ⟨ho, hl2, h.armed⟩
theorem LstP.more {now next : List (List UInt8)} {safe k : Nat} {failed : Bool} {d : DiskM} {l : WalM} (h : LstP now safe failed next k d l) : LstP now safe failed next (k + 1) d l :=
  ⟨h.run, h.live, h.armed, by have := h.steps; omega, h.len.mono (by omega), h.lives, by have := h.count; omega, by have := h.bytes; omega, by have := h.gen; omega, by have := h.nowl; omega, h.safel⟩
theorem LstP.start {d : DiskM} {l : WalM} (hg : Good d l.f l.gen [] []) (ha : Alive d l) (hs : d.steps ≤ 3) (hv : d.lives = 0) (hgen : l.gen = 1) (hc : l.count = 0) (hb : l.bytes = 26) (hl : Len d 26) (n : Int) (hn : 0 ≤ n ∧ n ≤ 1000) : LstP [] 0 false [] 0 (d.arm n) l := by
  have hp := hg.last.1
  refine ⟨⟨⟨[], [], rfl, rfl, hg.f01, hg.b, hg.last.1, hg.last.2, hg.rs, hg.more, 0, by simp, by simp, ?_⟩, ⟨hg.gen.1, by omega⟩, Or.inl ⟨hg.low, hg.low2⟩⟩, fun _ => ⟨⟨ha.1, ha.2.1, ha.2.2.1, ?_⟩, rfl⟩, ?_, hs, hl.mono (by omega), hv, by omega, by omega, by omega, by simp, by simp⟩
  · show (fileW l.gen [] ++ recsF (([] : List (List UInt8)).map (82 :: ·))).length ≤ (d.file l.f).last
    rw [List.length_append]
    have : (recsF (([] : List (List UInt8)).map (82 :: ·))).length = 0 := rfl
    omega
  · show -1 ≤ max n (-1) ∧ max n (-1) ≤ _; omega
  · show -1 ≤ max n (-1) ∧ max n (-1) ≤ _; omega
/-- A disk that went off keeps its files. -/
theorem RunI.off {now next : List (List UInt8)} {safe : Nat} {failed : Bool} {d : DiskM} {f : Int} {g : Nat} (h : RunI now safe failed next d f g) : RunI now safe failed next { d with off := true } f g := by
  obtain ⟨rs, more, h1, h0, h2, h3, h4, h5, h6, h7, h8⟩ := h.main
  exact ⟨⟨rs, more, h1, rfl, h2, by rw [off_file]; exact h3, by rw [off_file]; exact h4, by rw [off_file]; exact h5, h6, h7, by rw [off_file]; exact h8⟩, h.gen, by rw [off_file]; exact h.other⟩
theorem LstP.offd {now next : List (List UInt8)} {safe k : Nat} {failed : Bool} {d : DiskM} {l : WalM} (h : LstP now safe failed next k d l) (x : Int) : LstP now safe failed next (k + 1) { d with off := true } (l.fails x) :=
  ⟨h.run.off, (fun e => by cases e), h.armed, by show d.steps ≤ _; have := h.steps; omega, fun f hf => by rw [off_file]; have := h.len f hf; omega, h.lives, by show l.count ≤ _; have := h.count; omega, by show l.bytes ≤ _; have := h.bytes; omega, by show l.gen ≤ _; have := h.gen; omega, by have := h.nowl; omega, h.safel⟩
theorem LstP.app {now next : List (List UInt8)} {safe k : Nat} {d : DiskM} {l : WalM} {failed : Bool} (h : LstP now safe failed next k d l) (hoff : d.off = false) (hk : k ≤ 100) (r : List UInt8) (hr : r.length ≤ 300) :
    (∃ d' l', appendW d l r = (6, d', l') ∧ LstP now safe failed next (k + 1) d' l' ∧ d'.off = true) ∨ ∃ d' l', appendW d l r = (0, d', l') ∧ LstP (now ++ [r]) safe failed next (k + 1) d' l' ∧ d'.off = false := by
  obtain ⟨ha, rfl⟩ := h.live hoff
  obtain ⟨rs, more, h1, -, h2, h3, h4, h5, h6, h7, i, hi, hs, hil⟩ := h.run.main
  obtain ⟨o1, o2, o3⟩ := h2.other
  rcases append_good r ha h2 with ⟨e, -⟩ | ⟨d', e, hd⟩
  · exact Or.inl ⟨_, _, e, h.offd 6, rfl⟩
  · have hb : (d'.file l.f).b = (d.file l.f).b ++ recF (82 :: r) := by rw [hd.file]
    have hl : (d'.file l.f).last = (d.file l.f).last := by rw [hd.file]
    have ho := hd.other _ o1 o2
    have hlen := h.len _ h2
    refine Or.inr ⟨d', _, e, ⟨⟨⟨rs, more ++ [r], by rw [← h1, List.append_assoc], rfl, h2, ?_, ?_, ?_, h6, ?_, i, by rw [List.length_append]; omega, hs, ?_⟩, h.run.gen, ?_⟩, fun _ => ⟨ha.did hd rfl rfl, rfl⟩, hd.armed.2, by rw [hd.steps]; have := h.steps; omega, ?_, by rw [hd.lives]; exact h.lives, by show l.count + 1 ≤ _; have := h.count; omega, by show l.bytes + (9 + r.length) ≤ _; have := h.bytes; omega, by show l.gen ≤ _; have := h.gen; omega, by rw [List.length_append]; have := h.nowl; simp; omega, by rw [List.length_append]; have := h.safel; omega⟩, by rw [hd.off]; exact hoff⟩
    · show (d'.file l.f).b = _
      rw [hb, h3, List.map_append, recsF_app, List.append_assoc]; simp [recsF]
    · show _ ≤ (d'.file l.f).last
      rw [hl]; exact h4
    · show (d'.file l.f).last ≤ (d'.file l.f).b.length
      rw [hl, hb, List.length_append]; omega
    · intro x hx
      rcases List.mem_append.1 hx with hx | hx
      · exact h7 x hx
      · rw [List.mem_singleton.1 hx]; omega
    · show _ ≤ (d'.file l.f).last
      rw [hl, List.take_append_of_le_length hi]; exact hil
    · show (Low (d'.file (1 - l.f)).b l.gen ∧ _) ∨ _
      rw [ho]; exact h.run.other
    · refine hd.len h2 (h.len.mono (by omega)) ?_
      show ((d.file l.f).b ++ recF (82 :: r)).length ≤ _
      rw [List.length_append, recF_len]; simp only [List.length_cons]; omega
theorem LstP.syn {now next : List (List UInt8)} {safe k : Nat} {d : DiskM} {l : WalM} {failed : Bool} (h : LstP now safe failed next k d l) (hoff : d.off = false) :
    (∃ d' l', syncW d l = (6, d', l') ∧ LstP now safe failed next (k + 1) d' l' ∧ d'.off = true) ∨ ∃ d' l', syncW d l = (0, d', l') ∧ LstP now now.length failed next (k + 1) d' l' ∧ d'.off = false := by
  obtain ⟨ha, rfl⟩ := h.live hoff
  obtain ⟨rs, more, h1, -, h2, h3, h4, h5, h6, h7, i, hi, hs, hil⟩ := h.run.main
  obtain ⟨o1, o2, o3⟩ := h2.other
  rcases sync_good ha h2 with ⟨e, -⟩ | ⟨d', e, hd⟩
  · exact Or.inl ⟨_, _, e, h.offd 6, rfl⟩
  · have hb : (d'.file l.f).b = (d.file l.f).b := by rw [hd.file]
    have hl : (d'.file l.f).last = (d.file l.f).b.length := by rw [hd.file]
    have ho := hd.other _ o1 o2
    refine Or.inr ⟨d', l, e, ⟨⟨⟨rs, more, h1, rfl, h2, by rw [hb]; exact h3, by rw [hl]; omega, by rw [hl, hb]; exact Nat.le_refl _, h6, h7, more.length, Nat.le_refl _, by rw [← h1, List.length_append]; exact Nat.le_refl _, by rw [List.take_length, hl, h3]; exact Nat.le_refl _⟩, h.run.gen, by rw [ho]; exact h.run.other⟩, fun _ => ⟨ha.did hd rfl rfl, rfl⟩, hd.armed.2, by rw [hd.steps]; have := h.steps; omega, (hd.len h2 h.len (h.len _ h2)).mono (by omega), by rw [hd.lives]; exact h.lives, by have := h.count; omega, by have := h.bytes; omega, by have := h.gen; omega, by have := h.nowl; omega, Nat.le_refl _⟩, by rw [hd.off]; exact hoff⟩
theorem LstP.rew {now next : List (List UInt8)} {safe k : Nat} {d : DiskM} {l : WalM} {failed : Bool} (h : LstP now safe failed next k d l) (hoff : d.off = false) (hk : k ≤ 100) (L : List (List UInt8)) (hL : Small L) (hLl : L.length ≤ 10) (hLf : L.flatten.length ≤ 2000) :
    (∃ d' l', rewriteW d l L = (6, d', l') ∧ LstP now safe true L (k + 1) d' l' ∧ d'.off = true) ∨ ∃ d' l', rewriteW d l L = (0, d', l') ∧ LstP L L.length failed next (k + 1) d' l' ∧ d'.off = false := by
  obtain ⟨ha, rfl⟩ := h.live hoff
  obtain ⟨rs, more, h1, -, h2, h3, h4, h5, h6, h7, i, hi, hs, hil⟩ := h.run.main
  obtain ⟨o1, o2, o3⟩ := h2.other
  have hoe := other_eq h2
  have hge := h.gen
  have hfw : (fileW (l.gen + 1) L).length ≤ 2116 := by rw [fileW_len]; omega
  have hq2 : (fileW (l.gen + 1) L).length ≤ 2200 + 400 * (k + 1) := Nat.le_trans hfw (by omega)
  have hlow : Low (d.file (1 - l.f)).b l.gen ∧ (d.file (1 - l.f)).last ≤ (d.file (1 - l.f)).b.length := by
    rcases h.run.other with q | ⟨q, -⟩
    · exact q
    · cases q
  rcases rewrite_good L ha (by omega) with ⟨d', e, hh⟩ | ⟨d1, d2, d3, e, k1, k2, k3⟩
  · rw [hoe] at hh
    have hsame := hh.same
    rw [o3] at hsame
    obtain ⟨n, hn⟩ : ∃ n, n = 2200 + 400 * (k + 1) := ⟨_, rfl⟩
    have hkept := rewriteW_kept (l := l) (rs := L) (n := n) (h.len.mono (by omega)) ha.2.2.2 (by omega)
    rw [e] at hkept
    have hklen : Len _ n := hkept.len
    rw [hn] at hklen
    refine Or.inl ⟨d', _, e, ⟨⟨⟨rs, more, h1, rfl, h2, by show (d'.file l.f).b = _; rw [hsame]; exact h3, by show _ ≤ (d'.file l.f).last; rw [hsame]; exact h4, by show (d'.file l.f).last ≤ (d'.file l.f).b.length; rw [hsame]; exact h5, h6, h7, i, hi, hs, by show _ ≤ (d'.file l.f).last; rw [hsame]; exact hil⟩, h.run.gen, ?_⟩, (fun e => by rw [hh.off] at e; cases e), hkept.armed, by have := hkept.steps; have := h.steps; simp only at *; omega, hklen, by rw [hh.lives]; exact h.lives, by show l.count ≤ _; have := h.count; omega, by show l.bytes ≤ _; have := h.bytes; omega, by show l.gen ≤ _; omega, by have := h.nowl; omega, h.safel⟩, hh.off⟩
    show (Low (d'.file (1 - l.f)).b l.gen ∧ (d'.file (1 - l.f)).last ≤ (d'.file (1 - l.f)).b.length) ∨ _
    rcases hh.other with q | q | q
    · rw [q]; exact Or.inl hlow
    · rw [q]; exact Or.inl ⟨Low.nil _, Nat.le_refl _⟩
    · exact Or.inr ⟨rfl, q, hL⟩
  · rw [hoe] at k1 k2 k3
    have low1 : Low (d.file l.f).b (l.gen + 1) := by rw [h3]; exact Low.file ⟨h.run.gen.1, by omega⟩ (by omega) rs more h6 h7
    have hnx := Good.next h2 ⟨by omega, by omega⟩ hL low1 h5 k1 k2 k3
    have a1 := ha.did (l' := l) k1 rfl rfl
    have a2 := a1.did (l' := l) k2 rfl rfl
    have a3 := a2.did (l' := { l with f := l.other, gen := l.gen + 1, count := L.length, bytes := (fileW (l.gen + 1) L).length }) k3 rfl rfl
    obtain ⟨n, hn⟩ : ∃ n, n = 2200 + 400 * (k + 1) := ⟨_, rfl⟩
    have hkept := rewriteW_kept (l := l) (rs := L) (n := n) (h.len.mono (by omega)) ha.2.2.2 (by omega)
    rw [e] at hkept
    have hklen : Len _ n := hkept.len
    rw [hn] at hklen
    have hb : (d3.file (1 - l.f)).b = fileW (l.gen + 1) L := by rw [hnx.1.b]; simp [recsF]
    have hq1 : L.length ≤ 10 + (k + 1) := by omega
    have hq3 : l.gen + 1 ≤ 1 + (k + 1) := by omega
    refine Or.inr ⟨d3, _, e, ⟨⟨⟨L, [], by simp, rfl, by show F01 l.other; rw [hoe]; exact o1, ?_, ?_, ?_, hL, (fun r hr => by cases hr), 0, by simp, by omega, ?_⟩, ⟨by show 1 ≤ l.gen + 1; omega, by show l.gen + 1 + 1 < _; omega⟩, ?_⟩, fun _ => ⟨a3, rfl⟩, hkept.armed, by have := hkept.steps; have := h.steps; simp only at *; omega, hklen, by rw [k3.lives, k2.lives, k1.lives]; exact h.lives, hq1, hq2, hq3, hq1, Nat.le_refl _⟩, by rw [k3.off, k2.off, k1.off]; exact hoff⟩
    · show (d3.file l.other).b = _
      rw [hoe, hb]; simp [recsF]
    · show _ ≤ (d3.file l.other).last
      rw [hoe, hnx.2, hb]; exact Nat.le_refl _
    · show (d3.file l.other).last ≤ (d3.file l.other).b.length
      rw [hoe, hnx.2]; exact Nat.le_refl _
    · show _ ≤ (d3.file l.other).last
      rw [hoe, hnx.2, hb]; simp [recsF]
    · show (Low (d3.file (1 - l.other)).b (l.gen + 1) ∧ (d3.file (1 - l.other)).last ≤ (d3.file (1 - l.other)).b.length) ∨ _
      rw [hoe]
      exact Or.inl ⟨hnx.1.low, hnx.1.low2⟩
end Go.Proofs.Ytpjinngngbifoaa
namespace Go.Proofs.Ytpjinngngbifoaa
open Go.RowKit Go.ChangeShapes Go.WideShapes Go.ChangeAt
/-- Which cells of type t read as which data; kept while the blocks of S stay. -/
structure Codec (P : Program) (t : TypeId) (α : Type) where
  ok : World → (Nat → Prop) → List Value → α → Prop
  keep : ∀ {S : Nat → Prop} {w w' : World} {vs : List Value} {x : α}, Same S w w' → ok w S vs x → ok w' S vs x
  size : ∀ {S : Nat → Prop} {w : World} {vs : List Value} {x : α}, ok w S vs x → vs.length = P.cellsOf t
  opens : ∀ {H : Type} {enc : TypeId × Value → H} {W : World} {fuel : Nat} {cs : List Value} {x : DataW H × List MemPlace},
    DataW.trod enc P W 0 (fun _ => true) true fuel t cs = some x → ∃ a, ok W (· < W.heap.size) cs a
section
variable {P : Program} {t e : TypeId} {α β : Type}
def cInt (k : IntKind) (ht : P.underlying t = some (.int k)) (hc : P.cellsOf t = 1) : Codec P t Int where
  ok _ _ vs n := vs = [.int k n] ∧ (Lit.int k n).wf = true
  keep _ h := h
  size h := by rw [h.1, hc]; rfl
  opens h := by
    obtain ⟨n, h1, _, h2⟩ := DataW.trod_int ht h
    exact ⟨n, h1, h2⟩
def cBool (ht : P.underlying t = some .bool) (hc : P.cellsOf t = 1) : Codec P t Bool where
  ok _ _ vs b := vs = [.bool b]
  keep _ h := h
  size h := by rw [h, hc]; rfl
  opens h := by
    obtain ⟨n, h1, _⟩ := DataW.trod_bool ht h
    exact ⟨n, h1⟩
def cBytes (ht : P.underlying t = some (.slice e)) (he : P.underlying e = some (.int .u8)) (hc : P.cellsOf e = 1) (hc' : P.cellsOf t = 1) : Codec P t (List UInt8) where
  ok w S vs l := ∃ v, vs = [v] ∧ By w S v l
  keep hs h := by
    obtain ⟨v, h1, h2⟩ := h
    exact ⟨v, h1, h2.keep hs⟩
  size h := by
    obtain ⟨v, rfl, _⟩ := h
    rw [hc']; rfl
  opens h := by
    obtain ⟨v, l, h1, h2⟩ := By.ofTrod ht he hc h
    exact ⟨l, v, h1, h2⟩
/-- A slice of whatever reads: the element i lies at i rows behind the head. -/
def SlOf (C : Codec P e α) (w : World) (S : Nat → Prop) (v : Value) (xs : List α) : Prop :=
  ∃ A c, v = .slice A xs.length c ∧ xs.length ≤ c ∧ c ≤ maxLen ∧
    ∀ i x, xs[i]? = some x → ∃ ad us, A = some ad ∧ S ad.block ∧ (∀ j u, us[j]? = some u → w.cell? (ad.add (i * P.cellsOf e + j)) = some u) ∧ C.ok w S us x
theorem SlOf.keep {C : Codec P e α} {w w' : World} {S : Nat → Prop} {v : Value} {xs : List α} (h : SlOf C w S v xs) (hs : Same S w w') : SlOf C w' S v xs := by
  obtain ⟨A, c, h1, h2, h3, h4⟩ := h
  refine ⟨A, c, h1, h2, h3, fun i x hx => ?_⟩
  obtain ⟨ad, us, a1, a2, a3, a4⟩ := h4 i x hx
  exact ⟨ad, us, a1, a2, fun j u hu => hs.cell (by rw [block_of_add]; exact a2) (a3 j u hu), C.keep hs a4⟩
theorem SlOf.opens {C : Codec P e α} (ht : P.underlying t = some (.slice e)) (hc : 0 < P.cellsOf e) {H : Type} {enc : TypeId × Value → H} {W : World} {fuel : Nat} {cs : List Value} {x : DataW H × List MemPlace}
    (h : DataW.trod enc P W 0 (fun _ => true) true fuel t cs = some x) : ∃ v xs, cs = [v] ∧ SlOf C W (· < W.heap.size) v xs := by
  rcases Go.Deep.open_slice ht h with ⟨rfl, _⟩ | ⟨a, len, cap, m, n, D, Pl, rfl, _, hl, hm, hmm, _, hel⟩
  · exact ⟨_, [], rfl, none, 0, rfl, Nat.le_refl _, by simp [maxLen], fun i x hx => by simp at hx⟩
  · simp only [if_true] at hmm
    subst hmm
    have each : ∀ i, i < len → ∃ p : List Value × α, (∀ j u, p.1[j]? = some u → W.cell? (a.add (i * P.cellsOf e + j)) = some u) ∧ C.ok W (· < W.heap.size) p.1 p.2 := by
      intro i hi
      obtain ⟨cs', hcs, htr⟩ := hel i (by omega)
      obtain ⟨y, hy⟩ := C.opens htr
      obtain ⟨_, hlen, hat⟩ := World.cells?_some hcs
      refine ⟨(cs', y), fun j u hu => ?_, hy⟩
      have hj : j < cs'.length := by
        rcases Nat.lt_or_ge j cs'.length with h | h
        · exact h
        · rw [List.getElem?_eq_none h] at hu; cases hu
      have := hat j (by omega)
      rw [← add_of_add, this]
      exact hu
    rcases Nat.eq_zero_or_pos len with h0 | h0
    · subst h0
      exact ⟨_, [], rfl, some a, m, rfl, by simp, hm, fun i x hx => by simp at hx⟩
    obtain ⟨p0, _⟩ := each 0 h0
    haveI : Inhabited (List Value × α) := ⟨p0⟩
    obtain ⟨F, hF⟩ := Go.Deep.choose_lt each
    refine ⟨_, (List.range len).map fun i => (F i).2, rfl, some a, m, by simp, by simpa using hl, hm, fun i x hx => ?_⟩
    by_cases hi : i < len
    · simp [hi] at hx
      subst hx
      obtain ⟨h1, h2⟩ := hF i hi
      refine ⟨a, (F i).1, rfl, ?_, h1, h2⟩
      have hz := C.size h2
      have := World.block_lt_of_cell? W _ (h1 0 _ (List.getElem?_eq_getElem (by omega)))
      rw [block_of_add] at this
      exact this
    · simp [hi] at hx
/-- The fields of a struct. -/
structure FCod (P : Program) (fs : List Field) (α : Type) where
  ok : World → (Nat → Prop) → List Value → α → Prop
  keep : ∀ {S : Nat → Prop} {w w' : World} {vs : List Value} {x : α}, Same S w w' → ok w S vs x → ok w' S vs x
  opens : ∀ {H : Type} {enc : TypeId × Value → H} {W : World} {n : Nat} {cs : List Value},
    (∀ f, f ∈ fs → ∃ y, DataW.trod enc P W 0 (fun _ => true) true n f.type ((cs.drop f.offset).take (P.cellsOf f.type)) = some y) → ∃ a, ok W (· < W.heap.size) cs a
def fnil : FCod P [] Unit where
  ok _ _ _ _ := True
  keep _ h := h
  opens _ := ⟨(), trivial⟩
def fcons (off n : Nat) {f : Field} {fs : List Field} (C : Codec P f.type α) (R : FCod P fs β) (ho : f.offset = off := by rfl) (hn : P.cellsOf f.type = n := by kernel_rfl) : FCod P (f :: fs) (α × β) where
  ok w S vs x := C.ok w S ((vs.drop off).take n) x.1 ∧ R.ok w S vs x.2
  keep hs h := ⟨C.keep hs h.1, R.keep hs h.2⟩
  opens h := by
    obtain ⟨y, hy⟩ := h f (by simp)
    rw [ho, hn] at hy
    obtain ⟨a, ha⟩ := C.opens hy
    obtain ⟨b, hb⟩ := R.opens (fun g hg => h g (by simp [hg]))
    exact ⟨(a, b), ha, hb⟩
def cStruct {fs : Array Field} (R : FCod P fs.toList β) (F : β → α) (ht : P.underlying t = some (.struct fs)) : Codec P t α where
  ok w S vs x := vs.length = P.cellsOf t ∧ ∃ b, x = F b ∧ R.ok w S vs b
  keep hs h := by
    obtain ⟨h0, b, h1, h2⟩ := h
    exact ⟨h0, b, h1, R.keep hs h2⟩
  size h := h.1
  opens h := by
    obtain ⟨xs, n, _, _, h1, h2, h3⟩ := DataW.trod_struct ht h
    obtain ⟨b, hb⟩ := R.opens (enc := _) (n := n) (fun f hf => by
      obtain ⟨i, hi, rfl⟩ := List.mem_iff_getElem.1 hf
      have hi' : i < fs.size := by simpa using hi
      have := h3 i fs[i] (by simp [hi'])
      refine ⟨xs[i]'(by omega), ?_⟩
      rw [List.getElem?_eq_getElem (by omega)] at this
      exact this)
    exact ⟨F b, h1, b, rfl, hb⟩
end
end Go.Proofs.Ytpjinngngbifoaa
namespace Go.Proofs.Ytpjinngngbifoaa
open Go.RowKit Go.ChangeShapes Go.WideShapes Go.ChangeAt
structure OpW where
  kind : Int
  n : Int
  made : Bool
  b : List UInt8
  l : List (List UInt8)
  keep : List Int
theorem Ints.ofTrod {H : Type} {enc : TypeId × Value → H} {W : World} {fuel : Nat} {cs : List Value} {x : DataW H × List MemPlace} (h : DataW.trod enc Try.prog W 0 (fun _ => true) true fuel 48 cs = some x) : ∃ v ns, cs = [v] ∧ Ints W (· < W.heap.size) v ns := by
  rcases open_ints Try.underlying48 Try.underlying3 (by kernel_rfl) h with ⟨rfl, _⟩ | ⟨a, len, cap, zs, rfl, _, hl, hm, hz, _, hcell, hwz⟩
  · exact ⟨_, [], rfl, none, 0, rfl, by simp, by simp [maxLen], Sl.nil _ _ _ _, by simp⟩
  · simp only [if_true] at hz
    have e : (zs.take len).length = len := by simp; omega
    refine ⟨_, zs.take len, rfl, some a, cap, by rw [e], by rw [e]; exact hl, hm, ⟨by simp, fun hn => ⟨_, rfl, ?_, fun j u hu => ?_⟩⟩, fun n hn => i64_of_wf (hwz n (List.mem_of_mem_take hn))⟩
    · have hb := World.block_lt_of_cell? _ _ (hcell 0 (by rw [e] at hn; omega))
      rw [block_of_add] at hb
      exact hb
    · simp only [List.getElem?_map, List.getElem?_take] at hu
      split at hu
      · have hj' : j < zs.length := by omega
        rw [List.getElem?_eq_getElem hj'] at hu
        simp at hu
        subst hu
        rw [hcell j hj']
        simp [List.getD, List.getElem?_eq_getElem hj']
      · simp at hu
def cIntsW : Codec Try.prog 48 (List Int) where
  ok w S vs ns := ∃ v, vs = [v] ∧ Ints w S v ns
  keep hs h := by
    obtain ⟨v, h1, h2⟩ := h
    exact ⟨v, h1, h2.keep hs⟩
  size h := by
    obtain ⟨v, rfl, _⟩ := h
    rw [show Try.prog.cellsOf 48 = 1 by kernel_rfl]; rfl
  opens h := by
    obtain ⟨v, ns, h1, h2⟩ := Ints.ofTrod h
    exact ⟨ns, v, h1, h2⟩
def cLW : Codec Try.prog 22 (List (List UInt8)) where
  ok w S vs l := ∃ v, vs = [v] ∧ ByL w S v l
  keep hs h := by
    obtain ⟨v, h1, h2⟩ := h
    exact ⟨v, h1, h2.keep hs⟩
  size h := by
    obtain ⟨v, rfl, _⟩ := h
    rw [show Try.prog.cellsOf 22 = 1 by kernel_rfl]; rfl
  opens h := by
    obtain ⟨v, l, h1, h2⟩ := ByL.ofTrod Try.underlying22 Try.underlying24 Try.underlying5 (by kernel_rfl) (by kernel_rfl) h
    exact ⟨l, v, h1, h2⟩
def cIW : Codec Try.prog 3 Int := cInt .i64 Try.underlying3 (by kernel_rfl)
def cBW : Codec Try.prog 24 (List UInt8) := cBytes Try.underlying24 Try.underlying5 (by kernel_rfl) (by kernel_rfl)
def cOW : Codec Try.prog 4 Bool := cBool Try.underlying4 (by kernel_rfl)
set_option maxRecDepth 100000 in
def cOpW : Codec Try.prog 53 OpW :=
  cStruct (fcons 0 1 cIW (fcons 1 1 cIW (fcons 2 1 cOW (fcons 3 1 cBW (fcons 4 1 cLW (fcons 5 1 cIntsW fnil)))))) (fun x => ⟨x.1, x.2.1, x.2.2.1, x.2.2.2.1, x.2.2.2.2.1, x.2.2.2.2.2.1⟩) Try.underlying53
theorem cOpW_cells : Try.prog.cellsOf 53 = 6 := by kernel_rfl
set_option maxRecDepth 100000 in
/-- The cells of one operation. -/
theorem opw_at {w : World} {S : Nat → Prop} {A : Option Addr} {n c i : Nat} {ops : List OpW} (h : SlOf cOpW w S (.slice A n c) ops) (hi : i < ops.length) :
    ∃ ad vb vl vk, A = some ad ∧ S ad.block ∧ w.cell? (ad.add (i * 6)) = some (.int .i64 ops[i].kind) ∧ w.cell? ⟨(ad.add (i * 6)).block, (ad.add (i * 6)).off + 1, none⟩ = some (.int .i64 ops[i].n) ∧ w.cell? ⟨(ad.add (i * 6)).block, (ad.add (i * 6)).off + 2, none⟩ = some (.bool ops[i].made) ∧
      w.cell? ⟨(ad.add (i * 6)).block, (ad.add (i * 6)).off + 3, none⟩ = some vb ∧ w.cell? ⟨(ad.add (i * 6)).block, (ad.add (i * 6)).off + 4, none⟩ = some vl ∧ w.cell? ⟨(ad.add (i * 6)).block, (ad.add (i * 6)).off + 5, none⟩ = some vk ∧ By w S vb ops[i].b ∧ ByL w S vl ops[i].l ∧ Ints w S vk ops[i].keep ∧
      (-9223372036854775808 ≤ ops[i].kind ∧ ops[i].kind ≤ 9223372036854775807) ∧ (-9223372036854775808 ≤ ops[i].n ∧ ops[i].n ≤ 9223372036854775807) := by
  obtain ⟨A', c', hv, _, _, he⟩ := h
  injection hv with hA
  subst hA
  obtain ⟨ad, us, rfl, hS, hc, hlen, ⟨x0, x1, x2, x3, x4, x5, x6⟩, hx, h0, h1, h2, h3, h4, h5, -⟩ := he i ops[i] (List.getElem?_eq_getElem hi)
  rw [hx]
  rw [cOpW_cells] at hlen hc
  match us, hlen with
  | [a0, a1, a2, a3, a4, a5], _ =>
    obtain ⟨b0, w0⟩ := h0
    obtain ⟨b1, w1⟩ := h1
    obtain ⟨v3, b3, w3⟩ := h3
    obtain ⟨v4, b4, w4⟩ := h4
    obtain ⟨v5, b5, w5⟩ := h5
    obtain rfl := (List.cons.inj b0).1
    obtain rfl := (List.cons.inj b1).1
    obtain rfl := (List.cons.inj h2).1
    obtain rfl := (List.cons.inj b3).1
    obtain rfl := (List.cons.inj b4).1
    obtain rfl := (List.cons.inj b5).1
    exact ⟨ad, a3, a4, a5, rfl, hS, hc 0 _ rfl, (by have := hc 1 _ rfl; rwa [← add_of_add] at this), (by have := hc 2 _ rfl; rwa [← add_of_add] at this), (by have := hc 3 _ rfl; rwa [← add_of_add] at this), (by have := hc 4 _ rfl; rwa [← add_of_add] at this), (by have := hc 5 _ rfl; rwa [← add_of_add] at this), w3, w4, w5, i64_of_wf w0, i64_of_wf w1⟩
set_option maxRecDepth 100000 in
theorem open_opsw {H : Type} {enc : TypeId × Value → H} {W : World} {base : Nat} {v : Value} {d : DataW H} {ps : List MemPlace} (hval : Value.okWide Try.prog W .any base 47 v)
    (h : DataW.Trod enc Try.prog W 0 (fun _ => true) true 47 v d ps) : ∃ ops, SlOf cOpW W (· < W.heap.size) v ops := by
  obtain ⟨a0, len0, cap0, rfl⟩ := okWide_slice Try.underlying47 hval
  obtain ⟨fuel, hf⟩ := h
  obtain ⟨v, l, hv, hby⟩ := SlOf.opens (C := cOpW) Try.underlying47 (by rw [cOpW_cells]; omega) hf
  simp [Value.cells] at hv
  subst hv
  exact ⟨l, hby⟩
def SmallOp (o : OpW) : Prop := o.b.length ≤ 300 ∧ o.l.length ≤ 10 ∧ sumF 2000 o.l ≤ 2000 ∧ o.keep.length ≤ 10
def lightW (most : Int) (ops : List OpW) : Prop := (ops.length : Int) ≤ most ∧ ∀ o ∈ ops, SmallOp o
theorem lightW_no {most : Int} {ops : List OpW} {k : Nat} (hk : k < ops.length) (h : ¬ SmallOp ops[k]) : ¬ lightW most ops := fun h2 => h (h2.2 _ (List.getElem_mem hk))
theorem takeW_more {α : Type} {p : α → Prop} {l : List α} {k : Nat} (hk : k < l.length) (h : ∀ o ∈ l.take k, p o) (h1 : p l[k]) : ∀ o ∈ l.take (k + 1), p o := by
  rw [List.take_succ_eq_append_getElem hk]
  intro o ho
  rcases List.mem_append.1 ho with h2 | h2
  · exact h o h2
  · rw [List.mem_singleton.1 h2]; exact h1
def LightPost (most : Int) (ops : List OpW) (w : World) (e : Ending) (w' : World) : Prop := ∃ b : Bool, e = .returned (.bool b) ∧ (b = true ↔ lightW most ops) ∧ w = w'
set_option maxRecDepth 100000 in
set_option maxHeartbeats 1000000 in
theorem lightw_any (v : Value) (ops : List OpW) (most : Int) (S : Nat → Prop) (w : World) (hv : SlOf cOpW w S v ops) (hm0 : 0 ≤ most ∧ most ≤ 1000) :
    Calls Try.prog 23 #[v, .int .i64 most] w (LightPost most ops w) := by
  obtain ⟨A, c, rfl, hc, hm, -⟩ := id hv
  have H := Lib.hid hv
  unfold maxLen at hm
  clear hv
  by_cases hlong : most < ops.length
  · go_enter Try.func23, Try.ntmps23
    go_wp2
    go_ret
    exact ⟨false, rfl, by simp [lightW]; intro h; omega, rfl⟩
  have hlen : (ops.length : Int) ≤ most := by omega
  have HLEN := Lib.hid hlen
  obtain ⟨N, hN⟩ : ∃ N, N = ops.length := ⟨_, rfl⟩
  rw [← hN] at hlong hc hlen ⊢
  have HN := Lib.hid hN
  clear hN hlong
  go_enter Try.func23, Try.ntmps23
  go_wp2
  go_loop [5] (fun i => ∃ k : Nat, k ≤ N ∧ i = .int .i64 k ∧ Hid (∀ o ∈ ops.take k, SmallOp o)) (fun i => N - (intOf i).toNat)
  case atStart => exact ⟨0, by omega, rfl, Lib.hid (by simp)⟩
  case round =>
    obtain ⟨k, hk, rfl, ho⟩ := hrel
    by_cases hlt : k < N
    · have hko : k < ops.length := by rw [← HN.out]; exact hlt
      obtain ⟨ad, vb, vl, vk, rfl, -, c0, c1, c2, c3, c4, c5, hb, hl, hkp, -, -⟩ := opw_at H.out hko
      have hno := Lib.hid (fun h => lightW_no (most := most) hko h)
      have hyes := Lib.hid (fun h => takeW_more hko ho.out h)
      generalize ops[k] = o at *
      obtain ⟨A1, c1', rfl, -, hm1, -⟩ := id hb
      obtain ⟨A2, c2', vs2, rfl, -, hm2, -⟩ := id hl
      obtain ⟨A3, c3', rfl, -, hm3, -⟩ := id hkp
      unfold maxLen at hm1 hm2 hm3
      have hsum := sum_any _ o.l 2000 _ w hl (by omega) (by omega)
      have HSUM := Lib.hid hsum
      clear hsum hb hl hkp
      obtain ⟨LB, hLB⟩ : ∃ n, n = o.b.length := ⟨_, rfl⟩
      obtain ⟨LL, hLL⟩ : ∃ n, n = o.l.length := ⟨_, rfl⟩
      obtain ⟨LK, hLK⟩ : ∃ n, n = o.keep.length := ⟨_, rfl⟩
      have hsum := HSUM.out
      rw [← hLB] at c3
      rw [← hLL] at c4 hsum
      rw [← hLK] at c5
      have HSUM := Lib.hid hsum
      have HLB := Lib.hid hLB
      have HLL := Lib.hid hLL
      have HLK := Lib.hid hLK
      clear hLB hLL hLK hsum
      by_cases h1 : 300 < LB
      · go_wp2
        go_ret
        exact ⟨false, rfl, by simp; exact hno.out fun h => by have := h.1; have := HLB.out; omega, rfl⟩
      by_cases h2 : 10 < LL
      · go_wp2
        go_ret
        exact ⟨false, rfl, by simp; exact hno.out fun h => by have := h.2.1; have := HLL.out; omega, rfl⟩
      by_cases h3 : 2000 < sumF 2000 o.l
      · go_wp2_with (go_at_call 10; refine HSUM.out.mono ?_; rintro e w' ⟨rfl, rfl⟩)
        go_ret
        exact ⟨false, rfl, by simp; exact hno.out fun h => by have := h.2.2.1; omega, rfl⟩
      by_cases h4 : 10 < LK
      · go_wp2_with (go_at_call 10; refine HSUM.out.mono ?_; rintro e w' ⟨rfl, rfl⟩)
        go_ret
        exact ⟨false, rfl, by simp; exact hno.out fun h => by have := h.2.2.2; have := HLK.out; omega, rfl⟩
      have hso : Hid (SmallOp o) := Lib.hid ⟨by have := HLB.out; omega, by have := HLL.out; omega, by omega, by have := HLK.out; omega⟩
      go_wp2_with (go_at_call 10; refine HSUM.out.mono ?_; rintro e w' ⟨rfl, rfl⟩)
      go_round
      case rel => exact ⟨k + 1, by omega, by go_num, Lib.hid (hyes.out hso.out)⟩
      case measure => simp [intOf]; omega
    · obtain rfl : N = k := by omega
      go_wp2
      go_ret
      refine ⟨true, rfl, ?_, rfl⟩
      simp
      have := ho.out
      rw [List.take_of_length_le (by rw [← HN.out]; exact Nat.le_refl _)] at this
      exact ⟨HLEN.out, this⟩
end Go.Proofs.Ytpjinngngbifoaa
