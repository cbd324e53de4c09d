/-
  More plain laws of records: what is read, written anew, is what stood there.
-/
import Derived.Test.YtpjinngngbifoaaFrmP
set_option linter.unusedSimpArgs false
set_option linter.unusedVariables false
namespace Go.Proofs.Ytpjinngngbifoaa
open Go.RowKit

theorem putN_getN (l : List UInt8) (h : l.length = 4) : putN 4 (getN l) = l := by
  match l, h with
  | [a, b, c, d], _ =>
    have ha := a.toNat_lt
    have hb := b.toNat_lt
    have hc := c.toNat_lt
    have hd := d.toNat_lt
    have e : getN [a, b, c, d] = ((a.toNat * 256 + b.toNat) * 256 + c.toNat) * 256 + d.toNat := by simp [getN]
    rw [e]
    have p : ∀ v, putN 4 v = [UInt8.ofNat (v / 16777216), UInt8.ofNat (v / 65536), UInt8.ofNat (v / 256), UInt8.ofNat v] := fun v => by simp [putN, List.range_succ]
    rw [p]
    have q : ∀ (m : Nat) (x : UInt8), m % 256 = x.toNat → UInt8.ofNat m = x := fun m x hm => by
      apply UInt8.toNat_inj.1
      rw [UInt8.toNat_ofNat']
      exact hm
    rw [q _ a (by omega), q _ b (by omega), q _ c (by omega), q _ d (by omega)]
/-- The bytes of a record that is there. -/
theorem rec_at {b : List UInt8} {a : Nat} {r : List UInt8} {n : Int} (h : nextF b a = (r, n, 0)) : (b.drop a).take (8 + r.length) = recF r := by
  obtain ⟨-, h2, h3, h4, h5, h6, h7⟩ := nextF_ok h
  rw [Int.toNat_natCast] at h5 h6 h7
  have hl : (b.drop a).length = b.length - a := List.length_drop
  have l4 : ((b.drop a).take 4).length = 4 := by rw [List.length_take]; omega
  have l44 : (((b.drop a).drop 4).take 4).length = 4 := by rw [List.length_take, List.length_drop]; omega
  have e1 : putN 4 r.length = (b.drop a).take 4 := by rw [← h5]; exact putN_getN _ l4
  have e2 : putN 4 (ofF [putN 4 r.length, r]).toNat = ((b.drop a).drop 4).take 4 := by rw [e1, h7]; exact putN_getN _ l44
  unfold recF
  rw [e2, e1]
  generalize b.drop a = x at *
  have s1 : x.take (8 + r.length) = x.take 8 ++ (x.drop 8).take r.length := by rw [List.take_add]
  have s2 : x.take 8 = x.take 4 ++ (x.drop 4).take 4 := by rw [show 8 = 4 + 4 from rfl, List.take_add]
  rw [s1, s2, ← h6]
/-- What was reached, written anew, is what stood there. -/
theorem Reach.bytes {b : List UInt8} {l : List (List UInt8)} {a : Nat} (h : Reach b l a) : recsF l = b.take a := by
  induction h with
  | nil => simp [recsF]
  | @snoc l a n r h1 h2 ih =>
    have h3 := nextF_nat h2
    have h4 := rec_at h2
    have hn : n = a + (8 + r.length) := by omega
    rw [recsF_snoc, ih, ← h4, hn, ← List.take_add]
theorem Reach.small {b : List UInt8} {l : List (List UInt8)} {a : Nat} (h : Reach b l a) : ∀ r ∈ l, r.length ≤ b.length := by
  induction h with
  | nil => simp
  | @snoc l a n r h1 h2 ih =>
    intro x hx
    rcases List.mem_append.1 hx with h | h
    · exact ih x h
    · rw [List.mem_singleton.1 h]
      have := nextF_nat h2
      omega
/-- What a bad place tells besides. -/
theorem nextF_bad {b : List UInt8} {a : Int} {r : List UInt8} {n e : Int} (h : nextF b a = (r, n, e)) (he : e ≠ 0) : r = [] ∧ n = 0 := by
  unfold nextF at h
  split at h
  · simp only [Prod.mk.injEq] at h; exact ⟨h.1.symm, h.2.1.symm⟩
  split at h
  · simp only [Prod.mk.injEq] at h; exact ⟨h.1.symm, h.2.1.symm⟩
  split at h
  · simp only [Prod.mk.injEq] at h; exact ⟨h.1.symm, h.2.1.symm⟩
  split at h
  · simp only [Prod.mk.injEq] at h; exact ⟨h.1.symm, h.2.1.symm⟩
  split at h
  · simp only [Prod.mk.injEq] at h; exact ⟨h.1.symm, h.2.1.symm⟩
  · simp only [Prod.mk.injEq] at h
    exact absurd h.2.2.symm he
end Go.Proofs.Ytpjinngngbifoaa
