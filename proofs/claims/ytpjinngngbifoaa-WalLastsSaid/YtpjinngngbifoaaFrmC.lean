/-
  The plain law of FrameCuts: bytes of records that are cut off are scanned up to the last record that is whole.
-/
import Derived.Test.YtpjinngngbifoaaFrmO
set_option linter.unusedSimpArgs false
set_option linter.unusedVariables false
namespace Go.Proofs.Ytpjinngngbifoaa
open Go.RowKit

/-- A record that is cut off is none. -/
theorem nextF_cut (pre r more : List UInt8) (d : Nat) (hr : r.length ≤ 1048576) (hd : d < 8 + r.length) : (nextF (pre ++ (recF r ++ more).take d) pre.length).2.2 ≠ 0 := by
  obtain ⟨post, hpost⟩ : ∃ post, post = (recF r ++ more).take d := ⟨_, rfl⟩
  have hl : post.length = d := by rw [hpost, List.length_take, List.length_append, recF_len]; omega
  rw [← hpost]
  by_cases h8 : d < 8
  · rw [nextF_short _ _ (by simp) (by rw [List.length_append]; omega)]
    simp
  · have hdr : (pre ++ post).drop ((pre.length : Int)).toNat = post := by rw [Int.toNat_natCast, List.drop_left]
    have p4 : ∀ v, (putN 4 v).length = 4 := putN_len 4
    have e1 : post.take 4 = putN 4 r.length := by
      rw [hpost, List.take_take, Nat.min_eq_left (by omega)]
      simp only [recF, List.append_assoc]
      rw [List.take_append_of_le_length (by rw [p4]; omega), List.take_of_length_le (by rw [p4]; omega)]
    have g1 : getN (post.take 4) = r.length := by rw [e1]; exact getN_putN 4 _ (by omega)
    unfold nextF
    rw [hdr, g1, if_neg (by rw [List.length_append]; omega), if_neg (by omega), if_neg (by omega), if_pos (by omega)]
    simp
theorem cut_scan (l : List (List UInt8)) (hr : ∀ r ∈ l, r.length ≤ 1048576) (cut j : Nat) (hj : j ≤ l.length) (hcut : cut ≤ (recsF l).length) (h1 : (recsF (l.take j)).length ≤ cut)
    (h2 : ∀ h : j < l.length, cut < (recsF (l.take (j + 1))).length) : ScanF ((recsF l).take cut) (l.take j) (recsF (l.take j)).length := by
  obtain ⟨pre, hpre⟩ : ∃ pre, pre = recsF (l.take j) := ⟨_, rfl⟩
  have hs := recsF_split l j
  have e : (recsF l).take cut = pre ++ (recsF (l.drop j)).take (cut - pre.length) := by
    rw [hs, ← hpre, List.take_append, List.take_of_length_le (by rw [hpre]; exact h1)]
  rw [← hpre] at h1 ⊢
  rw [e]
  refine ⟨?_, ?_⟩
  · have := reach_recs (l.take j) ((recsF (l.drop j)).take (cut - pre.length)) (fun r h => hr r (List.mem_of_mem_take h)) j (by simp; omega)
    rw [List.take_take, Nat.min_self, ← hpre] at this
    exact this
  · rcases Nat.lt_or_ge j l.length with hlt | hge
    · have h3 := h2 hlt
      rw [recsF_take l j hlt, ← hpre, List.length_append, recF_len] at h3
      have hd : recsF (l.drop j) = recF l[j] ++ recsF (l.drop (j + 1)) := by
        rw [List.drop_eq_getElem_cons hlt]
        rfl
      rw [hd]
      exact nextF_cut pre l[j] _ _ (hr _ (List.getElem_mem hlt)) (by omega)
    · have hd : l.drop j = [] := List.drop_eq_nil_of_le hge
      rw [hd]
      rw [nextF_short _ _ (by simp) (by simp [recsF])]
      simp
end Go.Proofs.Ytpjinngngbifoaa
