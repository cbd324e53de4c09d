/-
  Plain laws of records: what was written is read, one by one and all.
-/
import Derived.Test.YtpjinngngbifoaaFrmS
set_option linter.unusedSimpArgs false
set_option linter.unusedVariables false
namespace Go.Proofs.Ytpjinngngbifoaa
open Go.RowKit

theorem getN_put_take (n v : Nat) (h : v < 256 ^ n) : ∀ j, j ≤ n → getN ((putN n v).take j) = v / 256 ^ (n - j)
  | 0, _ => by
    rw [List.take_zero]
    simp [getN, Nat.div_eq_of_lt h]
  | j + 1, hj => by
    rw [putN_take n v j (by omega), getN_snoc, getN_put_take n v h j (by omega), UInt8.toNat_ofNat']
    have e : n - j = (n - 1 - j) + 1 := by omega
    have e2 : n - (j + 1) = n - 1 - j := by omega
    rw [e, e2, Nat.pow_succ, ← Nat.div_div_eq_div_mul]
    omega
theorem getN_putN (n v : Nat) (h : v < 256 ^ n) : getN (putN n v) = v := by
  have := getN_put_take n v h n (Nat.le_refl _)
  rwa [List.take_of_length_le (by rw [putN_len]; omega), Nat.sub_self, Nat.pow_zero, Nat.div_one] at this
theorem nextF_rec (pre r post : List UInt8) (hr : r.length ≤ 1048576) : nextF (pre ++ (recF r ++ post)) pre.length = (r, ((pre.length + 8 + r.length : Nat) : Int), 0) := by
  have hd : (pre ++ (recF r ++ post)).drop ((pre.length : Int)).toNat = recF r ++ post := by rw [Int.toNat_natCast, List.drop_left]
  have hl : (recF r ++ post).length = 8 + r.length + post.length := by rw [List.length_append, recF_len]
  obtain ⟨c, hc⟩ : ∃ c, c = ofF [putN 4 r.length, r] := ⟨_, rfl⟩
  have hcl := c.toNat_lt
  have e0 : recF r ++ post = putN 4 r.length ++ (putN 4 c.toNat ++ (r ++ post)) := by simp [recF, ← hc]
  have p4 : ∀ v, (putN 4 v).length = 4 := putN_len 4
  have e1 : (recF r ++ post).take 4 = putN 4 r.length := by rw [e0, List.take_append_of_le_length (by rw [p4]; omega), List.take_of_length_le (by rw [p4]; omega)]
  have e2 : (recF r ++ post).drop 4 = putN 4 c.toNat ++ (r ++ post) := by rw [e0]; exact List.drop_left' (p4 _)
  have e3 : ((recF r ++ post).drop 4).take 4 = putN 4 c.toNat := by rw [e2, List.take_append_of_le_length (by rw [p4]; omega), List.take_of_length_le (by rw [p4]; omega)]
  have e4 : (recF r ++ post).drop 8 = r ++ post := by rw [show 8 = 4 + 4 from rfl, ← List.drop_drop, e2]; exact List.drop_left' (p4 _)
  have g1 : getN ((recF r ++ post).take 4) = r.length := by rw [e1]; exact getN_putN 4 _ (by omega)
  have g2 : getN (((recF r ++ post).drop 4).take 4) = c.toNat := by rw [e3]; exact getN_putN 4 _ (by omega)
  have e5 : ((recF r ++ post).drop 8).take r.length = r := by rw [e4, List.take_left]
  unfold nextF
  rw [hd, g1, g2, e5, e1, ← hc]
  rw [if_neg (by rw [List.length_append]; omega), if_neg (by omega), if_neg (by omega), if_neg (by omega), if_neg (by simp)]
  simp
theorem nextF_short (b : List UInt8) (a : Nat) (h : a ≤ b.length) (hl : b.length - a < 8) : nextF b a = ([], 0, 2) := by
  unfold nextF
  rw [if_neg (by omega), Int.toNat_natCast, if_pos (by rw [List.length_drop]; exact hl)]
/-- All bytes of records. -/
def recsF (l : List (List UInt8)) : List UInt8 := (l.map recF).flatten
theorem recsF_snoc (l : List (List UInt8)) (r : List UInt8) : recsF (l ++ [r]) = recsF l ++ recF r := by simp [recsF]
theorem recsF_take (l : List (List UInt8)) (k : Nat) (h : k < l.length) : recsF (l.take (k + 1)) = recsF (l.take k) ++ recF l[k] := by
  rw [List.take_succ_eq_append_getElem h, recsF_snoc]
theorem recsF_split (l : List (List UInt8)) (k : Nat) : recsF l = recsF (l.take k) ++ recsF (l.drop k) := by
  simp only [recsF]
  rw [← List.flatten_append, ← List.map_append, List.take_append_drop]
/-- What stands in front is reached. -/
theorem reach_recs (l : List (List UInt8)) (post : List UInt8) (hr : ∀ r ∈ l, r.length ≤ 1048576) : ∀ k, k ≤ l.length → Reach (recsF l ++ post) (l.take k) (recsF (l.take k)).length
  | 0, _ => by simpa [recsF] using Reach.nil
  | k + 1, hk => by
    have ih := reach_recs l post hr k (by omega)
    have hkl : k < l.length := by omega
    rw [List.take_succ_eq_append_getElem hkl, recsF_snoc]
    refine Reach.snoc ih ?_
    have e : recsF l ++ post = recsF (l.take k) ++ (recF l[k] ++ (recsF (l.drop (k + 1)) ++ post)) := by
      rw [recsF_split l (k + 1), recsF_take l k hkl]
      simp
    rw [e, nextF_rec _ _ _ (hr _ (List.getElem_mem hkl))]
    simp [recF_len]
    omega
theorem reach_one (r post : List UInt8) (hr : r.length ≤ 1048576) : Reach (recF r ++ post) [r] (8 + r.length) := by
  have := reach_recs [r] post (by simpa using hr) 1 (by simp)
  simpa [recsF, recF_len] using this
end Go.Proofs.Ytpjinngngbifoaa
