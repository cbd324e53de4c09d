/-
  WalLast: what the last generation, and one that is none, are told.
-/
import Derived.Test.YtpjinngngbifoaaWalJ
import Derived.Test.YtpjinngngbifoaaWalF
set_option linter.unusedSimpArgs false
set_option linter.unusedVariables false
namespace Go.Proofs.Ytpjinngngbifoaa
open Go.RowKit

/-- Whatever stands behind the first record: a look tells its generation or nothing. -/
theorem low_first {g : Nat} (hg : g < 4611686018427387904) (rest : List UInt8) : Low (recF (genF g) ++ rest) (g + 1) := by
  intro k hk
  obtain ⟨m, h1⟩ := look_total ((recF (genF g) ++ rest).take k)
  refine ⟨m, h1, fun x hx => ?_⟩
  subst hx
  obtain ⟨l, a, hsc, hl⟩ := h1
  cases l with
  | nil => cases hl
  | cons r rs =>
    obtain ⟨c, n, hc, hn⟩ := hsc.1.front 0 (by simp)
    rw [List.take_zero] at hc
    have hc0 : c = 0 := by
      have := hc.same (Reach.nil) rfl
      exact this.2
    subst hc0
    have hn : nextF ((recF (genF g) ++ rest).take k) ((0 : Nat) : Int) = (r, (n : Int), 0) := hn
    rcases Nat.lt_or_ge k 17 with hlt | hge
    · have := nextF_cut [] (genF g) rest k (by rw [genF_len]; omega) (by rw [genF_len]; omega)
      rw [List.nil_append] at this
      have h0 : (nextF ((recF (genF g) ++ rest).take k) ((0 : Nat) : Int)).2.2 ≠ 0 := this
      rw [hn] at h0
      exact absurd rfl h0
    · have e : (recF (genF g) ++ rest).take k = [] ++ (recF (genF g) ++ rest.take (k - 17)) := by
        rw [List.take_append, List.take_of_length_le (by rw [recF_len, genF_len]; omega), recF_len, genF_len]; rfl
      have h2 := nextF_rec [] (genF g) (rest.take (k - 17)) (by rw [genF_len]; omega)
      rw [← e] at h2
      have h2 : nextF ((recF (genF g) ++ rest).take k) ((0 : Nat) : Int) = (genF g, _, 0) := h2
      rw [h2] at hn
      have hr : genF g = r := by injection hn
      subst hr
      simp only [lookL] at hl
      split at hl
      · cases hl
      split at hl
      · cases hl
      cases hw : walkL rs false [] with
      | none => rw [hw] at hl; cases hl
      | some y =>
        rw [hw] at hl
        simp only [Option.map_some] at hl
        injection hl with hl
        rw [hl, getN_genF hg]
        show g < g + 1
        omega
/-- A new disk with bytes by hand in its first file. -/
def handD (B : List UInt8) : DiskM := ⟨⟨B, 0⟩, ⟨[], 0⟩, -1, false, 0, 1⟩
theorem hand_eq (B : List UInt8) : DiskM.new.append 0 B = (0, handD B) := rfl
theorem hand_alive (B : List UInt8) (k : PickM) : Alive (handD B) (walOf (handD B) k) := ⟨rfl, rfl, rfl, Int.le_refl _, show (-1 : Int) ≤ _ by decide⟩
def tailL (t : Bool) : List UInt8 := if t then [1, 2, 3] else []
theorem look_hand {g : Nat} (hg : 1 ≤ g ∧ g < 4611686018427387904) (rs : List (List UInt8)) (hr : Small rs) (t : Bool) : LookF (fileW g rs ++ tailL t) (some ⟨g, rs, t⟩) := by
  have h0 : (nextF (tailL t) 0).2.2 ≠ 0 := by cases t <;> decide
  have h := look_tail hg rs [] hr (by simp) (tailL t) h0
  have e : decide (0 < (tailL t).length) = t := by cases t <;> decide
  rw [e] at h
  simpa [recsF] using h
theorem pick_hand (B : List UInt8) (x : LookM) (hx : 1 ≤ x.gen) : pickK (handD B) (some x) none 2 = ⟨0, x.gen, x.recs, B.length, x.spoil⟩ := pick_low (Or.inl rfl) hx rfl rfl (fun y h => by cases h)
theorem last_plain {g n : Nat} (hg : 1 ≤ g ∧ g < 4611686018427387904) (rs : List (List UInt8)) (hr : Small rs) (hn : 26 + 9 * rs.length + rs.flatten.length ≤ n) :
    ∃ l, openW (handD (fileW g rs ++ tailL false)) (some ⟨g, rs, false⟩) none = (0, handD (fileW g rs ++ tailL false), some (l, rs)) ∧ LogJ rs 1 g n (handD (fileW g rs ++ tailL false)) l := by
  unfold openW
  rw [if_neg (by show ¬(false = true); simp), pick_hand _ _ hg.1]
  unfold openR
  rw [if_neg (by show ¬((0 : Int) < 0 ∨ false = true); simp)]
  have e : fileW g rs ++ tailL false = fileW g rs := List.append_nil _
  refine ⟨_, rfl, ⟨⟨rs, [], by simp, ⟨Or.inl rfl, ?_, Nat.zero_le _, hg, hr, fun r h => (by cases h), Nat.zero_le _⟩⟩, hand_alive _ _, show (-1 : Int) < 0 by decide, rfl, rfl, rfl, ?_, Nat.le_refl _, rfl⟩⟩
  · show fileW g rs ++ tailL false = fileW g rs ++ recsF []
    simp [recsF, tailL]
  · intro f hf
    rcases hf with rfl | rfl
    · show (fileW g rs ++ tailL false).length ≤ n
      rw [e, fileW_len]; exact hn
    · show 0 ≤ n; omega
theorem last_spoilt {g n : Nat} (hg : 1 ≤ g ∧ g + 1 < 4611686018427387904) (rs : List (List UInt8)) (hr : Small rs) (hn : 29 + 9 * rs.length + rs.flatten.length ≤ n) :
    ∃ d l, openW (handD (fileW g rs ++ tailL true)) (some ⟨g, rs, true⟩) none = (0, d, some (l, rs)) ∧ LogJ rs 4 (g + 1) n d l := by
  unfold openW
  rw [if_neg (by show ¬(false = true); simp), pick_hand _ _ hg.1]
  unfold openR
  rw [if_pos (Or.inr rfl)]
  have hlow : Low (fileW g rs ++ tailL true) (g + 1) := by
    have e : fileW g rs ++ tailL true = recF (genF g) ++ (recsF (rs.map (82 :: ·) ++ [[69]]) ++ tailL true) := by
      unfold fileW logL; rw [recsF_cons, List.append_assoc]
    rw [e]
    exact low_first (by omega) _
  obtain ⟨d', l', h1, h2, -⟩ := rewrite_fresh (d := handD (fileW g rs ++ tailL true)) (l := walOf (handD (fileW g rs ++ tailL true)) ⟨0, g, rs, (fileW g rs ++ tailL true).length, true⟩) (s := 1) (n := n) rs (hand_alive _ _) (show (-1 : Int) < 0 by decide) (Or.inl rfl) rfl hg.2 hr hlow (Nat.zero_le _) (fun f hf => by
    rcases hf with rfl | rfl
    · show (fileW g rs ++ tailL true).length ≤ n
      rw [List.length_append, fileW_len]; show _ + 3 ≤ n; omega
    · show 0 ≤ n; omega) (by omega) (Nat.le_refl _) rfl
  dsimp only at h1 ⊢
  rw [h1, if_neg (by simp)]
  exact ⟨d', l', rfl, h2⟩
theorem last_full {g : Nat} (hg : g + 1 = 4611686018427387904) (rs : List (List UInt8)) : openW (handD (fileW g rs ++ tailL true)) (some ⟨g, rs, true⟩) none = (8, handD (fileW g rs ++ tailL true), none) := by
  unfold openW
  rw [if_neg (by show ¬(false = true); simp), pick_hand _ _ (by show 1 ≤ g; omega)]
  unfold openR
  rw [if_pos (Or.inr rfl)]
  have h1 : rewriteW (handD (fileW g rs ++ tailL true)) (walOf (handD (fileW g rs ++ tailL true)) ⟨0, g, rs, (fileW g rs ++ tailL true).length, true⟩) rs = (8, handD (fileW g rs ++ tailL true), walOf (handD (fileW g rs ++ tailL true)) ⟨0, g, rs, (fileW g rs ++ tailL true).length, true⟩) := by
    unfold rewriteW
    rw [if_neg (by simp [(hand_alive _ _).over]), if_pos (by show 4611686018427387904 ≤ g + 1; omega)]
  dsimp only
  rw [h1, if_pos (by show (8 : Int) ≠ 0; decide)]
end Go.Proofs.Ytpjinngngbifoaa
