/-
  The plain law of WalPicks: of two files by hand the later one is read, and it goes on from there.
-/
import Derived.Test.YtpjinngngbifoaaWal4
set_option linter.unusedSimpArgs false
set_option linter.unusedVariables false
namespace Go.Proofs.Ytpjinngngbifoaa
open Go.RowKit

def hand2 (B0 B1 : List UInt8) : DiskM := ⟨⟨B0, 0⟩, ⟨B1, 0⟩, -1, false, 0, 2⟩
theorem hand2_eq (B0 B1 : List UInt8) : (handD B0).append 1 B1 = (0, hand2 B0 B1) := rfl
theorem look_tailed {g : Nat} (hg : 1 ≤ g ∧ g < 4611686018427387904) (rs : List (List UInt8)) (hr : Small rs) (tail : List UInt8) (ht : (nextF tail 0).2.2 ≠ 0) : LookF (fileW g rs ++ tail) (some ⟨g, rs, decide (0 < tail.length)⟩) := by
  have h := look_tail hg rs [] hr (by simp) tail ht
  simpa [recsF] using h
theorem power_nil (d : DiskM) {f : Int} (hf : F01 f) : (d.power []).file f = (d.file f).cut 0 := by
  rcases hf with rfl | rfl <;> rfl
/-- What is picked of two. -/
def pickF (g h : Nat) : Int := if g < h then 1 else 0
def pickG (g h : Nat) : Nat := if g < h then h else g
def pickR (g h : Nat) (a b : List (List UInt8)) : List (List UInt8) := if g < h then b else a
theorem pick_two (B0 B1 : List UInt8) (g h : Nat) (a b : List (List UInt8)) (sp : Bool) : pickK (hand2 B0 B1) (some ⟨g, a, sp⟩) (some ⟨h, b, sp⟩) 2 = ⟨pickF g h, pickG g h, pickR g h a b, (if g < h then B1 else B0).length, sp⟩ := by
  show (pick0.look 0 (some ⟨g, a, sp⟩) B0.length).look 1 (some ⟨h, b, sp⟩) B1.length = _
  have e : pick0.look 0 (some ⟨g, a, sp⟩) B0.length = ⟨0, g, a, B0.length, sp⟩ := pick_take (y := pick0) _ _ (Or.inl (show (-1 : Int) < 0 by decide))
  rw [e]
  by_cases hh : g < h
  · rw [pick_take _ _ (Or.inr (show g < h from hh))]
    simp [pickF, pickG, pickR, hh]
  · rw [pick_keep _ _ (by show ¬((0 : Int) < 0 ∨ g < h); omega)]
    simp [pickF, pickG, pickR, hh]
theorem picks_open {g h n : Nat} {a b : List (List UInt8)} {tail : List UInt8} (hg : 1 ≤ g ∧ g ≤ 1000) (hh : 1 ≤ h ∧ h ≤ 1000) (ha : Small a) (hb : Small b) (hna : 26 + 9 * a.length + a.flatten.length + tail.length ≤ n) (hnb : 26 + 9 * b.length + b.flatten.length + tail.length ≤ n) :
    ∃ d l gx, openW (hand2 (fileW g a ++ tail) (fileW h b ++ tail)) (some ⟨g, a, decide (0 < tail.length)⟩) (some ⟨h, b, decide (0 < tail.length)⟩) = (0, d, some (l, pickR g h a b)) ∧
      LogJ (pickR g h a b) 5 gx n d l ∧ gx ≤ 1001 ∧ Low ((d.file (1 - l.f)).cut 0).b l.gen := by
  obtain ⟨B0, hB0⟩ : ∃ B0, B0 = fileW g a ++ tail := ⟨_, rfl⟩
  obtain ⟨B1, hB1⟩ : ∃ B1, B1 = fileW h b ++ tail := ⟨_, rfl⟩
  rw [← hB0, ← hB1]
  have hl0 : B0.length ≤ n := by rw [hB0, List.length_append, fileW_len]; omega
  have hl1 : B1.length ≤ n := by rw [hB1, List.length_append, fileW_len]; omega
  have hlen : Len (hand2 B0 B1) n := fun f hf => by
    rcases hf with rfl | rfl
    · exact hl0
    · exact hl1
  have hfile : ((hand2 B0 B1).file (pickF g h)).b = fileW (pickG g h) (pickR g h a b) ++ tail := by
    unfold pickF pickG pickR
    split
    · exact hB1
    · exact hB0
  have hsz : (if g < h then B1 else B0).length = ((hand2 B0 B1).file (pickF g h)).b.length := by
    unfold pickF
    split <;> rfl
  have hf01 : F01 (pickF g h) := by unfold pickF; split <;> simp [F01]
  have hG : 1 ≤ pickG g h ∧ pickG g h ≤ 1000 := by unfold pickG; split <;> assumption
  have hR : Small (pickR g h a b) := by unfold pickR; split <;> assumption
  have hRn : 26 + 9 * (pickR g h a b).length + (pickR g h a b).flatten.length + tail.length ≤ n := by unfold pickR; split <;> assumption
  unfold openW
  rw [if_neg (by show ¬(false = true); simp), pick_two]
  unfold openR
  dsimp only
  have hlast : ∀ f, F01 f → ((hand2 B0 B1).file f).last = 0 := fun f hf => by rcases hf with rfl | rfl <;> rfl
  obtain ⟨o1, o2, o3⟩ := hf01.other
  have hal : ∀ k : PickM, Alive (hand2 B0 B1) (walOf (hand2 B0 B1) k) := fun k => ⟨rfl, rfl, rfl, Int.le_refl _, show (-1 : Int) ≤ _ by decide⟩
  by_cases ht : tail = []
  · subst ht
    have hnf : ¬ (pickF g h < 0) := by rcases hf01 with e | e <;> rw [e] <;> decide
    rw [if_neg (by simp [hnf])]
    rw [List.append_nil] at hfile
    refine ⟨_, _, pickG g h, rfl, ⟨⟨pickR g h a b, [], by simp, ⟨hf01, ?_, ?_, ⟨hG.1, by show pickG g h < _; omega⟩, hR, fun r hr => (by cases hr), ?_⟩⟩, hal _, show (-1 : Int) < 0 by decide, rfl, hsz, rfl, hlen, by show 2 ≤ 5; omega, rfl⟩, by omega, ?_⟩
    · show ((hand2 B0 B1).file (pickF g h)).b = _
      rw [hfile]; simp [recsF]; rfl
    · show ((hand2 B0 B1).file (pickF g h)).last ≤ _
      rw [hlast _ hf01]; exact Nat.zero_le _
    · show ((hand2 B0 B1).file (1 - pickF g h)).last ≤ _
      rw [hlast _ o1]; exact Nat.zero_le _
    · show Low (((hand2 B0 B1).file (1 - pickF g h)).cut 0).b _
      simp only [FileM.cut, hlast _ o1, Nat.add_zero, List.take_zero]
      exact Low.nil _
  · have htl : decide (0 < tail.length) = true := decide_eq_true (by cases tail with | nil => exact absurd rfl ht | cons => simp)
    rw [if_pos (Or.inr htl)]
    have hlow : Low ((hand2 B0 B1).file (pickF g h)).b (pickG g h + 1) := by
      rw [hfile]
      have e : fileW (pickG g h) (pickR g h a b) ++ tail = recF (genF (pickG g h)) ++ (recsF ((pickR g h a b).map (82 :: ·) ++ [[69]]) ++ tail) := by
        unfold fileW logL; rw [recsF_cons, List.append_assoc]
      rw [e]
      exact low_first (by omega) _
    obtain ⟨d', l', h1, h2, h3, h4, h5⟩ := rewrite_fresh (d := hand2 B0 B1) (l := walOf (hand2 B0 B1) ⟨pickF g h, pickG g h, pickR g h a b, (if g < h then B1 else B0).length, decide (0 < tail.length)⟩) (s := 2) (n := n) (pickR g h a b) (hal _) (show (-1 : Int) < 0 by decide) hf01 rfl (by show pickG g h + 1 < _; omega) hR hlow (by
      show ((hand2 B0 B1).file (pickF g h)).last ≤ _
      rw [hlast _ hf01]; exact Nat.zero_le _) hlen (by omega) (Nat.le_refl _) rfl
    rw [h1, if_neg (by simp)]
    exact ⟨d', l', _, rfl, h2, by show pickG g h + 1 ≤ 1001; omega, h3.low.cut _⟩
/-- Append, Sync, a failure of the power: it goes on from there. -/
theorem picks_on {recs : List (List UInt8)} {s gx n : Nat} {d : DiskM} {l : WalM} (h : LogJ recs s gx n d l) (hlow : Low ((d.file (1 - l.f)).cut 0).b l.gen) (hgx : gx ≤ 1001) (r : List UInt8) (hr : r.length ≤ 1048575) (hn : 26 + 9 * (recs.length + 1) + (recs.flatten.length + r.length) ≤ n) :
    ∃ d1 l1 d2, appendW d l r = (0, d1, l1) ∧ LogJ (recs ++ [r]) (s + 1) gx n d1 l1 ∧ syncW d1 l1 = (0, d2, l1) ∧ LogJ (recs ++ [r]) (s + 2) gx n d2 l1 ∧ d2.Ok ∧
      ∀ m0 m1, LookF (d2.power []).f0.b m0 → LookF (d2.power []).f1.b m1 → ∃ d' l', openW (d2.power []) m0 m1 = (0, d', some (l', recs ++ [r])) := by
  obtain ⟨d1, l1, h1, h2, h3, h4, h5⟩ := h.app r hr hn
  obtain ⟨d2, k1, k2, k3, k4, k5⟩ := h2.syn
  refine ⟨d1, l1, d2, h1, h2, k1, k2, k4, fun m0 m1 q0 q1 => ?_⟩
  have hgen : l1.gen = l.gen := by rw [h2.gen, h.gen]
  obtain ⟨o1, o2, o3⟩ := k2.f01.other
  obtain ⟨d', l', z, -⟩ := k2.again k3 (by
    rw [power_nil _ o1, k5, h3, h5, hgen]
    exact hlow) (by omega) (by omega) q0 q1
  exact ⟨d', l', z⟩
end Go.Proofs.Ytpjinngngbifoaa
