/-
  Plain laws of the log: what a look tells of a file that was written, cut off anywhere.
-/
import Derived.Test.YtpjinngngbifoaaWalM
set_option linter.unusedSimpArgs false
set_option linter.unusedVariables false
namespace Go.Proofs.Ytpjinngngbifoaa
open Go.RowKit

def genF (g : Nat) : List UInt8 := 71 :: putN 8 g
/-- The records of a whole file. -/
def logL (g : Nat) (rs : List (List UInt8)) : List (List UInt8) := genF g :: (rs.map (82 :: ·) ++ [[69]])
def fileW (g : Nat) (rs : List (List UInt8)) : List UInt8 := recsF (logL g rs)
theorem recsF_app (a b : List (List UInt8)) : recsF (a ++ b) = recsF a ++ recsF b := by simp [recsF]
theorem recsF_cons (a : List UInt8) (b : List (List UInt8)) : recsF (a :: b) = recF a ++ recsF b := by simp [recsF]
theorem recsF_length : ∀ l : List (List UInt8), (recsF l).length = 8 * l.length + l.flatten.length
  | [] => rfl
  | r :: l => by rw [recsF_cons, List.length_append, recF_len, recsF_length l]; simp; omega
theorem flat_R (rs : List (List UInt8)) : (rs.map (82 :: ·)).flatten.length = rs.length + rs.flatten.length := by
  induction rs with
  | nil => rfl
  | cons r rs ih => simp at ih ⊢; omega
theorem genF_len (g : Nat) : (genF g).length = 9 := by simp [genF, putN_len]
theorem fileW_len (g : Nat) (rs : List (List UInt8)) : (fileW g rs).length = 26 + 9 * rs.length + rs.flatten.length := by
  unfold fileW
  rw [recsF_length]
  have := flat_R rs
  simp only [logL, List.length_cons, List.length_append, List.length_map, List.flatten_cons, List.flatten_append, genF_len, this]
  simp
  omega
theorem appR_len (rs : List (List UInt8)) : (recsF (rs.map (82 :: ·))).length = 9 * rs.length + rs.flatten.length := by
  rw [recsF_length, flat_R]; simp; omega
theorem getN_genF {g : Nat} (hg : g < 4611686018427387904) : getN ((genF g).drop 1) = g := by
  show getN (putN 8 g) = g
  exact getN_putN 8 g (by omega)

/-! ### walkL -/
theorem walkL_recs : ∀ (rs rest : List (List UInt8)) (whole : Bool) (acc : List (List UInt8)), walkL (rs.map (82 :: ·) ++ rest) whole acc = walkL rest whole (acc ++ rs)
  | [], rest, whole, acc => by simp
  | r :: rs, rest, whole, acc => by
    simp only [List.map_cons, List.cons_append, walkL, List.head?_cons, List.tail_cons, if_true]
    rw [walkL_recs rs rest whole (acc ++ [r])]
    simp
theorem walkL_acc : ∀ (l : List (List UInt8)) (whole : Bool) (acc : List (List UInt8)) x, walkL l whole acc = some x → ∃ k, x.1 = acc ++ k
  | [], whole, acc, x, h => by
    simp only [walkL] at h
    split at h
    · injection h with h; subst h; exact ⟨[], by simp⟩
    · cases h
  | r :: rs, whole, acc, x, h => by
    simp only [walkL] at h
    split at h
    · obtain ⟨k, hk⟩ := walkL_acc rs _ _ x h
      exact ⟨[r.tail] ++ k, by rw [hk]; simp⟩
    · split at h
      · injection h with h; subst h; exact ⟨[], by simp⟩
      · split at h
        · exact walkL_acc rs _ _ x h
        · cases h
theorem lookL_log {g : Nat} (hg : 1 ≤ g ∧ g < 4611686018427387904) (rs more : List (List UInt8)) (sp : Bool) : lookL (logL g rs ++ more.map (82 :: ·)) sp = some ⟨g, rs ++ more, sp⟩ := by
  have e : logL g rs ++ more.map (82 :: ·) = genF g :: (rs.map (82 :: ·) ++ ([69] :: more.map (82 :: ·))) := by simp [logL]
  rw [e]
  simp only [lookL]
  rw [if_neg (by simp [genF_len]; simp [genF]), getN_genF hg.2, if_neg (by omega), walkL_recs]
  have e2 : walkL (more.map (82 :: ·)) true rs = some (rs ++ more, false) := by
    have := walkL_recs more [] true rs
    rw [List.append_nil] at this
    rw [this]; simp [walkL]
  simp [walkL, e2]
theorem lookL_part {g : Nat} (rs : List (List UInt8)) (j : Nat) (hj : j < (logL g rs).length) (sp : Bool) : lookL ((logL g rs).take j) sp = none := by
  match j with
  | 0 => rfl
  | j + 1 =>
    have hj' : j ≤ rs.length := by simp [logL] at hj; omega
    have e : (logL g rs).take (j + 1) = genF g :: (rs.take j).map (82 :: ·) := by
      simp only [logL, List.take_succ_cons]
      rw [List.take_append_of_le_length (by simpa using hj'), List.map_take]
    rw [e]
    simp only [lookL]
    split
    · rfl
    split
    · rfl
    have := walkL_recs (rs.take j) [] false []
    rw [List.append_nil] at this
    rw [this]
    rfl

/-! ### files that were cut off -/
theorem cut_find (l : List (List UInt8)) (cut : Nat) (hcut : cut ≤ (recsF l).length) : ∃ j, j ≤ l.length ∧ (recsF (l.take j)).length ≤ cut ∧ ∀ h : j < l.length, cut < (recsF (l.take (j + 1))).length := by
  have key : ∀ n, n ≤ l.length → (∃ j, j ≤ n ∧ (recsF (l.take j)).length ≤ cut ∧ ∀ h : j < n, cut < (recsF (l.take (j + 1))).length) := by
    intro n
    induction n with
    | zero => intro _; exact ⟨0, Nat.le_refl _, by simp [recsF], fun h => absurd h (by omega)⟩
    | succ n ih =>
      intro hn
      obtain ⟨j, h1, h2, h3⟩ := ih (by omega)
      by_cases hj : j < n
      · exact ⟨j, by omega, h2, fun _ => h3 hj⟩
      · obtain rfl : j = n := by omega
        by_cases hc : (recsF (l.take (j + 1))).length ≤ cut
        · exact ⟨j + 1, Nat.le_refl _, hc, fun h => absurd h (by omega)⟩
        · exact ⟨j, by omega, h2, fun _ => by omega⟩
  exact key l.length (Nat.le_refl _)
theorem take_len_mono (l : List (List UInt8)) {i j : Nat} (h : i ≤ j) : (recsF (l.take i)).length ≤ (recsF (l.take j)).length := by
  rw [recsF_length, recsF_length]
  have e : l.take i = (l.take j).take i := by rw [List.take_take, Nat.min_eq_left h]
  have e2 := List.take_append_drop i (l.take j)
  have h2 : (l.take i).length + ((l.take j).drop i).length = (l.take j).length := by rw [e, ← List.length_append, e2]
  have h3 : (l.take i).flatten.length + ((l.take j).drop i).flatten.length = (l.take j).flatten.length := by rw [e, ← List.length_append, ← List.flatten_append, e2]
  omega
/-- What a look tells of a file that was written, cut off at k. -/
inductive CutLook (g : Nat) (rs more : List (List UInt8)) (k : Nat) : Option LookM → Prop
  | part : k < (fileW g rs).length → CutLook g rs more k none
  | whole (j : Nat) : j ≤ more.length → (fileW g rs ++ recsF ((more.take j).map (82 :: ·))).length ≤ k → (∀ i, i ≤ more.length → (fileW g rs ++ recsF ((more.take i).map (82 :: ·))).length ≤ k → i ≤ j) →
      CutLook g rs more k (some ⟨g, rs ++ more.take j, decide ((fileW g rs ++ recsF ((more.take j).map (82 :: ·))).length < k)⟩)
theorem cutLook {g : Nat} (hg : 1 ≤ g ∧ g < 4611686018427387904) (rs more : List (List UInt8)) (hr : ∀ r ∈ rs, r.length ≤ 1048575) (hm : ∀ r ∈ more, r.length ≤ 1048575) (k : Nat) (hk : k ≤ (fileW g rs ++ recsF (more.map (82 :: ·))).length) :
    ∃ m, LookF ((fileW g rs ++ recsF (more.map (82 :: ·))).take k) m ∧ CutLook g rs more k m := by
  obtain ⟨L, hL⟩ : ∃ L, L = logL g rs ++ more.map (82 :: ·) := ⟨_, rfl⟩
  have eL : fileW g rs ++ recsF (more.map (82 :: ·)) = recsF L := by rw [hL, recsF_app]; rfl
  have hLr : ∀ r ∈ L, r.length ≤ 1048576 := by
    intro r h
    rw [hL] at h
    simp only [logL, List.mem_append, List.mem_cons, List.mem_map, List.not_mem_nil, or_false] at h
    rcases h with (rfl | (⟨x, h, rfl⟩) | rfl) | (⟨x, h, rfl⟩)
    · rw [genF_len]; omega
    · have := hr x h; simp; omega
    · simp
    · have := hm x h; simp; omega
  rw [eL] at hk ⊢
  obtain ⟨j, h1, h2, h3⟩ := cut_find L k hk
  have hsc := cut_scan L hLr k j h1 hk h2 h3
  have hlen : ((recsF L).take k).length = k := by rw [List.length_take]; omega
  refine ⟨_, ⟨_, _, hsc, rfl⟩, ?_⟩
  rw [hlen]
  have hlog : (logL g rs).length = rs.length + 2 := by simp [logL]
  by_cases hj : j < (logL g rs).length
  · have e : L.take j = (logL g rs).take j := by rw [hL, List.take_append_of_le_length (by omega)]
    rw [e, lookL_part rs j hj]
    refine .part ?_
    have h4 := h3 (by rw [hL, List.length_append]; omega)
    have h5 := take_len_mono L (i := j + 1) (j := (logL g rs).length) (by omega)
    have e2 : L.take (logL g rs).length = logL g rs := by rw [hL, List.take_left]
    rw [e2] at h5
    unfold fileW
    omega
  · obtain ⟨i, rfl⟩ : ∃ i, j = (logL g rs).length + i := ⟨j - (logL g rs).length, by omega⟩
    have hi : i ≤ more.length := by rw [hL] at h1; simp at h1; omega
    have e : ∀ i, L.take ((logL g rs).length + i) = logL g rs ++ (more.take i).map (82 :: ·) := fun i => by
      rw [hL, List.take_append, List.take_of_length_le (by omega), show (logL g rs).length + i - (logL g rs).length = i by omega, List.map_take]
    have e3 : ∀ i, fileW g rs ++ recsF ((more.take i).map (82 :: ·)) = recsF (L.take ((logL g rs).length + i)) := fun i => by rw [e, recsF_app]; rfl
    rw [e i, lookL_log hg, ← e i, ← e3 i]
    refine .whole i hi (by rw [e3]; exact h2) fun x hx hxk => ?_
    rw [e3] at hxk
    rcases Nat.lt_or_ge i x with hlt | hge
    · exfalso
      have h4 := h3 (by rw [hL]; simp; omega)
      have h5 := take_len_mono L (i := (logL g rs).length + i + 1) (j := (logL g rs).length + x) (by omega)
      omega
    · exact hge
/-- A look at what was written, and a tail that is no record. -/
theorem look_tail {g : Nat} (hg : 1 ≤ g ∧ g < 4611686018427387904) (rs more : List (List UInt8)) (hr : ∀ r ∈ rs, r.length ≤ 1048575) (hm : ∀ r ∈ more, r.length ≤ 1048575) (tail : List UInt8) (ht : (nextF tail 0).2.2 ≠ 0) :
    LookF (fileW g rs ++ recsF (more.map (82 :: ·)) ++ tail) (some ⟨g, rs ++ more, decide (0 < tail.length)⟩) := by
  obtain ⟨L, hL⟩ : ∃ L, L = logL g rs ++ more.map (82 :: ·) := ⟨_, rfl⟩
  have eL : fileW g rs ++ recsF (more.map (82 :: ·)) = recsF L := by rw [hL, recsF_app]; rfl
  have hLr : ∀ r ∈ L, r.length ≤ 1048576 := by
    intro r h
    rw [hL] at h
    simp only [logL, List.mem_append, List.mem_cons, List.mem_map, List.not_mem_nil, or_false] at h
    rcases h with (rfl | (⟨x, h, rfl⟩) | rfl) | (⟨x, h, rfl⟩)
    · rw [genF_len]; omega
    · have := hr x h; simp; omega
    · simp
    · have := hm x h; simp; omega
  rw [eL]
  have hre := reach_recs L tail hLr L.length (Nat.le_refl _)
  rw [List.take_length] at hre
  have hsc : ScanF (recsF L ++ tail) L (recsF L).length := by
    refine ⟨hre, ?_⟩
    have hnx : ∀ (pre t : List UInt8), (nextF (pre ++ t) pre.length).2.2 = (nextF t 0).2.2 := by
      intro pre t
      unfold nextF
      have hd : (pre ++ t).drop ((pre.length : Int)).toNat = t := by rw [Int.toNat_natCast, List.drop_left]
      rw [hd, show (0 : Int).toNat = 0 from rfl, List.drop_zero]
      rw [if_neg (by rw [List.length_append]; omega), if_neg (show ¬((0 : Int) < 0 ∨ (t.length : Int) < 0) by omega)]
      repeat' split
      all_goals rfl
    rw [hnx]
    exact ht
  refine ⟨_, _, hsc, ?_⟩
  rw [hL, lookL_log hg, ← hL]
  congr 2
  simp
end Go.Proofs.Ytpjinngngbifoaa
