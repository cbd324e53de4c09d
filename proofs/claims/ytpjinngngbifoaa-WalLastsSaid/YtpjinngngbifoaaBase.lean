/-
  The walks of antipodelaw0: twins, sums of lengths, pieces: what each call returns, and which memory it leaves as it was.
-/
import Derived.Test.YtpjinngngbifoaaRows
import Derived.Test.YtpjinngngbifoaaLib
import Derived.Deep.QuietTactic
import Derived.BigQuiet
set_option linter.unusedSimpArgs false
set_option linter.unusedVariables false
namespace Go.Proofs.Ytpjinngngbifoaa
open Go.RowKit

theorem P_own : ownKnob Try.prog.godebug = none := by kernel_rfl
theorem P_laid : laidOutB Try.prog = true := by kernel_rfl
theorem T8 : SlT Try.prog 24 5 1 1 (.int .u8 0) := ⟨by kernel_rfl, by kernel_rfl, rfl, by omega⟩
theorem TL : SlT Try.prog 22 24 1 24 (.slice none 0 0) := ⟨by kernel_rfl, by kernel_rfl, rfl, by omega⟩

/-- What Sum comes to. -/
def sumFrom (most n : Int) : List (List UInt8) → Int
  | [] => n
  | b :: l => if n ≤ most then (if most < b.length then most + 1 else sumFrom most (n + b.length) l) else n
def sumF (most : Int) (l : List (List UInt8)) : Int := sumFrom most 0 l
/-- What Place comes to. -/
def placeF (k n : Int) : Int := if n < 1 then 0 else if k.tmod n < 0 then k.tmod n + n else k.tmod n
theorem placeF_bd (k n : Int) : 0 ≤ placeF k n ∧ (1 ≤ n → placeF k n < n) := by
  unfold placeF
  split
  · constructor <;> omega
  · have h1 := Int.tmod_lt_of_pos k (b := n) (by omega)
    have h2 : -n < k.tmod n := by
      have := Int.lt_tmod_of_pos k (b := n) (by omega)
      omega
    split <;> constructor <;> omega

set_option maxHeartbeats 400000 in
theorem place_any (k n : Int) (w : World) (hk : -9223372036854775808 ≤ k ∧ k ≤ 9223372036854775807) (hn : -9223372036854775808 ≤ n ∧ n ≤ 9223372036854775807) :
    Calls Try.prog 25 #[.int .i64 k, .int .i64 n] w fun e w' => e = .returned (.int .i64 (placeF k n)) ∧ w = w' := by
  obtain ⟨hk1, hk2⟩ := hk
  obtain ⟨hn1, hn2⟩ := hn
  by_cases h1 : n < 1
  · have hf : placeF k n = 0 := by simp [placeF, h1]
    have Hf := Lib.hid hf
    clear hf
    go_enter Try.func25, Try.ntmps25
    go_wp2
    go_ret
    exact ⟨by rw [Hf.out]; rfl, rfl⟩
  · have a1 := Int.tmod_lt_of_pos k (b := n) (by omega)
    have a2 : -n < k.tmod n := by
      have := Int.lt_tmod_of_pos k (b := n) (by omega)
      omega
    by_cases h2 : k.tmod n < 0
    · have hf : placeF k n = k.tmod n + n := by simp [placeF, h1, h2]
      have Hf := Lib.hid hf
      clear hf
      go_enter Try.func25, Try.ntmps25
      go_wp2
      go_ret
      exact ⟨by rw [Hf.out]; rfl, rfl⟩
    · have hf : placeF k n = k.tmod n := by simp [placeF, h1, h2]
      have Hf := Lib.hid hf
      clear hf
      go_enter Try.func25, Try.ntmps25
      go_wp2
      go_ret
      exact ⟨by rw [Hf.out]; rfl, rfl⟩

/-- A twin: a row of its own, three cells of 229 behind the bytes. -/
def Twin (w : World) (g : Nat) (v : Value) (bs : List UInt8) : Prop :=
  v = .slice (some ⟨g, 0, none⟩) bs.length (bs.length + 3) ∧ Row w g 5 (cs8 (bs ++ [229, 229, 229]))
theorem Twin.by {w : World} {g : Nat} {v : Value} {bs : List UInt8} (h : Twin w g v bs) (hm : bs.length + 3 ≤ maxLen) : By w (fun k => k = g) v bs := by
  refine ⟨_, _, h.1, by omega, hm, ?_⟩
  have := h.2.sl (size := 1) (off := 0) (n := bs.length) (by simp)
  simpa [cs8] using this
theorem Twin.keep {w w' : World} {S : Nat → Prop} {g : Nat} {v : Value} {bs : List UInt8} (h : Twin w g v bs) (hk : Same S w w') (hs : S g) : Twin w' g v bs := ⟨h.1, h.2.keep hk hs⟩

theorem made8 (n : Nat) : (madeCells (Value.int .u8 0).cells (n * 1)).toList = List.replicate n (V8 0) := by
  rw [Nat.mul_one]; exact toList_madeCells_one _ n

def tailT (k : Nat) : List UInt8 := List.replicate k 229 ++ List.replicate (3 - k) 0
theorem tailT_set (bs : List UInt8) (k : Nat) (h : k < 3) : (cs8 (bs ++ tailT k)).set (bs.length + k) (V8 229) = cs8 (bs ++ tailT (k + 1)) := by
  match k, h with
  | 0, _ => simp [cs8, tailT, List.set_append]
  | 1, _ => simp [cs8, tailT, List.set_append, List.replicate]
  | 2, _ => simp [cs8, tailT, List.set_append, List.replicate]

theorem tailT_set' (bs : List UInt8) (j : Nat) (h1 : bs.length ≤ j) (h2 : j < bs.length + 3) : (cs8 (bs ++ tailT (j - bs.length))).set j (V8 229) = cs8 (bs ++ tailT (j + 1 - bs.length)) := by
  obtain ⟨k, rfl⟩ : ∃ k, j = bs.length + k := ⟨j - bs.length, by omega⟩
  rw [show bs.length + k - bs.length = k from by omega, show bs.length + k + 1 - bs.length = k + 1 from by omega]
  exact tailT_set bs k (by omega)

def TwinPost (bs : List UInt8) (w : World) (e : Ending) (w' : World) : Prop := ∃ u g, e = .returned u ∧ w.heap.size ≤ g ∧ Twin w' g u bs ∧ Same (fun _ => True) w w'
set_option maxHeartbeats 400000 in
theorem twin_any (v : Value) (bs : List UInt8) (S : Nat → Prop) (w : World) (hv : By w S v bs) (hb : bs.length ≤ 20000) :
    Calls Try.prog 51 #[v] w (TwinPost bs w) := by
  obtain ⟨A, cap, rfl, hc1, hm, hs⟩ := hv
  unfold maxLen at hm
  go_enter Try.func51, Try.ntmps51
  go_wp2_with (first | (at_make; refine wpList_mk T8 _ rfl _ _ rfl .i64 .i64 _ _ (bs.length + 3) rfl rfl (by simp) (by simp) (by omega) (by simp only [maxLen]; omega) ?_; intro w1 hr1 hs1 hz1; rw [made8] at hr1) | (with_reducible refine stopCopy rfl ?_))
  unfold Hid
  refine wpList_cp T8 _ rfl (.tmp 9) (.tmp 10) rfl _ _ _ _ _ _ _ rfl rfl _ _ hr1 _ _ (hs.keep (hs1.mono fun _ _ _ => trivial)) (by omega) (by simp) (oneCell8 _) ?_
  intro w2 hr2 hs2
  go_wp2
  go_loopw [4] (fun i wr => ∃ j : Nat, bs.length ≤ j ∧ j ≤ bs.length + 3 ∧ i = .int .i64 j ∧ Row wr w.heap.size 5 (cs8 (bs ++ tailT (j - bs.length))) ∧ Same (fun _ => True) w wr) (fun i _ => bs.length + 3 - (intOf i).toNat)
  case atStart =>
    refine ⟨bs.length, by omega, by omega, rfl, ?_, hs1.trans' hs2 (fun i hi _ => by omega)⟩
    have e : (List.replicate (bs.length + 3) (V8 0)).take 0 ++ (cs8 bs ++ (List.replicate (bs.length + 3) (V8 0)).drop (0 + bs.length)) = cs8 (bs ++ tailT (bs.length - bs.length)) := by
      simp [cs8, tailT]
    rw [← e]
    exact hr2
  case round =>
    obtain ⟨j, h1, h2, rfl, h3, h4⟩ := hrel
    by_cases hlt : j < bs.length + 3
    · obtain ⟨u, hu⟩ : ∃ u, (cs8 (bs ++ tailT (j - bs.length)))[j]? = some u := ⟨_, List.getElem?_eq_getElem (by simp [tailT]; omega)⟩
      have hcell := h3.cell j
      rw [hu] at hcell
      have hfr := h3.frozen j
      clear hu
      go_wp2
      go_roundw
      case rel =>
        refine ⟨j + 1, by omega, by omega, by go_num, ?_, h4.setCell (by simp) _⟩
        rw [← tailT_set' bs j h1 hlt]
        exact h3.set_ j (V8 229)
      case measure => simp [intOf]; omega
    · obtain rfl : j = bs.length + 3 := by omega
      go_wp2
      go_ret
      refine ⟨_, w.heap.size, rfl, Nat.le_refl _, ⟨rfl, ?_⟩, h4⟩
      rw [show bs.length + 3 - bs.length = 3 from by omega] at h3
      exact h3

set_option maxHeartbeats 400000 in
theorem kept_any (x v : Value) (bs : List UInt8) (g : Nat) (S : Nat → Prop) (w : World) (ht : Twin w g x bs) (hv : By w S v bs) (hb : bs.length ≤ 20000) :
    Calls Try.prog 53 #[x, v] w fun e w' => e = .returned (.bool true) ∧ w' = w := by
  obtain ⟨A, cap, rfl, hc1, hm, hs⟩ := hv
  unfold maxLen at hm
  have hby := ht.by (by simp only [maxLen]; omega)
  obtain ⟨rfl, hrow⟩ := ht
  obtain ⟨_, _, he, _, _, hs2⟩ := hby
  simp only [Value.slice.injEq] at he
  obtain ⟨rfl, -, rfl⟩ := he
  have hcv1 := conv_str (P := Try.prog) (bs.length + 3) 24 9 5 Try.underlying24 Try.underlying5 Try.underlying9 hs2
  have hcv2 := conv_str (P := Try.prog) cap 24 9 5 Try.underlying24 Try.underlying5 Try.underlying9 hs
  have h229 : ∀ j, bs.length ≤ j → j < bs.length + 3 → w.cell? ⟨g, j, none⟩ = some (.int .u8 229) := by
    intro j h1 h2
    rw [hrow.cell]
    obtain ⟨k, rfl⟩ : ∃ k, j = bs.length + k := ⟨j - bs.length, by omega⟩
    match k, (show k < 3 by omega) with
    | 0, _ => simp [cs8, n8]
    | 1, _ => simp [cs8, n8]
    | 2, _ => simp [cs8, n8]
  have h229 := Lib.hid h229
  clear hs hs2 hrow
  go_enter Try.func53, Try.ntmps53
  go_wp2
  clear hcv1 hcv2
  go_loop [6] (fun i => ∃ j : Nat, bs.length ≤ j ∧ j ≤ bs.length + 3 ∧ i = .int .i64 j) (fun i => bs.length + 3 - (intOf i).toNat)
  case atStart => exact ⟨_, by omega, by omega, rfl⟩
  case round =>
    obtain ⟨j, h1, h2, rfl⟩ := hrel
    by_cases hlt : j < bs.length + 3
    · have hcell := h229.out j h1 hlt
      go_wp2
      go_round
      case rel => exact ⟨j + 1, by omega, by omega, by go_num⟩
      case measure => simp [intOf]; omega
    · obtain rfl : j = bs.length + 3 := by omega
      go_wp2
      go_ret
      exact ⟨rfl, rfl⟩

theorem sumFrom_more {most n : Int} {l : List (List UInt8)} {k : Nat} (h : k < l.length) (h1 : n ≤ most) (h2 : ¬ most < (l[k].length : Int)) : sumFrom most n (l.drop k) = sumFrom most (n + l[k].length) (l.drop (k + 1)) := by
  rw [List.drop_eq_getElem_cons h, sumFrom, if_pos h1, if_neg h2]
theorem sumFrom_long {most n : Int} {l : List (List UInt8)} {k : Nat} (h : k < l.length) (h1 : n ≤ most) (h2 : most < (l[k].length : Int)) : sumFrom most n (l.drop k) = most + 1 := by
  rw [List.drop_eq_getElem_cons h, sumFrom, if_pos h1, if_pos h2]
theorem sumFrom_over {most n : Int} {l : List (List UInt8)} {k : Nat} (h1 : ¬ n ≤ most) : sumFrom most n (l.drop k) = n := by
  cases l.drop k with
  | nil => rfl
  | cons b l => rw [sumFrom, if_neg h1]

set_option maxHeartbeats 400000 in
theorem sum_any (v : Value) (l : List (List UInt8)) (most : Int) (S : Nat → Prop) (w : World) (hv : ByL w S v l) (h0 : 0 ≤ most) (h1 : most ≤ 20000) :
    Calls Try.prog 10 #[v, .int .i64 most] w fun e w' => e = .returned (.int .i64 (sumF most l)) ∧ w = w' := by
  obtain ⟨A, cap, vs, rfl, hc1, hm, hs, hel⟩ := hv
  unfold maxLen at hm
  go_enter Try.func10, Try.ntmps10
  go_wp2
  go_loop [5, 6] (fun r i => ∃ (k : Nat) (n : Int), k ≤ l.length ∧ 0 ≤ n ∧ n ≤ most + most ∧ i = .int .i64 k ∧ r = .int .i64 n ∧ Hid (sumF most l = sumFrom most n (l.drop k))) (fun _ i => l.length - (intOf i).toNat)
  case atStart => exact ⟨0, 0, by omega, by omega, by omega, rfl, rfl, rfl⟩
  case round =>
    obtain ⟨k, n, hk, hn0, hn1, rfl, rfl, hf⟩ := hrel
    by_cases hlt : k < l.length
    · by_cases hle : n ≤ most
      · obtain ⟨ad, u, rfl, hS, hu, hcell⟩ := hs.at_ hlt
        obtain ⟨A2, c2, rfl, hc2, hm2, hs2⟩ := hel k u l[k] hu (by simp [hlt])
        unfold maxLen at hm2
        clear hs hel hu hs2
        by_cases hlong : most < (l[k].length : Int)
        · have HF := Lib.hid (hf.out.trans (sumFrom_long hlt hle hlong))
          clear hf
          go_wp2
          go_ret
          exact ⟨by rw [HF.out]; rfl, rfl⟩
        · have HF := Lib.hid (hf.out.trans (sumFrom_more hlt hle hlong))
          clear hf
          have hnn : 0 ≤ (l[k].length : Int) := by omega
          go_wp2
          go_round
          case rel => exact ⟨k + 1, n + l[k].length, by omega, by omega, by omega, by go_num, rfl, HF⟩
          case measure => simp [intOf]; omega
      · have HF := Lib.hid (hf.out.trans (sumFrom_over hle))
        clear hf
        go_wp2
        go_ret
        exact ⟨by rw [HF.out]; rfl, rfl⟩
    · obtain rfl : k = l.length := by omega
      have HF := Lib.hid (hf.out.trans (show sumFrom most n (l.drop l.length) = n by rw [List.drop_length]; rfl))
      clear hf
      go_wp2
      go_ret
      exact ⟨by rw [HF.out]; rfl, rfl⟩

/-- A list of twins of these bytes, in blocks of S. -/
def TwinL (w : World) (S : Nat → Prop) (v : Value) (l : List (List UInt8)) : Prop :=
  ∃ A c vs, v = .slice A l.length c ∧ l.length ≤ c ∧ c ≤ maxLen ∧ Sl w S 1 A l.length vs ∧ ∀ (i : Nat) (u : Value) (x : List UInt8), vs[i]? = some u → l[i]? = some x → ∃ g, S g ∧ Twin w g u x
theorem TwinL.keep {w w' : World} {S : Nat → Prop} {v : Value} {l : List (List UInt8)} (h : TwinL w S v l) (hk : Same S w w') : TwinL w' S v l := by
  obtain ⟨A, c, vs, rfl, hc, hm, hs, he⟩ := h
  refine ⟨A, c, vs, rfl, hc, hm, hs.keep hk, fun i u x hu hx => ?_⟩
  obtain ⟨g, hg, ht⟩ := he i u x hu hx
  exact ⟨g, hg, ht.keep hk hg⟩
theorem TwinL.by {w : World} {S : Nat → Prop} {v : Value} {l : List (List UInt8)} (h : TwinL w S v l) (hl : ∀ b ∈ l, b.length ≤ 20000) : ByL w S v l := by
  obtain ⟨A, c, vs, rfl, hc, hm, hs, he⟩ := h
  refine ⟨A, c, vs, rfl, hc, hm, hs, fun i u x hu hx => ?_⟩
  obtain ⟨g, hg, ht⟩ := he i u x hu hx
  have := hl x (List.mem_of_getElem? hx)
  exact (ht.by (by simp only [maxLen]; omega)).mono (fun k _ e => e ▸ hg)

set_option maxHeartbeats 400000 in
theorem allkept_any (x v : Value) (l : List (List UInt8)) (S S' : Nat → Prop) (w : World) (hx : TwinL w S' x l) (hv : ByL w S v l) (hb : ∀ b ∈ l, b.length ≤ 20000) :
    Calls Try.prog 58 #[x, v] w fun e w' => e = .returned (.bool true) ∧ Same (fun _ => True) w w' := by
  obtain ⟨A, cap, vs, rfl, hc1, hm, hs, hel⟩ := hv
  obtain ⟨A', cap', vs', rfl, hc1', hm', hs', hel'⟩ := hx
  unfold maxLen at hm hm'
  have hb := Lib.hid hb
  go_enter Try.func58, Try.ntmps58
  go_wp2
  go_loopw [5] (fun i wr => ∃ k : Nat, k ≤ l.length ∧ i = .int .i64 k ∧ Same (fun _ => True) w wr) (fun i _ => l.length - (intOf i).toNat)
  case atStart => exact ⟨0, by omega, rfl, Same.refl _ _⟩
  case round =>
    obtain ⟨k, hk, rfl, hsm⟩ := hrel
    by_cases hlt : k < l.length
    · obtain ⟨ad, u, rfl, hS, hu, hcell⟩ := (hs.keep (hsm.mono fun _ _ _ => trivial)).at_ hlt
      obtain ⟨ad', u', rfl, hS', hu', hcell'⟩ := (hs'.keep (hsm.mono fun _ _ _ => trivial)).at_ hlt
      obtain ⟨g, hg, htw⟩ := hel' k u' l[k] hu' (by simp [hlt])
      have htw := htw.keep (S := fun _ => True) hsm trivial
      have hbk := hb.out l[k] (by simp)
      have hby := (hel k u l[k] hu (by simp [hlt])).keepAll hsm
      clear hs hel hu hs' hel' hu'
      have K := fun n => kept_any u' u l[k] g S (wr.drewN n) htw hby hbk
      have K := Lib.hid K
      have hsm := Lib.hid hsm
      clear htw hby
      go_wp2
      go_quiet ((go_at_call 53; exact Calls.quiet_of_same (K.out _)))
      go_wp2
      go_roundw
      case rel => exact ⟨k + 1, by omega, by go_num, (hsm.out).drewN _⟩
      case measure => simp [intOf]; omega
    · obtain rfl : k = l.length := by omega
      go_wp2
      go_ret
      exact ⟨rfl, hsm⟩
end Go.Proofs.Ytpjinngngbifoaa
