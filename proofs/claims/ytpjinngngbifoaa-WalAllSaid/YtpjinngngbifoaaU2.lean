/-
  Words, plain models, laws and walks that the claims of this layer share (joined by shake.py). No condition.
-/
import Derived.Test.YtpjinngngbifoaaRows
import Derived.Deep.QuietTactic
import Derived.BigQuiet
import Derived.Test.YtpjinngngbifoaaU1
set_option linter.unusedSimpArgs false
set_option linter.unusedVariables false
namespace Go.Proofs.Ytpjinngngbifoaa
open Go.RowKit
theorem T8 : SlT Try.prog 24 5 1 1 (.int .u8 0) := ⟨by kernel_rfl, by kernel_rfl, rfl, by omega⟩
theorem TL : SlT Try.prog 22 24 1 24 (.slice none 0 0) := ⟨by kernel_rfl, by kernel_rfl, rfl, by omega⟩
/-- What Sum comes to. -/
def sumFrom (most n : Int) : List (List UInt8) → Int
  | [] => n
  | b :: l => if n ≤ most then (if most < b.length then most + 1 else sumFrom most (n + b.length) l) else n
def sumF (most : Int) (l : List (List UInt8)) : Int := sumFrom most 0 l
/-- What Place comes to. -/
def placeF (k n : Int) : Int := if n < 1 then 0 else if k.tmod n < 0 then k.tmod n + n else k.tmod n
theorem placeF_bd (k n : Int) : 0 ≤ placeF k n ∧ (1 ≤ n → placeF k n < n) := by
  unfold placeF
  split
  · constructor <;> omega
  · have h1 := Int.tmod_lt_of_pos k (b := n) (by omega)
    have h2 : -n < k.tmod n := by
      have := Int.lt_tmod_of_pos k (b := n) (by omega)
      omega
    split <;> constructor <;> omega
set_option maxHeartbeats 400000 in
theorem place_any (k n : Int) (w : World) (hk : -9223372036854775808 ≤ k ∧ k ≤ 9223372036854775807) (hn : -9223372036854775808 ≤ n ∧ n ≤ 9223372036854775807) :
    Calls Try.prog 25 #[.int .i64 k, .int .i64 n] w fun e w' => e = .returned (.int .i64 (placeF k n)) ∧ w = w' := by
  obtain ⟨hk1, hk2⟩ := hk
  obtain ⟨hn1, hn2⟩ := hn
  by_cases h1 : n < 1
  · have hf : placeF k n = 0 := by simp [placeF, h1]
    have Hf := Lib.hid hf
    clear hf
    go_enter Try.func25, Try.ntmps25
    go_wp2
    go_ret
    exact ⟨by rw [Hf.out]; rfl, rfl⟩
  · have a1 := Int.tmod_lt_of_pos k (b := n) (by omega)
    have a2 : -n < k.tmod n := by
      have := Int.lt_tmod_of_pos k (b := n) (by omega)
      omega
    by_cases h2 : k.tmod n < 0
    · have hf : placeF k n = k.tmod n + n := by simp [placeF, h1, h2]
      have Hf := Lib.hid hf
      clear hf
      go_enter Try.func25, Try.ntmps25
      go_wp2
      go_ret
      exact ⟨by rw [Hf.out]; rfl, rfl⟩
    · have hf : placeF k n = k.tmod n := by simp [placeF, h1, h2]
      have Hf := Lib.hid hf
      clear hf
      go_enter Try.func25, Try.ntmps25
      go_wp2
      go_ret
      exact ⟨by rw [Hf.out]; rfl, rfl⟩
/-- A twin: a row of its own, three cells of 229 behind the bytes. -/
def Twin (w : World) (g : Nat) (v : Value) (bs : List UInt8) : Prop :=
  v = .slice (some ⟨g, 0, none⟩) bs.length (bs.length + 3) ∧ Row w g 5 (cs8 (bs ++ [229, 229, 229]))
theorem Twin.by {w : World} {g : Nat} {v : Value} {bs : List UInt8} (h : Twin w g v bs) (hm : bs.length + 3 ≤ maxLen) : By w (fun k => k = g) v bs := by
  refine ⟨_, _, h.1, by omega, hm, ?_⟩
  have := h.2.sl (size := 1) (off := 0) (n := bs.length) (by simp)
  simpa [cs8] using this
theorem Twin.keep {w w' : World} {S : Nat → Prop} {g : Nat} {v : Value} {bs : List UInt8} (h : Twin w g v bs) (hk : Same S w w') (hs : S g) : Twin w' g v bs := ⟨h.1, h.2.keep hk hs⟩
theorem made8 (n : Nat) : (madeCells (Value.int .u8 0).cells (n * 1)).toList = List.replicate n (V8 0) := by
  rw [Nat.mul_one]; exact toList_madeCells_one _ n
def tailT (k : Nat) : List UInt8 := List.replicate k 229 ++ List.replicate (3 - k) 0
theorem tailT_set (bs : List UInt8) (k : Nat) (h : k < 3) : (cs8 (bs ++ tailT k)).set (bs.length + k) (V8 229) = cs8 (bs ++ tailT (k + 1)) := by
  match k, h with
  | 0, _ => simp [cs8, tailT, List.set_append]
  | 1, _ => simp [cs8, tailT, List.set_append, List.replicate]
  | 2, _ => simp [cs8, tailT, List.set_append, List.replicate]
theorem tailT_set' (bs : List UInt8) (j : Nat) (h1 : bs.length ≤ j) (h2 : j < bs.length + 3) : (cs8 (bs ++ tailT (j - bs.length))).set j (V8 229) = cs8 (bs ++ tailT (j + 1 - bs.length)) := by
  obtain ⟨k, rfl⟩ : ∃ k, j = bs.length + k := ⟨j - bs.length, by omega⟩
  rw [show bs.length + k - bs.length = k from by omega, show bs.length + k + 1 - bs.length = k + 1 from by omega]
  exact tailT_set bs k (by omega)
def TwinPost (bs : List UInt8) (w : World) (e : Ending) (w' : World) : Prop := ∃ u g, e = .returned u ∧ w.heap.size ≤ g ∧ Twin w' g u bs ∧ Same (fun _ => True) w w'
set_option maxHeartbeats 400000 in
theorem twin_any (v : Value) (bs : List UInt8) (S : Nat → Prop) (w : World) (hv : By w S v bs) (hb : bs.length ≤ 20000) :
    Calls Try.prog 51 #[v] w (TwinPost bs w) := by
  obtain ⟨A, cap, rfl, hc1, hm, hs⟩ := hv
  unfold maxLen at hm
  go_enter Try.func51, Try.ntmps51
  go_wp2_with (first | (at_make; refine wpList_mk T8 _ rfl _ _ rfl .i64 .i64 _ _ (bs.length + 3) rfl rfl (by simp) (by simp) (by omega) (by simp only [maxLen]; omega) ?_; intro w1 hr1 hs1 hz1; rw [made8] at hr1) | (with_reducible refine stopCopy rfl ?_))
  unfold Hid
  refine wpList_cp T8 _ rfl (.tmp 9) (.tmp 10) rfl _ _ _ _ _ _ _ rfl rfl _ _ hr1 _ _ (hs.keep (hs1.mono fun _ _ _ => trivial)) (by omega) (by simp) (oneCell8 _) ?_
  intro w2 hr2 hs2
  go_wp2
  go_loopw [4] (fun i wr => ∃ j : Nat, bs.length ≤ j ∧ j ≤ bs.length + 3 ∧ i = .int .i64 j ∧ Row wr w.heap.size 5 (cs8 (bs ++ tailT (j - bs.length))) ∧ Same (fun _ => True) w wr) (fun i _ => bs.length + 3 - (intOf i).toNat)
  case atStart =>
    refine ⟨bs.length, by omega, by omega, rfl, ?_, hs1.trans' hs2 (fun i hi _ => by omega)⟩
    have e : (List.replicate (bs.length + 3) (V8 0)).take 0 ++ (cs8 bs ++ (List.replicate (bs.length + 3) (V8 0)).drop (0 + bs.length)) = cs8 (bs ++ tailT (bs.length - bs.length)) := by
      simp [cs8, tailT]
    rw [← e]
    exact hr2
  case round =>
    obtain ⟨j, h1, h2, rfl, h3, h4⟩ := hrel
    by_cases hlt : j < bs.length + 3
    · obtain ⟨u, hu⟩ : ∃ u, (cs8 (bs ++ tailT (j - bs.length)))[j]? = some u := ⟨_, List.getElem?_eq_getElem (by simp [tailT]; omega)⟩
      have hcell := h3.cell j
      rw [hu] at hcell
      have hfr := h3.frozen j
      clear hu
      go_wp2
      go_roundw
      case rel =>
        refine ⟨j + 1, by omega, by omega, by go_num, ?_, h4.setCell (by simp) _⟩
        rw [← tailT_set' bs j h1 hlt]
        exact h3.set_ j (V8 229)
      case measure => simp [intOf]; omega
    · obtain rfl : j = bs.length + 3 := by omega
      go_wp2
      go_ret
      refine ⟨_, w.heap.size, rfl, Nat.le_refl _, ⟨rfl, ?_⟩, h4⟩
      rw [show bs.length + 3 - bs.length = 3 from by omega] at h3
      exact h3
set_option maxHeartbeats 400000 in
theorem kept_any (x v : Value) (bs : List UInt8) (g : Nat) (S : Nat → Prop) (w : World) (ht : Twin w g x bs) (hv : By w S v bs) (hb : bs.length ≤ 20000) :
    Calls Try.prog 53 #[x, v] w fun e w' => e = .returned (.bool true) ∧ w' = w := by
  obtain ⟨A, cap, rfl, hc1, hm, hs⟩ := hv
  unfold maxLen at hm
  have hby := ht.by (by simp only [maxLen]; omega)
  obtain ⟨rfl, hrow⟩ := ht
  obtain ⟨_, _, he, _, _, hs2⟩ := hby
  simp only [Value.slice.injEq] at he
  obtain ⟨rfl, -, rfl⟩ := he
  have hcv1 := conv_str (P := Try.prog) (bs.length + 3) 24 9 5 Try.underlying24 Try.underlying5 Try.underlying9 hs2
  have hcv2 := conv_str (P := Try.prog) cap 24 9 5 Try.underlying24 Try.underlying5 Try.underlying9 hs
  have h229 : ∀ j, bs.length ≤ j → j < bs.length + 3 → w.cell? ⟨g, j, none⟩ = some (.int .u8 229) := by
    intro j h1 h2
    rw [hrow.cell]
    obtain ⟨k, rfl⟩ : ∃ k, j = bs.length + k := ⟨j - bs.length, by omega⟩
    match k, (show k < 3 by omega) with
    | 0, _ => simp [cs8, n8]
    | 1, _ => simp [cs8, n8]
    | 2, _ => simp [cs8, n8]
  have h229 := Lib.hid h229
  clear hs hs2 hrow
  go_enter Try.func53, Try.ntmps53
  go_wp2
  clear hcv1 hcv2
  go_loop [6] (fun i => ∃ j : Nat, bs.length ≤ j ∧ j ≤ bs.length + 3 ∧ i = .int .i64 j) (fun i => bs.length + 3 - (intOf i).toNat)
  case atStart => exact ⟨_, by omega, by omega, rfl⟩
  case round =>
    obtain ⟨j, h1, h2, rfl⟩ := hrel
    by_cases hlt : j < bs.length + 3
    · have hcell := h229.out j h1 hlt
      go_wp2
      go_round
      case rel => exact ⟨j + 1, by omega, by omega, by go_num⟩
      case measure => simp [intOf]; omega
    · obtain rfl : j = bs.length + 3 := by omega
      go_wp2
      go_ret
      exact ⟨rfl, rfl⟩
theorem sumFrom_more {most n : Int} {l : List (List UInt8)} {k : Nat} (h : k < l.length) (h1 : n ≤ most) (h2 : ¬ most < (l[k].length : Int)) : sumFrom most n (l.drop k) = sumFrom most (n + l[k].length) (l.drop (k + 1)) := by
  rw [List.drop_eq_getElem_cons h, sumFrom, if_pos h1, if_neg h2]
theorem sumFrom_long {most n : Int} {l : List (List UInt8)} {k : Nat} (h : k < l.length) (h1 : n ≤ most) (h2 : most < (l[k].length : Int)) : sumFrom most n (l.drop k) = most + 1 := by
  rw [List.drop_eq_getElem_cons h, sumFrom, if_pos h1, if_pos h2]
theorem sumFrom_over {most n : Int} {l : List (List UInt8)} {k : Nat} (h1 : ¬ n ≤ most) : sumFrom most n (l.drop k) = n := by
  cases l.drop k with
  | nil => rfl
  | cons b l => rw [sumFrom, if_neg h1]
set_option maxHeartbeats 400000 in
theorem sum_any (v : Value) (l : List (List UInt8)) (most : Int) (S : Nat → Prop) (w : World) (hv : ByL w S v l) (h0 : 0 ≤ most) (h1 : most ≤ 20000) :
    Calls Try.prog 10 #[v, .int .i64 most] w fun e w' => e = .returned (.int .i64 (sumF most l)) ∧ w = w' := by
  obtain ⟨A, cap, vs, rfl, hc1, hm, hs, hel⟩ := hv
  unfold maxLen at hm
  go_enter Try.func10, Try.ntmps10
  go_wp2
  go_loop [5, 6] (fun r i => ∃ (k : Nat) (n : Int), k ≤ l.length ∧ 0 ≤ n ∧ n ≤ most + most ∧ i = .int .i64 k ∧ r = .int .i64 n ∧ Hid (sumF most l = sumFrom most n (l.drop k))) (fun _ i => l.length - (intOf i).toNat)
  case atStart => exact ⟨0, 0, by omega, by omega, by omega, rfl, rfl, rfl⟩
  case round =>
    obtain ⟨k, n, hk, hn0, hn1, rfl, rfl, hf⟩ := hrel
    by_cases hlt : k < l.length
    · by_cases hle : n ≤ most
      · obtain ⟨ad, u, rfl, hS, hu, hcell⟩ := hs.at_ hlt
        obtain ⟨A2, c2, rfl, hc2, hm2, hs2⟩ := hel k u l[k] hu (by simp [hlt])
        unfold maxLen at hm2
        clear hs hel hu hs2
        by_cases hlong : most < (l[k].length : Int)
        · have HF := Lib.hid (hf.out.trans (sumFrom_long hlt hle hlong))
          clear hf
          go_wp2
          go_ret
          exact ⟨by rw [HF.out]; rfl, rfl⟩
        · have HF := Lib.hid (hf.out.trans (sumFrom_more hlt hle hlong))
          clear hf
          have hnn : 0 ≤ (l[k].length : Int) := by omega
          go_wp2
          go_round
          case rel => exact ⟨k + 1, n + l[k].length, by omega, by omega, by omega, by go_num, rfl, HF⟩
          case measure => simp [intOf]; omega
      · have HF := Lib.hid (hf.out.trans (sumFrom_over hle))
        clear hf
        go_wp2
        go_ret
        exact ⟨by rw [HF.out]; rfl, rfl⟩
    · obtain rfl : k = l.length := by omega
      have HF := Lib.hid (hf.out.trans (show sumFrom most n (l.drop l.length) = n by rw [List.drop_length]; rfl))
      clear hf
      go_wp2
      go_ret
      exact ⟨by rw [HF.out]; rfl, rfl⟩
/-- A list of twins of these bytes, in blocks of S. -/
def TwinL (w : World) (S : Nat → Prop) (v : Value) (l : List (List UInt8)) : Prop :=
  ∃ A c vs, v = .slice A l.length c ∧ l.length ≤ c ∧ c ≤ maxLen ∧ Sl w S 1 A l.length vs ∧ ∀ (i : Nat) (u : Value) (x : List UInt8), vs[i]? = some u → l[i]? = some x → ∃ g, S g ∧ Twin w g u x
theorem TwinL.keep {w w' : World} {S : Nat → Prop} {v : Value} {l : List (List UInt8)} (h : TwinL w S v l) (hk : Same S w w') : TwinL w' S v l := by
  obtain ⟨A, c, vs, rfl, hc, hm, hs, he⟩ := h
  refine ⟨A, c, vs, rfl, hc, hm, hs.keep hk, fun i u x hu hx => ?_⟩
  obtain ⟨g, hg, ht⟩ := he i u x hu hx
  exact ⟨g, hg, ht.keep hk hg⟩
theorem TwinL.by {w : World} {S : Nat → Prop} {v : Value} {l : List (List UInt8)} (h : TwinL w S v l) (hl : ∀ b ∈ l, b.length ≤ 20000) : ByL w S v l := by
  obtain ⟨A, c, vs, rfl, hc, hm, hs, he⟩ := h
  refine ⟨A, c, vs, rfl, hc, hm, hs, fun i u x hu hx => ?_⟩
  obtain ⟨g, hg, ht⟩ := he i u x hu hx
  have := hl x (List.mem_of_getElem? hx)
  exact (ht.by (by simp only [maxLen]; omega)).mono (fun k _ e => e ▸ hg)
set_option maxHeartbeats 400000 in
theorem allkept_any (x v : Value) (l : List (List UInt8)) (S S' : Nat → Prop) (w : World) (hx : TwinL w S' x l) (hv : ByL w S v l) (hb : ∀ b ∈ l, b.length ≤ 20000) :
    Calls Try.prog 58 #[x, v] w fun e w' => e = .returned (.bool true) ∧ Same (fun _ => True) w w' := by
  obtain ⟨A, cap, vs, rfl, hc1, hm, hs, hel⟩ := hv
  obtain ⟨A', cap', vs', rfl, hc1', hm', hs', hel'⟩ := hx
  unfold maxLen at hm hm'
  have hb := Lib.hid hb
  go_enter Try.func58, Try.ntmps58
  go_wp2
  go_loopw [5] (fun i wr => ∃ k : Nat, k ≤ l.length ∧ i = .int .i64 k ∧ Same (fun _ => True) w wr) (fun i _ => l.length - (intOf i).toNat)
  case atStart => exact ⟨0, by omega, rfl, Same.refl _ _⟩
  case round =>
    obtain ⟨k, hk, rfl, hsm⟩ := hrel
    by_cases hlt : k < l.length
    · obtain ⟨ad, u, rfl, hS, hu, hcell⟩ := (hs.keep (hsm.mono fun _ _ _ => trivial)).at_ hlt
      obtain ⟨ad', u', rfl, hS', hu', hcell'⟩ := (hs'.keep (hsm.mono fun _ _ _ => trivial)).at_ hlt
      obtain ⟨g, hg, htw⟩ := hel' k u' l[k] hu' (by simp [hlt])
      have htw := htw.keep (S := fun _ => True) hsm trivial
      have hbk := hb.out l[k] (by simp)
      have hby := (hel k u l[k] hu (by simp [hlt])).keepAll hsm
      clear hs hel hu hs' hel' hu'
      have K := fun n => kept_any u' u l[k] g S (wr.drewN n) htw hby hbk
      have K := Lib.hid K
      have hsm := Lib.hid hsm
      clear htw hby
      go_wp2
      go_quiet ((go_at_call 53; exact Calls.quiet_of_same (K.out _)))
      go_wp2
      go_roundw
      case rel => exact ⟨k + 1, by omega, by go_num, (hsm.out).drewN _⟩
      case measure => simp [intOf]; omega
    · obtain rfl : k = l.length := by omega
      go_wp2
      go_ret
      exact ⟨rfl, hsm⟩
end Go.Proofs.Ytpjinngngbifoaa
namespace Go.Proofs.Ytpjinngngbifoaa
open Go.RowKit
/-- An own list of twins. -/
def OwnTwins (w : World) (B : Nat) (v : Value) (l : List (List UInt8)) : Prop :=
  ∃ vs, w.ownsRow B 24 1 v l.length vs ∧ ∀ (i : Nat) (u : Value) (x : List UInt8), vs[i]? = some u → l[i]? = some x → ∃ g, B ≤ g ∧ Twin w g u x
theorem own_cap {w : World} {B : Nat} {e : TypeId} {size : Nat} {v : Value} {n : Nat} {xs : List Value} (h : w.ownsRow B e size v n xs) : ∃ A c, v = .slice A n c ∧ n ≤ c ∧ c ≤ maxLen := by
  rcases h.2 with ⟨rfl, rfl⟩ | ⟨g, cap, cur, rfl, _, _, h1, h2, _⟩
  · exact ⟨none, 0, rfl, by omega, by simp [maxLen]⟩
  · exact ⟨_, _, rfl, h1, h2⟩
theorem own_ge {w : World} {B : Nat} {e : TypeId} {size : Nat} {v : Value} {n : Nat} {xs : List Value} (h : w.ownsRow B e size v n xs) {k : Nat} (hk : some k = v.ownBlock) : B ≤ k := (h.lt k hk.symm).1
theorem OwnTwins.list {w : World} {B : Nat} {v : Value} {l : List (List UInt8)} (h : OwnTwins w B v l) : TwinL w (B ≤ ·) v l := by
  obtain ⟨vs, hown, he⟩ := h
  obtain ⟨A, c, rfl, h1, h2⟩ := own_cap hown
  exact ⟨A, c, vs, rfl, h1, h2, (Sl.of_own hown).mono (fun k _ hk => own_ge hown hk), he⟩
theorem own_by {w : World} {B : Nat} {v : Value} {bs : List UInt8} {e : TypeId} (h : w.ownsRow B e 1 v bs.length (cs8 bs)) : By w (B ≤ ·) v bs := by
  obtain ⟨A, c, rfl, h1, h2⟩ := own_cap h
  exact ⟨A, c, rfl, h1, h2, (Sl.of_own h).mono fun k _ hk => own_ge h hk⟩
/-- A new element behind an own list of twins. -/
theorem OwnTwins.app {w w' : World} {B : Nat} {v v' u : Value} {l : List (List UInt8)} {x : List UInt8} {vs : List Value} {g : Nat}
    (hown : w.ownsRow B 24 1 v l.length vs) (he : ∀ (i : Nat) (u : Value) (x : List UInt8), vs[i]? = some u → l[i]? = some x → ∃ g, B ≤ g ∧ Twin w g u x)
    (hg : B ≤ g) (hu : Twin w g u x) (hown' : w'.ownsRow B 24 1 v' (l.length + 1) (vs ++ [u])) (hs : Same (fun k => some k ≠ v.ownBlock) w w') :
    OwnTwins w' B v' (l ++ [x]) := by
  have ne : ∀ {g u x}, Twin w g u x → some g ≠ v.ownBlock := by
    intro g u x ht e
    rcases ownsRow_row hown with ⟨rfl, _, _⟩ | ⟨g', cap, cur, rfl, _, hrow, _⟩
    · simp [Value.ownBlock] at e
    · simp [Value.ownBlock] at e
      exact Row.ne ht.2 hrow (by decide) e
  have hl : vs.length = l.length := by have := hown.1; omega
  refine ⟨vs ++ [u], by simpa using hown', fun i u' x' h1 h2 => ?_⟩
  by_cases hi : i < l.length
  · rw [List.getElem?_append_left (by omega)] at h1 h2
    obtain ⟨g', hg', ht⟩ := he i u' x' h1 h2
    exact ⟨g', hg', ht.keep hs (ne ht)⟩
  · rw [List.getElem?_append_right (by omega)] at h1 h2
    rw [hl] at h1
    cases hj : i - l.length with
    | zero =>
      rw [hj] at h1 h2
      simp at h1 h2
      subst h1 h2
      exact ⟨g, hg, hu.keep hs (ne hu)⟩
    | succ j => rw [hj] at h1; simp at h1
def TwinsPost (l : List (List UInt8)) (w : World) (e : Ending) (w' : World) : Prop := ∃ u, e = .returned u ∧ OwnTwins w' w.heap.size u l ∧ Same (fun _ => True) w w'
theorem sl_one (w : World) (S : Nat → Prop) (u : Value) (t : TypeId) (h : S w.heap.size) : Sl (w.alloc (.cells #[u] t)) S 1 (some ⟨w.heap.size, 0, none⟩) 1 [u] :=
  ⟨rfl, fun _ => ⟨_, rfl, h, cell_one_new w u t⟩⟩
set_option maxHeartbeats 400000 in
theorem twins_any (v : Value) (l : List (List UInt8)) (S : Nat → Prop) (w : World) (hv : ByL w S v l) (hn : l.length ≤ 20000) (hb : ∀ b ∈ l, b.length ≤ 20000) :
    Calls Try.prog 56 #[v] w (TwinsPost l w) := by
  obtain ⟨A, cap, vs, rfl, hc1, hm, hs, hel⟩ := hv
  unfold maxLen at hm
  have Hb := Lib.hid hb
  clear hb
  go_enter Try.func56, Try.ntmps56
  go_wp2
  go_loopw [3, 4] (fun o i wr => ∃ k : Nat, k ≤ l.length ∧ i = .int .i64 k ∧ OwnTwins wr w.heap.size o (l.take k) ∧ Same (fun _ => True) w wr) (fun _ i _ => l.length - (intOf i).toNat)
  case atStart => exact ⟨0, by omega, rfl, ⟨[], World.ownsRow_nil _ _ _ _, by simp⟩, Same.refl _ _⟩
  case round =>
    obtain ⟨k, hk, rfl, ⟨vo, hown, hall⟩, hsm⟩ := hrel
    obtain ⟨wo, rfl⟩ : ∃ wo : World, wo = wr := ⟨_, rfl⟩
    by_cases hlt : k < l.length
    · obtain ⟨ad, u, rfl, hS, hu, hcell⟩ := (hs.keep (hsm.mono fun _ _ _ => trivial)).at_ hlt
      have hbk := Hb.out l[k] (by simp)
      have hby := (hel k u l[k] hu (by simp [hlt])).keepAll hsm
      clear hs hel hu
      have hlk : (l.take k).length = k := by simp; omega
      rw [hlk] at hown
      have Hk := Lib.hid hlk
      have Ht := Lib.hid (List.take_succ_eq_append_getElem hlt)
      have hsz := hsm.size
      have Hsm := Lib.hid hsm
      have Hall := Lib.hid hall
      clear hlk hsm hall
      go_wp2_with (first | (go_at_call 51; refine (twin_any _ _ _ _ hby hbk).mono ?_; rintro e w1 ⟨tv, g, rfl, hg, ⟨rfl, hrow⟩, hs1⟩) | (at_builtin; refine stopAt ?_))
      unfold Hid
      have hz1 := hs1.size
      refine wpList_app TL _ rfl _ _ rfl w.heap.size u3 k vo rfl ((own_keepAll hown hs1).alloc _) (fun _ => True) _ 1 1 [_] rfl (sl_one _ _ _ _ trivial) (by simp [Value.oneCell']) (by simp only [maxLen]; omega) (by omega) (by simp; omega) ?_
      intro v2 w2 hown2 hs2 hat2
      go_wp2
      go_roundw
      case rel =>
        refine ⟨k + 1, by omega, by go_num, ?_, ?_⟩
        · rw [Ht.out]
          have h1 : (w1.alloc (.cells #[.slice (some ⟨g, 0, none⟩) l[k].length (l[k].length + 3)] 24)).ownsRow w.heap.size 24 1 u3 (l.take k).length vo := by rw [Hk.out]; exact (own_keepAll hown hs1).alloc _
          refine OwnTwins.app (g := g) h1 (fun i u x h2 h3 => ?_) (by omega) ⟨rfl, (hrow.keep ((Same.refl (fun _ => True) _).alloc _) trivial)⟩ (by rw [Hk.out]; exact hown2) hs2
          obtain ⟨g', hg', ht⟩ := Hall.out i u x h2 h3
          exact ⟨g', hg', (ht.keep hs1 trivial).keep ((Same.refl (fun _ => True) _).alloc _) trivial⟩
        · refine (((Hsm.out).trans hs1).alloc _).trans' hs2 (fun i hi _ => ?_)
          intro e
          have := own_ge hown e
          omega
      case measure => simp [intOf]; omega
    · obtain rfl : k = l.length := by omega
      go_wp2
      go_ret
      exact ⟨_, rfl, ⟨vo, by simpa using hown, by simpa using hall⟩, hsm⟩
/-- An own list of byte slices, their bytes in blocks of S. -/
def OwnL (w : World) (B : Nat) (S : Nat → Prop) (v : Value) (l : List (List UInt8)) : Prop :=
  ∃ vs, w.ownsRow B 24 1 v l.length vs ∧ ∀ (i : Nat) (u : Value) (x : List UInt8), vs[i]? = some u → l[i]? = some x → By w S u x
theorem OwnL.nil (w : World) (B : Nat) (S : Nat → Prop) : OwnL w B S (.slice none 0 0) [] := ⟨[], World.ownsRow_nil _ _ _ _, by simp⟩
theorem OwnL.list {w : World} {B : Nat} {S : Nat → Prop} {v : Value} {l : List (List UInt8)} (h : OwnL w B S v l) : ByL w (fun k => S k ∨ B ≤ k) v l := by
  obtain ⟨vs, hown, he⟩ := h
  obtain ⟨A, c, rfl, h1, h2⟩ := own_cap hown
  exact ⟨A, c, vs, rfl, h1, h2, (Sl.of_own hown).mono (fun k _ hk => .inr (own_ge hown hk)), fun i u x a b => (he i u x a b).mono fun _ _ h => .inl h⟩
theorem OwnL.keep {w w' : World} {B : Nat} {S : Nat → Prop} {v : Value} {l : List (List UInt8)} (h : OwnL w B S v l) (hs : Same (fun _ => True) w w') : OwnL w' B S v l := by
  obtain ⟨vs, hown, he⟩ := h
  exact ⟨vs, own_keepAll hown hs, fun i u x a b => (he i u x a b).keepAll hs⟩
/-- A new element behind an own list. -/
theorem OwnL.app {w w' : World} {B : Nat} {S : Nat → Prop} {v v' u : Value} {l : List (List UInt8)} {x : List UInt8} {vs : List Value}
    (hown : w.ownsRow B 24 1 v l.length vs) (he : ∀ (i : Nat) (u : Value) (x : List UInt8), vs[i]? = some u → l[i]? = some x → By w S u x)
    (hu : By w S u x) (hown' : w'.ownsRow B 24 1 v' (l.length + 1) (vs ++ [u])) (hs : Same (fun k => some k ≠ v.ownBlock) w w') (hd : ∀ k, S k → some k ≠ v.ownBlock) :
    OwnL w' B S v' (l ++ [x]) := by
  have hl : vs.length = l.length := by have := hown.1; omega
  have hs' : Same S w w' := hs.mono fun k _ h => hd k h
  refine ⟨vs ++ [u], by simpa using hown', fun i u' x' h1 h2 => ?_⟩
  by_cases hi : i < l.length
  · rw [List.getElem?_append_left (by omega)] at h1 h2
    exact (he i u' x' h1 h2).keep hs'
  · rw [List.getElem?_append_right (by omega)] at h1 h2
    rw [hl] at h1
    cases hj : i - l.length with
    | zero =>
      rw [hj] at h1 h2
      simp at h1 h2
      subst h1 h2
      exact hu.keep hs'
    | succ j => rw [hj] at h1; simp at h1
/-- A slice of ints that reads as these numbers. -/
def Ints (w : World) (S : Nat → Prop) (v : Value) (ns : List Int) : Prop :=
  ∃ A c, v = .slice A ns.length c ∧ ns.length ≤ c ∧ c ≤ maxLen ∧ Sl w S 1 A ns.length (ns.map (Value.int .i64)) ∧ ∀ n ∈ ns, -9223372036854775808 ≤ n ∧ n ≤ 9223372036854775807
theorem Ints.keep {w w' : World} {S : Nat → Prop} {v : Value} {ns : List Int} (h : Ints w S v ns) (hk : Same S w w') : Ints w' S v ns := by
  obtain ⟨A, c, rfl, hc, hm, hs, hb⟩ := h
  exact ⟨A, c, rfl, hc, hm, hs.keep hk, hb⟩
theorem flat_take_le (l : List (List UInt8)) (k : Nat) : (l.take k).flatten.length ≤ l.flatten.length := by
  conv => rhs; rw [← List.take_append_drop k l, List.flatten_append, List.length_append]
  omega
def SpoilPost (v : Value) (w : World) (e : Ending) (w' : World) : Prop := e = .returned (.tuple #[]) ∧ Same (fun k => some k ≠ v.ownBlock) w w'
set_option maxHeartbeats 400000 in
theorem spoil_any (v : Value) (n : Nat) (base : Nat) (xs : List Value) (w : World) (h : w.ownsRow base 5 1 v n xs) :
    Calls Try.prog 54 #[v] w (SpoilPost v w) := by
  rcases ownsRow_row h with ⟨rfl, rfl, rfl⟩ | ⟨g, cap, cur, rfl, hb, hrow, hnc, hcm, hcl, hx⟩
  · clear h
    go_enter Try.func54, Try.ntmps54
    go_wp2
    go_loop [3] (fun i => i = .int .i64 0) (fun i => 0)
    case atStart => rfl
    case round =>
      obtain rfl := hrel
      go_wp2
      go_end0
      exact ⟨rfl, Same.refl _ _⟩
  · clear h hx
    unfold maxLen at hcm
    rw [Nat.mul_one] at hcl
    have Hcl := Lib.hid hcl
    have Hrow := Lib.hid hrow
    clear hcl hrow
    go_enter Try.func54, Try.ntmps54
    go_wp2
    go_loopw [3] (fun i wr => ∃ (k : Nat) (ys : List Value), k ≤ cap ∧ i = .int .i64 k ∧ Hid (ys.length = cap) ∧ Row wr g 5 ys ∧ Same (fun k => k ≠ g) w wr) (fun i _ => cap - (intOf i).toNat)
    case atStart => exact ⟨0, cur, by omega, rfl, Hcl, Hrow, Same.refl _ _⟩
    case round =>
      obtain ⟨k, ys, hk, rfl, hy, hr, hsm⟩ := hrel
      by_cases hlt : k < cap
      · obtain ⟨u, hu⟩ : ∃ u, ys[k]? = some u := ⟨_, List.getElem?_eq_getElem (show k < ys.length by rw [hy.out]; exact hlt)⟩
        have hcell := hr.cell k
        rw [hu] at hcell
        clear hu
        have hfr := hr.frozen k
        go_wp2
        go_roundw
        case rel => exact ⟨k + 1, ys.set k (.int .u8 90), by omega, by go_num, by simpa [Hid] using hy, hr.set_ k _, hsm.setCell (by simp) _⟩
        case measure => simp [intOf]; omega
      · obtain rfl : k = cap := by omega
        go_wp2
        go_end0
        exact ⟨rfl, hsm.mono fun k _ h e => h (by rw [e]; rfl)⟩
open Go.ChangeShapes Go.WideShapes Go.ChangeAt
end Go.Proofs.Ytpjinngngbifoaa
namespace Go.Proofs.Ytpjinngngbifoaa
open Go.RowKit
structure FileM where
  b : List UInt8
  last : Nat
structure DiskM where
  f0 : FileM
  f1 : FileM
  armed : Int
  off : Bool
  lives : Nat
  steps : Nat
def DiskM.new : DiskM := ⟨⟨[], 0⟩, ⟨[], 0⟩, -1, false, 0, 0⟩
def DiskM.file (d : DiskM) (f : Int) : FileM := if f = 0 then d.f0 else d.f1
def DiskM.put (d : DiskM) (f : Int) (x : FileM) : DiskM := if f = 0 then { d with f0 := x } else { d with f1 := x }
/-- May a file be asked? -/
def DiskM.may (d : DiskM) (f : Int) : Int := if d.off then 6 else if f = 0 ∨ f = 1 then 0 else 1
/-- One step that may fail: the file becomes x. -/
def DiskM.step (d : DiskM) (f : Int) (x : FileM) : Int × DiskM :=
  if d.armed = 0 then (6, { d with off := true })
  else (0, { d.put f x with armed := if 0 < d.armed then d.armed - 1 else d.armed, steps := d.steps + 1 })
def DiskM.append (d : DiskM) (f : Int) (b : List UInt8) : Int × DiskM :=
  if d.may f ≠ 0 then (d.may f, d) else d.step f ⟨(d.file f).b ++ b, (d.file f).last⟩
def DiskM.sync (d : DiskM) (f : Int) : Int × DiskM :=
  if d.may f ≠ 0 then (d.may f, d) else d.step f ⟨(d.file f).b, (d.file f).b.length⟩
def DiskM.clear (d : DiskM) (f : Int) : Int × DiskM :=
  if d.may f ≠ 0 then (d.may f, d) else d.step f ⟨[], 0⟩
def DiskM.read (d : DiskM) (f : Int) : List UInt8 × Int := if d.may f ≠ 0 then ([], d.may f) else ((d.file f).b, 0)
def DiskM.arm (d : DiskM) (n : Int) : DiskM := { d with armed := max n (-1) }
/-- How much of what waits is left. -/
def keepN (keep : List Int) (i : Nat) (x : FileM) : Nat := if i < keep.length then min (keep.getD i 0).toNat (x.b.length - x.last) else 0
def FileM.cut (x : FileM) (n : Nat) : FileM := ⟨x.b.take (x.last + n), x.last + n⟩
def DiskM.power (d : DiskM) (keep : List Int) : DiskM :=
  { f0 := d.f0.cut (keepN keep 0 d.f0), f1 := d.f1.cut (keepN keep 1 d.f1), armed := -1, off := false, lives := d.lives + 1, steps := d.steps }
/-- What a disk that New made is. -/
structure DiskM.Ok (d : DiskM) : Prop where
  l0 : d.f0.last ≤ d.f0.b.length
  l1 : d.f1.last ≤ d.f1.b.length
  armed : -1 ≤ d.armed ∧ d.armed ≤ 9223372036854775807
end Go.Proofs.Ytpjinngngbifoaa
