/-
  Twins and their spoiling, for a seat that has no other helpers of antipodelaw0.
-/
import Derived.Test.YtpbekhcogpkbpaaDoorLibB
import Derived.Deep.QuietTactic
import Derived.BigQuiet
set_option linter.unusedSimpArgs false
set_option linter.unusedVariables false
namespace Go.Proofs.YtpbekhcogpkbpaaDoor
open Go.RowKit

/-- A twin: a row of its own, three cells of 229 behind the bytes. -/
def Twin (w : World) (g : Nat) (v : Value) (bs : List UInt8) : Prop :=
  v = .slice (some ⟨g, 0, none⟩) bs.length (bs.length + 3) ∧ Row w g 5 (cs8 (bs ++ [229, 229, 229]))
theorem Twin.by {w : World} {g : Nat} {v : Value} {bs : List UInt8} (h : Twin w g v bs) (hm : bs.length + 3 ≤ maxLen) : By w (fun k => k = g) v bs := by
  refine ⟨_, _, h.1, by omega, hm, ?_⟩
  have := h.2.sl (size := 1) (off := 0) (n := bs.length) (by simp)
  simpa [cs8] using this
theorem Twin.keep {w w' : World} {S : Nat → Prop} {g : Nat} {v : Value} {bs : List UInt8} (h : Twin w g v bs) (hk : Same S w w') (hs : S g) : Twin w' g v bs := ⟨h.1, h.2.keep hk hs⟩
def tailT (k : Nat) : List UInt8 := List.replicate k 229 ++ List.replicate (3 - k) 0
theorem tailT_set (bs : List UInt8) (k : Nat) (h : k < 3) : (cs8 (bs ++ tailT k)).set (bs.length + k) (V8 229) = cs8 (bs ++ tailT (k + 1)) := by
  match k, h with
  | 0, _ => simp [cs8, tailT, List.set_append]
  | 1, _ => simp [cs8, tailT, List.set_append, List.replicate]
  | 2, _ => simp [cs8, tailT, List.set_append, List.replicate]
theorem tailT_set' (bs : List UInt8) (j : Nat) (h1 : bs.length ≤ j) (h2 : j < bs.length + 3) : (cs8 (bs ++ tailT (j - bs.length))).set j (V8 229) = cs8 (bs ++ tailT (j + 1 - bs.length)) := by
  obtain ⟨k, rfl⟩ : ∃ k, j = bs.length + k := ⟨j - bs.length, by omega⟩
  rw [show bs.length + k - bs.length = k from by omega, show bs.length + k + 1 - bs.length = k + 1 from by omega]
  exact tailT_set bs k (by omega)
def TwinPost (bs : List UInt8) (w : World) (e : Ending) (w' : World) : Prop := ∃ u g, e = .returned u ∧ w.heap.size ≤ g ∧ Twin w' g u bs ∧ Same (fun _ => True) w w'
set_option maxHeartbeats 400000 in
theorem twin_any (v : Value) (bs : List UInt8) (S : Nat → Prop) (w : World) (hv : By w S v bs) (hb : bs.length ≤ 20000) :
    Calls Tryd.prog 10 #[v] w (TwinPost bs w) := by
  obtain ⟨A, cap, rfl, hc1, hm, hs⟩ := hv
  unfold maxLen at hm
  go_enter Tryd.func10, Tryd.ntmps10
  go_wp2_with (first | (at_make; refine wpList_mk T8 _ rfl _ _ rfl .i64 .i64 _ _ (bs.length + 3) rfl rfl (by simp) (by simp) (by omega) (by simp only [maxLen]; omega) ?_; intro w1 hr1 hs1 hz1; rw [made8] at hr1) | (with_reducible refine stopCopy rfl ?_))
  unfold Hid
  refine wpList_cp T8 _ rfl (.tmp 9) (.tmp 10) rfl _ _ _ _ _ _ _ rfl rfl _ _ hr1 _ _ (hs.keep (hs1.mono fun _ _ _ => trivial)) (by omega) (by simp) (oneCell8 _) ?_
  intro w2 hr2 hs2
  go_wp2
  go_loopw [4] (fun i wr => ∃ j : Nat, bs.length ≤ j ∧ j ≤ bs.length + 3 ∧ i = .int .i64 j ∧ Row wr w.heap.size 5 (cs8 (bs ++ tailT (j - bs.length))) ∧ Same (fun _ => True) w wr) (fun i _ => bs.length + 3 - (intOf i).toNat)
  case atStart =>
    refine ⟨bs.length, by omega, by omega, rfl, ?_, hs1.trans' hs2 (fun i hi _ => by omega)⟩
    have e : (List.replicate (bs.length + 3) (V8 0)).take 0 ++ (cs8 bs ++ (List.replicate (bs.length + 3) (V8 0)).drop (0 + bs.length)) = cs8 (bs ++ tailT (bs.length - bs.length)) := by
      simp [cs8, tailT]
    rw [← e]
    exact hr2
  case round =>
    obtain ⟨j, h1, h2, rfl, h3, h4⟩ := hrel
    by_cases hlt : j < bs.length + 3
    · obtain ⟨u, hu⟩ : ∃ u, (cs8 (bs ++ tailT (j - bs.length)))[j]? = some u := ⟨_, List.getElem?_eq_getElem (by simp [tailT]; omega)⟩
      have hcell := h3.cell j
      rw [hu] at hcell
      have hfr := h3.frozen j
      clear hu
      go_wp2
      go_roundw
      case rel =>
        refine ⟨j + 1, by omega, by omega, by go_num, ?_, h4.setCell (by simp) _⟩
        rw [← tailT_set' bs j h1 hlt]
        exact h3.set_ j (V8 229)
      case measure => simp [intOf]; omega
    · obtain rfl : j = bs.length + 3 := by omega
      go_wp2
      go_ret
      refine ⟨_, w.heap.size, rfl, Nat.le_refl _, ⟨rfl, ?_⟩, h4⟩
      rw [show bs.length + 3 - bs.length = 3 from by omega] at h3
      exact h3
set_option maxHeartbeats 400000 in
theorem kept_any (x v : Value) (bs : List UInt8) (g : Nat) (S : Nat → Prop) (w : World) (ht : Twin w g x bs) (hv : By w S v bs) (hb : bs.length ≤ 20000) :
    Calls Tryd.prog 15 #[x, v] w fun e w' => e = .returned (.bool true) ∧ w' = w := by
  obtain ⟨A, cap, rfl, hc1, hm, hs⟩ := hv
  unfold maxLen at hm
  have hby := ht.by (by simp only [maxLen]; omega)
  obtain ⟨rfl, hrow⟩ := ht
  obtain ⟨_, _, he, _, _, hs2⟩ := hby
  simp only [Value.slice.injEq] at he
  obtain ⟨rfl, -, rfl⟩ := he
  have hcv1 := conv_str (P := Tryd.prog) (bs.length + 3) 22 9 5 Tryd.underlying22 Tryd.underlying5 Tryd.underlying9 hs2
  have hcv2 := conv_str (P := Tryd.prog) cap 22 9 5 Tryd.underlying22 Tryd.underlying5 Tryd.underlying9 hs
  have h229 : ∀ j, bs.length ≤ j → j < bs.length + 3 → w.cell? ⟨g, j, none⟩ = some (.int .u8 229) := by
    intro j h1 h2
    rw [hrow.cell]
    obtain ⟨k, rfl⟩ : ∃ k, j = bs.length + k := ⟨j - bs.length, by omega⟩
    match k, (show k < 3 by omega) with
    | 0, _ => simp [cs8, n8]
    | 1, _ => simp [cs8, n8]
    | 2, _ => simp [cs8, n8]
  have h229 := Lib.hid h229
  clear hs hs2 hrow
  go_enter Tryd.func15, Tryd.ntmps15
  go_wp2
  clear hcv1 hcv2
  go_loop [6] (fun i => ∃ j : Nat, bs.length ≤ j ∧ j ≤ bs.length + 3 ∧ i = .int .i64 j) (fun i => bs.length + 3 - (intOf i).toNat)
  case atStart => exact ⟨_, by omega, by omega, rfl⟩
  case round =>
    obtain ⟨j, h1, h2, rfl⟩ := hrel
    by_cases hlt : j < bs.length + 3
    · have hcell := h229.out j h1 hlt
      go_wp2
      go_round
      case rel => exact ⟨j + 1, by omega, by omega, by go_num⟩
      case measure => simp [intOf]; omega
    · obtain rfl : j = bs.length + 3 := by omega
      go_wp2
      go_ret
      exact ⟨rfl, rfl⟩
def SpoilPost (v : Value) (w : World) (e : Ending) (w' : World) : Prop := e = .returned (.tuple #[]) ∧ Same (fun k => some k ≠ v.ownBlock) w w'
set_option maxHeartbeats 400000 in
theorem spoil_any (v : Value) (n : Nat) (base : Nat) (xs : List Value) (w : World) (h : w.ownsRow base 5 1 v n xs) :
    Calls Tryd.prog 20 #[v] w (SpoilPost v w) := by
  rcases ownsRow_row h with ⟨rfl, rfl, rfl⟩ | ⟨g, cap, cur, rfl, hb, hrow, hnc, hcm, hcl, hx⟩
  · clear h
    go_enter Tryd.func20, Tryd.ntmps20
    go_wp2
    go_loop [3] (fun i => i = .int .i64 0) (fun i => 0)
    case atStart => rfl
    case round =>
      obtain rfl := hrel
      go_wp2
      go_end0
      exact ⟨rfl, Same.refl _ _⟩
  · clear h hx
    unfold maxLen at hcm
    rw [Nat.mul_one] at hcl
    have Hcl := Lib.hid hcl
    have Hrow := Lib.hid hrow
    clear hcl hrow
    go_enter Tryd.func20, Tryd.ntmps20
    go_wp2
    go_loopw [3] (fun i wr => ∃ (k : Nat) (ys : List Value), k ≤ cap ∧ i = .int .i64 k ∧ Hid (ys.length = cap) ∧ Row wr g 5 ys ∧ Same (fun k => k ≠ g) w wr) (fun i _ => cap - (intOf i).toNat)
    case atStart => exact ⟨0, cur, by omega, rfl, Hcl, Hrow, Same.refl _ _⟩
    case round =>
      obtain ⟨k, ys, hk, rfl, hy, hr, hsm⟩ := hrel
      by_cases hlt : k < cap
      · obtain ⟨u, hu⟩ : ∃ u, ys[k]? = some u := ⟨_, List.getElem?_eq_getElem (show k < ys.length by rw [hy.out]; exact hlt)⟩
        have hcell := hr.cell k
        rw [hu] at hcell
        clear hu
        have hfr := hr.frozen k
        go_wp2
        go_roundw
        case rel => exact ⟨k + 1, ys.set k (.int .u8 90), by omega, by go_num, by simpa [Hid] using hy, hr.set_ k _, hsm.setCell (by simp) _⟩
        case measure => simp [intOf]; omega
      · obtain rfl : k = cap := by omega
        go_wp2
        go_end0
        exact ⟨rfl, hsm.mono fun k _ h e => h (by rw [e]; rfl)⟩

/-! ### opening the arguments of a law -/
set_option maxRecDepth 100000 in
theorem conv_by {w : World} {S : Nat → Prop} {A : Option Addr} {n c : Nat} {bs : List UInt8} (h : By w S (.slice A n c) bs) : (convert 22 9 (.slice A n c)).run Tryd.prog w = .ok (.string (str bs)) w := by
  obtain ⟨A', c', e, h1, h2, h3⟩ := h
  injection e with e1 e2 e3
  subst e1 e2 e3
  exact conv_str (P := Tryd.prog) c 22 9 5 Tryd.underlying22 Tryd.underlying5 Tryd.underlying9 h3
end Go.Proofs.YtpbekhcogpkbpaaDoor
