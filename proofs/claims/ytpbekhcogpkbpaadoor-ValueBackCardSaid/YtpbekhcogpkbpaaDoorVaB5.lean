/-
  The walks of bits' TakeText, the program's and the document's.
-/
import Derived.Test.YtpbekhcogpkbpaaDoorVaB4
set_option linter.unusedSimpArgs false
set_option linter.unusedVariables false
namespace Go.Proofs.YtpbekhcogpkbpaaDoor
open Go.RowKit

theorem takeVarF_ok : ∀ (b : List UInt8) (i acc u k : Nat), takeVarF b i acc = (u, k, 0) → i < k ∧ k ≤ i + b.length
  | [], i, acc, u, k, h => by rw [takeVarF] at h; cases h
  | c :: r, i, acc, u, k, h => by
    rw [takeVarF] at h
    split at h
    · cases h
    · split at h
      · have := takeVarF_ok r (i + 1) _ u k h
        rw [List.length_cons]; omega
      · split at h
        · cases h
        · injection h with h1 h2
          injection h2 with h2 h3
          rw [List.length_cons]; omega
theorem takeVarF_err : ∀ (b : List UInt8) (i acc : Nat), (takeVarF b i acc).2.2 ≠ 0 → takeVarF b i acc = (0, 0, (takeVarF b i acc).2.2) ∧ ((takeVarF b i acc).2.2 = 2 ∨ (takeVarF b i acc).2.2 = 5 ∨ (takeVarF b i acc).2.2 = 9)
  | [], i, acc, h => by rw [takeVarF]; exact ⟨rfl, .inl rfl⟩
  | c :: r, i, acc, h => by
    rw [takeVarF] at h ⊢
    split
    · exact ⟨rfl, .inr (.inl rfl)⟩
    · rename_i h1
      rw [if_neg h1] at h
      split
      · rename_i h2
        rw [if_pos h2] at h
        exact takeVarF_err r _ _ h
      · rename_i h2
        rw [if_neg h2] at h
        split
        · exact ⟨rfl, .inr (.inr rfl)⟩
        · rename_i h3
          rw [if_neg h3] at h
          exact absurd rfl h
theorem takeVarF_lt (b : List UInt8) : (takeVarF b 0 0).1 < 18446744073709551616 := by
  have key : ∀ (b : List UInt8) (i acc : Nat), i ≤ 9 → acc < 128 ^ i → (takeVarF b i acc).1 < 18446744073709551616 := by
    intro b
    induction b with
    | nil => intro i acc _ _; rw [takeVarF]; decide
    | cons c r ih =>
      intro i acc hi ha
      rcases varStep (c := c) (r := r) (R := takeVarF (c :: r) i acc) hi rfl with ⟨-, -, e⟩ | ⟨h, hk, e⟩ | ⟨-, -, e⟩ | ⟨h, h1, hz, e⟩
      · rw [e]; decide
      · rw [← e]; exact ih (i + 1) _ (by omega) (take_next ha)
      · rw [e]; decide
      · rw [e]
        show acc + c.toNat % 128 * 128 ^ i < _
        by_cases h9 : i = 9
        · subst h9
          have := h1 rfl
          have e9 : (128 : Nat) ^ 9 = 9223372036854775808 := by decide
          rw [e9] at ha ⊢
          have : c.toNat % 128 * 9223372036854775808 ≤ 1 * 9223372036854775808 := Nat.mul_le_mul_right _ (by omega)
          omega
        · have := take_next (c := c) ha
          have : (128:Nat) ^ (i + 1) ≤ 128 ^ 9 := Nat.pow_le_pow_right (by decide) (by omega)
          have : (128:Nat) ^ 9 < 18446744073709551616 := by decide
          omega
  exact key b 0 0 (by omega) (by decide)
def TxP (b : List UInt8) (w : World) (e : Ending) (w' : World) : Prop := ∃ u, e = .returned (.tuple #[u, .int .i64 (takeTxF b).2.1, .int .i64 (takeTxF b).2.2]) ∧ OwnB w' w.heap.size u (takeTxF b).1 ∧ Same (fun _ => True) w w'
set_option maxRecDepth 100000 in
set_option maxHeartbeats 1000000 in
theorem taketext_any (v : Value) (bs : List UInt8) (S : Nat → Prop) (w : World) (hv : By w S v bs) (hl : bs.length ≤ 100000) :
    Calls Tryd.prog 54 #[v] w (TxP bs w) := by
  have hvar := takevar_any v bs S w hv hl
  have herr := takeVarF_err bs 0 0
  have hok := takeVarF_ok bs 0 0
  have hult := takeVarF_lt bs
  unfold VarP at hvar
  unfold TxP takeTxF
  have HV := Lib.hid hv
  obtain ⟨A, cap, rfl, hcb, hmb, -⟩ := id hv
  unfold maxLen at hmb
  obtain ⟨⟨u, k, e⟩, hR⟩ : ∃ R, R = takeVarF bs 0 0 := ⟨_, rfl⟩
  rw [← hR] at hvar herr hok hult ⊢
  dsimp only at hvar herr hult ⊢
  clear hv
  by_cases he : e = 0
  · subst he
    obtain ⟨hk0, hkl⟩ := hok u k rfl
    rw [if_neg (by decide)]
    by_cases h1 : 1048576 < u
    · rw [if_pos h1]
      have g1 : (1048576 : Int) < (u : Int) := by omega
      clear h1 hR herr hok
      go_enter Tryd.func54, Tryd.ntmps54
      go_wp2_with (go_at_call 52; refine hvar.mono ?_; rintro e w' ⟨rfl, rfl⟩)
      refine bodyPost_ret (v := .tuple #[.slice none 0 0, .int .i64 0, .int .i64 3]) (by simp [results, Tryd.results54, go_sem]) rfl ?_
      exact ⟨_, rfl, OwnB.nil _ _, Same.refl _ _⟩
    rw [if_neg h1]
    by_cases h2 : bs.length - k < u
    · rw [if_pos h2]
      have g1 : ¬ (1048576 : Int) < (u : Int) := by omega
      have g2 : (bs.length : Int) - (k : Int) < (u : Int) := by omega
      clear h1 h2 hR herr hok
      go_enter Tryd.func54, Tryd.ntmps54
      go_wp2_with (go_at_call 52; refine hvar.mono ?_; rintro e w' ⟨rfl, rfl⟩)
      refine bodyPost_ret (v := .tuple #[.slice none 0 0, .int .i64 0, .int .i64 2]) (by simp [results, Tryd.results54, go_sem]) rfl ?_
      exact ⟨_, rfl, OwnB.nil _ _, Same.refl _ _⟩
    rw [if_neg h2]
    have g1 : ¬ (1048576 : Int) < (u : Int) := by omega
    have g2 : ¬ (bs.length : Int) - (k : Int) < (u : Int) := by omega
    have g3 : k + u ≤ bs.length := by omega
    clear h1 h2 hR herr hok
    obtain ⟨ad, rfl⟩ : ∃ ad, A = some ad := by
      obtain ⟨A', c', e, -, -, hs⟩ := id HV.out
      injection e with e1 e2 e3
      subst e1
      obtain ⟨ad, h, -⟩ := hs.2 (by omega)
      exact ⟨ad, h⟩
    by_cases hck : cap = k
    · have hu0 : u = 0 := by omega
      subst hu0
      subst hck
      have hroom := fun W => room_any (.slice (some ad) 0 0) [] 0 (fun _ => True) W (By.none_ W _ _ _ (by simp [maxLen])) (by simp) (by omega) (by omega)
      go_enter Tryd.func54, Tryd.ntmps54
      go_wp2_with (first | (go_at_call 52; refine hvar.mono ?_; rintro e w' ⟨rfl, rfl⟩) | (go_at_call 59; refine (hroom _).mono ?_; rintro e w1 ⟨x, rfl, hx, hs1⟩))
      refine bodyPost_ret (v := .tuple #[x, .int .i64 cap, .int .i64 0]) (by simp [results, Tryd.results54, go_sem]) rfl ?_
      exact ⟨_, rfl, by simpa using hx, hs1⟩
    · have hcut := HV.out.cut k (k + u) (cap - k) (by omega) g3 (by omega) (by simp only [maxLen]; omega)
      rw [show k + u - k = u by omega] at hcut
      have hln : ((bs.drop k).take u).length = u := by simp; omega
      have hroom := fun W (hs : Same (fun _ => True) w W) => room_any _ _ 0 _ W (hcut.keep (hs.mono fun _ _ _ => trivial)) (by rw [hln]; omega) (by omega) (by omega)
      have hr := hroom w (Same.refl _ _)
      clear hroom hcut hln
      go_enter Tryd.func54, Tryd.ntmps54
      go_wp2_with (first | (go_at_call 52; refine hvar.mono ?_; rintro e w' ⟨rfl, rfl⟩) | (go_at_call 59; refine hr.mono ?_; rintro e w1 ⟨x, rfl, hx, hs1⟩))
      refine bodyPost_ret (v := .tuple #[x, .int .i64 (k + u), .int .i64 0]) (by simp [results, Tryd.results54, go_sem]) rfl ?_
      exact ⟨_, rfl, hx, hs1⟩
  · obtain ⟨e1, e2⟩ := herr he
    injection e1 with e3 e4
    injection e4 with e4 e5
    subst e3 e4
    rw [if_pos he]
    clear hR hok e5
    go_enter Tryd.func54, Tryd.ntmps54
    go_wp2_with (go_at_call 52; refine hvar.mono ?_; rintro e w' ⟨rfl, rfl⟩)
    refine bodyPost_ret (v := .tuple #[.slice none 0 0, .int .i64 0, .int .i64 e]) (by simp [results, Tryd.results54, go_sem]) rfl ?_
    exact ⟨_, rfl, OwnB.nil _ _, Same.refl _ _⟩
set_option maxRecDepth 100000 in
set_option maxHeartbeats 1000000 in
theorem reftaketext_any (v : Value) (bs : List UInt8) (S : Nat → Prop) (w : World) (hv : By w S v bs) (hl : bs.length ≤ 100000) :
    Calls Tryd.prog 57 #[v] w (TxP bs w) := by
  have hvar := reftakevar_any v bs S w hv hl
  have herr := takeVarF_err bs 0 0
  have hok := takeVarF_ok bs 0 0
  have hult := takeVarF_lt bs
  unfold VarP at hvar
  unfold TxP takeTxF
  have HV := Lib.hid hv
  obtain ⟨A, cap, rfl, hcb, hmb, -⟩ := id hv
  unfold maxLen at hmb
  obtain ⟨⟨u, k, e⟩, hR⟩ : ∃ R, R = takeVarF bs 0 0 := ⟨_, rfl⟩
  rw [← hR] at hvar herr hok hult ⊢
  dsimp only at hvar herr hult ⊢
  clear hv
  by_cases he : e = 0
  · subst he
    obtain ⟨hk0, hkl⟩ := hok u k rfl
    rw [if_neg (by decide)]
    by_cases h1 : 1048576 < u
    · rw [if_pos h1]
      have g1 : (1048576 : Int) < (u : Int) := by omega
      clear h1 hR herr hok
      go_enter Tryd.func57, Tryd.ntmps57
      go_wp2_with (go_at_call 55; refine hvar.mono ?_; rintro e w' ⟨rfl, rfl⟩)
      refine bodyPost_ret (v := .tuple #[.slice none 0 0, .int .i64 0, .int .i64 3]) (by simp [results, Tryd.results57, go_sem]) rfl ?_
      exact ⟨_, rfl, OwnB.nil _ _, Same.refl _ _⟩
    rw [if_neg h1]
    by_cases h2 : bs.length - k < u
    · rw [if_pos h2]
      have g1 : ¬ (1048576 : Int) < (u : Int) := by omega
      have g2 : (bs.length : Int) - (k : Int) < (u : Int) := by omega
      clear h1 h2 hR herr hok
      go_enter Tryd.func57, Tryd.ntmps57
      go_wp2_with (go_at_call 55; refine hvar.mono ?_; rintro e w' ⟨rfl, rfl⟩)
      refine bodyPost_ret (v := .tuple #[.slice none 0 0, .int .i64 0, .int .i64 2]) (by simp [results, Tryd.results57, go_sem]) rfl ?_
      exact ⟨_, rfl, OwnB.nil _ _, Same.refl _ _⟩
    rw [if_neg h2]
    have g1 : ¬ (1048576 : Int) < (u : Int) := by omega
    have g2 : ¬ (bs.length : Int) - (k : Int) < (u : Int) := by omega
    have g3 : k + u ≤ bs.length := by omega
    clear h1 h2 hR herr hok
    obtain ⟨ad, rfl⟩ : ∃ ad, A = some ad := by
      obtain ⟨A', c', e, -, -, hs⟩ := id HV.out
      injection e with e1 e2 e3
      subst e1
      obtain ⟨ad, h, -⟩ := hs.2 (by omega)
      exact ⟨ad, h⟩
    by_cases hck : cap = k
    · have hu0 : u = 0 := by omega
      subst hu0
      subst hck
      go_enter Tryd.func57, Tryd.ntmps57
      go_wp2_with (first | (go_at_call 55; refine hvar.mono ?_; rintro e w' ⟨rfl, rfl⟩) | (at_builtin; refine stopAt ?_))
      unfold Hid
      refine wpList_appL rfl (.tmp 26) (.tmp 33) rfl rfl rfl (OwnB.fresh (Nat.le_refl _)) (es := []) (By.none_ _ (fun _ => True) _ _ (by simp [maxLen])) (by simp) (by simp) ?_
      intro x w1 hx hs1
      have hs1 : Same (fun _ => True) w w1 := ((Same.refl _ _).alloc _).trans' hs1 fun k hk _ => hk
      go_wp2
      refine bodyPost_ret (v := .tuple #[x, .int .i64 cap, .int .i64 0]) (by simp [results, Tryd.results57, go_sem]) rfl ?_
      exact ⟨_, rfl, by simpa using hx, hs1⟩
    · have hcut := HV.out.cut k (k + u) (cap - k) (by omega) g3 (by omega) (by simp only [maxLen]; omega)
      rw [show k + u - k = u by omega] at hcut
      have hln : ((bs.drop k).take u).length = u := by simp; omega
      have HC := Lib.hid hcut
      have HLN := Lib.hid hln
      clear hcut hln
      go_enter Tryd.func57, Tryd.ntmps57
      go_wp2_with (first | (go_at_call 55; refine hvar.mono ?_; rintro e w' ⟨rfl, rfl⟩) | (at_builtin; refine stopAt ?_))
      unfold Hid
      rw [show k + u - k = u by omega]
      refine wpList_appL rfl (.tmp 26) (.tmp 33) rfl rfl rfl (OwnB.fresh (Nat.le_refl _)) (HC.out.keepAll ((Same.refl _ _).alloc _)) (by simp) (by rw [HLN.out]; simp; omega) ?_
      intro x w1 hx hs1
      have hs1 : Same (fun _ => True) w w1 := ((Same.refl _ _).alloc _).trans' hs1 fun k hk _ => hk
      go_wp2
      refine bodyPost_ret (v := .tuple #[x, .int .i64 (k + u), .int .i64 0]) (by simp [results, Tryd.results57, go_sem]) rfl ?_
      exact ⟨_, rfl, hx, hs1⟩
  · obtain ⟨e1, e2⟩ := herr he
    injection e1 with e3 e4
    injection e4 with e4 e5
    subst e3 e4
    rw [if_pos he]
    clear hR hok e5
    go_enter Tryd.func57, Tryd.ntmps57
    go_wp2_with (go_at_call 55; refine hvar.mono ?_; rintro e w' ⟨rfl, rfl⟩)
    refine bodyPost_ret (v := .tuple #[.slice none 0 0, .int .i64 0, .int .i64 e]) (by simp [results, Tryd.results57, go_sem]) rfl ?_
    exact ⟨_, rfl, OwnB.nil _ _, Same.refl _ _⟩
end Go.Proofs.YtpbekhcogpkbpaaDoor
