/-
  SumAll: for every list of parts and every number, package sum's sum of the parts is the document's, and going on from any sum is, too, and the parts are left alone.
-/
import Derived.Test.YtlnkhkkekfjebaaSumL
set_option linter.unusedSimpArgs false
set_option linter.unusedVariables false
namespace Go.Proofs.Ytlnkhkkekfjebaa
open Go.RowKit Go.ChangeShapes Go.WideShapes Go.ChangeAt

theorem sumFrom_ge {most : Int} : ∀ (l : List (List UInt8)) (n : Int), 0 ≤ most → n ≤ sumFrom most n l ∨ most < sumFrom most n l := by
  intro l
  induction l with
  | nil => intro n _; left; exact Int.le_refl _
  | cons b l ih =>
    intro n h0
    unfold sumFrom
    split
    · split
      · right; omega
      · rcases ih (n + b.length) h0 with h | h
        · left; omega
        · right; exact h
    · left; omega
theorem sumFrom_small {most : Int} (h0 : 0 ≤ most) : ∀ (l : List (List UInt8)) (n : Int), n ≤ most → sumFrom most n l ≤ most → n + l.flatten.length ≤ most ∧ ∀ b ∈ l, (b.length : Int) ≤ most := by
  intro l
  induction l with
  | nil => intro n hn _; simpa using hn
  | cons b l ih =>
    intro n hn h
    unfold sumFrom at h
    rw [if_pos hn] at h
    by_cases hb : most < (b.length : Int)
    · rw [if_pos hb] at h; omega
    · rw [if_neg hb] at h
      have hle : n + b.length ≤ most := by
        rcases sumFrom_ge l (n + b.length) h0 with h1 | h1 <;> omega
      obtain ⟨h1, h2⟩ := ih _ hle h
      refine ⟨by simp only [List.flatten_cons, List.length_append]; omega, fun x hx => ?_⟩
      rcases List.mem_cons.1 hx with rfl | hx
      · omega
      · exact h2 x hx

set_option maxHeartbeats 1000000 in
theorem sumall_walk (v : Value) (l : List (List UInt8)) (c : UInt32) (S : Nat → Prop) (w : World) (hv : ByL w S v l) :
    Calls Try.prog 3 #[v, .int .u32 (n32 c)] w (TrueP w) := by
  have hv' := hv
  obtain ⟨A, cap, vs, rfl, hc1, hm, hs, hel⟩ := hv'
  unfold maxLen at hm
  clear hs hel
  by_cases h1 : 1024 < l.length
  · go_enter Try.func3, Try.ntmps3
    go_wp2_with (go_at_call 26; refine (sumbegun_any _).mono ?_; rintro e w1 ⟨rfl, hs1⟩)
    go_ret
    exact ⟨rfl, hs1⟩
  · by_cases h2 : 4096 < sumF 4096 l
    · have H2 := Lib.hid h2
      go_enter Try.func3, Try.ntmps3
      go_wp2_with (first | (go_at_call 26; refine (sumbegun_any _).mono ?_; rintro e w1 ⟨rfl, hs1⟩; have hv1 := hv.keepAll hs1) | (go_at_call 27; refine (sum_any _ _ _ _ _ hv1 (by omega) (by omega)).mono ?_; rintro e w2 ⟨rfl, rfl⟩))
      go_ret
      exact ⟨rfl, hs1⟩
    · have h3 := sumFrom_small (most := 4096) (by omega) l 0 (by omega) (by unfold sumF at h2; omega)
      obtain ⟨h3, h4⟩ := h3
      have h5 : ∀ b ∈ l, b.length ≤ 20000 := fun b hb => by have := h4 b hb; omega
      have H5 := Lib.hid h5
      have h6 : l.flatten.length ≤ 20000 := by omega
      have H6 := Lib.hid h6
      clear h3 h4 h5 h6
      go_enter Try.func3, Try.ntmps3
      go_wp2_with (first | (go_at_call 26; refine (sumbegun_any _).mono ?_; rintro e w1 ⟨rfl, hs1⟩; have hv1 := hv.keepAll hs1) | (go_at_call 27; refine (sum_any _ _ _ _ _ hv1 (by omega) (by omega)).mono ?_; rintro e w2 ⟨rfl, rfl⟩) | (go_at_call 28; refine (twins_any _ _ _ _ hv1 (by omega) H5.out).mono ?_; rintro e w2 ⟨t, rfl, htw, hs2⟩; have hv2 := hv1.keepAll hs2) | (go_at_call 29; refine (joined_any _ _ _ _ hv2 H6.out).mono ?_; rintro e w3 ⟨jv, rfl, hj, hs3⟩; have hv3 := hv2.keepAll hs3; have ht3 := (htw.list.keep (hs3.mono fun _ _ _ => trivial)); have htb := ht3.by H5.out; have hjb := own_by hj) | (go_at_call 30; refine (of_any _ _ _ _ htb).mono ?_; rintro e w4 ⟨rfl, rfl⟩) | (go_at_call 31; refine (refof_any _ _ _ _ hv3).mono ?_; rintro e w4 ⟨rfl, rfl⟩) | (go_at_call 32; refine (more_any _ _ _ _ _ hjb).mono ?_; rintro e w4 ⟨rfl, rfl⟩) | (go_at_call 33; refine (refmore_any _ _ _ _ _ hjb).mono ?_; rintro e w4 ⟨rfl, rfl⟩) | (go_at_call 34; refine (allkept_any _ _ _ _ _ _ ht3 hv3 H5.out).mono ?_; rintro e w5 ⟨rfl, hs5⟩))
      go_ret
      exact ⟨rfl, ((hs1.trans hs2).trans hs3).trans hs5⟩

set_option maxRecDepth 100000 in
theorem sumAll_law {H : Type} {enc : TypeId × Value → H} : LawWalk Try.prog 3 Try.f3 H enc := by
  intro W base args ds ps hval hA
  rw [Try.params3] at hval
  have hA : DataW.TrodAll enc Try.prog W 0 (fun _ => true) true [22, 23] args ds ps := hA
  obtain ⟨v0, vs0, d0, ds0, p0, q0, hargs, rfl, rfl, h0, r0⟩ := trodAll_cons hA
  obtain ⟨v1, vs1, d1, ds1, p1, q1, rfl, rfl, rfl, h1, r1⟩ := trodAll_cons r0
  obtain ⟨rfl, rfl, rfl⟩ := trodAll_nil r1
  subst hargs
  obtain ⟨a0, len0, cap0, rfl⟩ := okWide_slice Try.underlying22 (hval 0 22 v0 rfl rfl)
  obtain ⟨c, rfl, rfl, rfl, w1⟩ := open_int Try.underlying23 (hval 1 23 v1 rfl rfl) h1
  obtain ⟨fuel, hf⟩ := h0
  obtain ⟨v, l, hv, hby⟩ := ByL.ofTrod Try.underlying22 Try.underlying27 Try.underlying5 (by as_aux_lemma => kernel_rfl) (by as_aux_lemma => kernel_rfl) hf
  simp [Value.cells] at hv
  subst hv
  rw [u32_of_wf w1]
  exact sumall_walk _ l _ _ W hby
end Go.Proofs.Ytlnkhkkekfjebaa
