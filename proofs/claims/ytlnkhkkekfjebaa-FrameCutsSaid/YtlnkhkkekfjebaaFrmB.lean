/-
  What the laws of frame begin with.
-/
import Derived.Test.YtlnkhkkekfjebaaFrmP
set_option linter.unusedSimpArgs false
set_option linter.unusedVariables false
namespace Go.Proofs.Ytlnkhkkekfjebaa
open Go.RowKit

set_option maxRecDepth 100000 in
theorem conv_by {w : World} {S : Nat → Prop} {A : Option Addr} {n c : Nat} {bs : List UInt8} (h : By w S (.slice A n c) bs) : (convert 27 9 (.slice A n c)).run Try.prog w = .ok (.string (str bs)) w := by
  obtain ⟨A', c', e, h1, h2, h3⟩ := h
  injection e with e1 e2 e3
  subst e1 e2 e3
  exact conv_str (P := Try.prog) c 27 9 5 Try.underlying27 Try.underlying5 Try.underlying9 h3
theorem put_one : (recF [1]).length = 9 := by rw [recF_len]; rfl
theorem scan_one : ScanF (recF [1] ++ [7]) [[1]] 9 := by
  refine ⟨reach_one [1] [7] (by simp), ?_⟩
  rw [nextF_short _ 9 (by rw [List.length_append, put_one]; simp) (by rw [List.length_append, put_one]; simp)]
  simp
set_option maxRecDepth 100000 in
set_option maxHeartbeats 1000000 in
theorem frmbegun_any (w : World) : Calls Try.prog 52 #[] w (TrueP w) := by
  have hnil : ∀ w, By w (fun _ => True) (.slice none 0 0) [] := fun w => ⟨none, 0, rfl, by simp, by simp [maxLen], Sl.nil _ _ _ _⟩
  have hs1 : Same (fun _ => True) w (w.alloc (.cells #[.int .u8 1] 5)) := (Same.refl _ _).alloc _
  have hput := fput_any (.slice none 0 0) (.slice (some ⟨w.heap.size, 0, none⟩) 1 1) [] [1] (fun _ => True) (fun _ => True) _ (hnil _) (By.lit (w := w.alloc (.cells #[.int .u8 1] 5)) (bs := [1]) (fr := (0, 0)) (e := 5) (heap_now rfl) trivial rfl (by decide) (by simp [maxLen])) (by simp) (by simp)
  rw [List.nil_append] at hput
  clear hnil
  go_enter Try.func52, Try.ntmps52
  go_wp2_with (first
    | (go_at_call 54; refine hput.mono ?_; rintro e w2 ⟨u, rfl, hu, hs2⟩; obtain ⟨A, c, rfl, -, -⟩ := hu.formN put_one)
    | (go_at_call 58; refine stopAt ?_))
  unfold Hid
  have hs12 := hs1.trans hs2
  refine (fnext_any _ (recF [1]) 0 _ _ hu.by_ (by rw [put_one]; omega)).mono ?_
  have hn1 : nextF (recF [1]) 0 = ([1], 9, 0) := by
    have := nextF_rec [] [1] [] (by simp)
    simpa using this
  rw [hn1]
  rintro e w3 ⟨r, rfl, hr, hs3⟩
  obtain ⟨A3, c3, rfl, -, -⟩ := hr.formN (n := 1) rfl
  have hs13 := hs12.trans hs3
  have hu3 := (hu.keepAll hs3).lower (B' := w.heap.size) hs1.size
  have hz3 := hs13.size
  clear hput
  go_wp2_with (at_builtin; refine stopAt ?_)
  unfold Hid
  have hs4 : Same (fun _ => True) w3 (w3.alloc (.cells #[.int .u8 7] 5)) := (Same.refl _ _).alloc _
  have hz2 := hs12.size
  have hz23 := hs3.size
  refine wpList_appB rfl (.tmp 20) (.tmp 21) rfl rfl rfl (hu3.keepAll hs4) (By.lit (S := fun _ => True) (bs := [7]) (fr := (0, 0)) (e := 5) (heap_now rfl) trivial rfl (by decide) (by simp [maxLen])) (by simp; omega) (by rw [put_one]; simp) ?_
  intro v5 w5 hown5 hs5 hob5
  have hlt := fun k hk => hu.lt_ (k := k) hk
  have hr5 := hr.by_.keepAll hs4 |>.keep (hs5.mono fun k _ hk e => by have hk : w2.heap.size ≤ k := hk; have := (hlt k e.symm).2; omega)
  have hs15 : Hid (Same (fun _ => True) w w5) := Lib.hid ((hs13.trans hs4).trans' hs5 fun k hk _ e => by have := (hu3.lt_ e.symm).1; omega)
  obtain ⟨A5, c5, rfl, -, -⟩ := hown5.formN (n := 10) (by rw [List.length_append, put_one]; rfl)
  have hsc := fscan_any _ _ _ w5 hown5.by_ (by rw [List.length_append, put_one]; simp)
  have HR := Lib.hid hr5
  clear hr5 hown5 hs5 hob5 hs4 hu3 hs13 hr hs3 hs12 hu hs2 hlt hn1
  go_wp2_with (go_at_call 60; refine hsc.mono ?_; rintro e w6 ⟨l6, ll, a, rfl, hsf, hl, hs6⟩; obtain ⟨rfl, rfl⟩ := ScanF.uniq hsf scan_one; obtain ⟨A6, c6, rfl, -, -⟩ := hl.form; have hcv : (convert 27 9 (.slice A3 1 c3)).run Try.prog w6 = .ok (.string ⟨#[1]⟩) w6 := conv_by (HR.out.keepAll hs6))
  go_ret
  exact ⟨rfl, hs15.out.trans hs6⟩
end Go.Proofs.Ytlnkhkkekfjebaa
