/-
  Words, plain models, laws and walks that the claims of this layer share (joined by shake.py). No condition.
-/
import Derived.Test.YtpjinngngbifoaaU1
import Derived.Test.YtpjinngngbifoaaU2
import Derived.Test.YtpjinngngbifoaaU5
import Derived.Test.YtpjinngngbifoaaU6
import Derived.Test.YtpjinngngbifoaaU7
import Derived.Test.YtpjinngngbifoaaU8
import Derived.Test.YtpjinngngbifoaaU9
import Derived.Test.YtpjinngngbifoaaU10
import Derived.Test.YtpjinngngbifoaaU20
set_option linter.unusedSimpArgs false
set_option linter.unusedVariables false
namespace Go.Proofs.Ytpjinngngbifoaa
open Go.RowKit
set_option maxRecDepth 100000 in
set_option maxHeartbeats 1000000 in
theorem rfscan_any (v : Value) (b : List UInt8) (S : Nat → Prop) (w : World) (hv : By w S v b) (hb : b.length ≤ 1000000) :
    Calls Try.prog 11 #[v] w (ScanPost b w) := by
  have hnext := fun W (hs : Same (fun _ => True) w W) a => rfnext_any v b a S W (hv.keep (hs.mono fun _ _ _ => trivial)) hb
  obtain ⟨A, ca, rfl, -⟩ := hv
  have HN := Lib.hid hnext
  clear hnext
  have h0 : Hid (OwnRecs w w.heap.size (.slice none 0 0) []) := Lib.hid (OwnRecs.nil _ _)
  go_enter Try.func11, Try.ntmps11
  go_wp2
  go_loopw [4, 5] (fun u a wr => ∃ (l : List (List UInt8)) (n : Nat), a = .int .i64 n ∧ Hid (Reach b l n) ∧ Hid (OwnRecs wr w.heap.size u l) ∧ Hid (Same (fun _ => True) w wr)) (fun _ a _ => b.length - (intOf a).toNat)
  case atStart => exact ⟨[], 0, rfl, Lib.hid .nil, h0, Lib.hid (Same.refl _ _)⟩
  case round =>
    obtain ⟨l, n, rfl, hre, ho, hsm⟩ := hrel
    clear h0
    obtain ⟨A2, c2, rfl, -, -⟩ := ho.out.form
    have hle := hre.out.le
    have hnx := HN.out _ hsm.out (n : Int)
    obtain ⟨r, m, e, hx⟩ : ∃ r m e, nextF b n = (r, m, e) := ⟨_, _, _, rfl⟩
    rw [hx] at hnx
    have HX := Lib.hid hx
    clear hx
    by_cases he : e = 0
    · subst he
      obtain ⟨hm, hml⟩ := nextF_nat HX.out
      subst hm
      go_wp2_with (first | (go_at_call 33; refine hnx.mono ?_; rintro e w1 ⟨u1, rfl, hu1, hs1⟩; obtain ⟨A1, c1, rfl, -, -⟩ := hu1.form) | (at_builtin; refine stopAt ?_))
      unfold Hid
      obtain ⟨vs, h1, h2, h3⟩ := ho.out
      have hz := hsm.out.size
      have hz1 := hs1.size
      have hvl : vs.length = l.length := by have := h1.1; omega
      have hold := rec_lt hvl h2
      have hs2 : Same (fun _ => True) w1 (w1.alloc (.cells #[.slice A1 r.length c1] 24)) := (Same.refl _ _).alloc _
      have hs12 := hs1.trans hs2
      refine wpList_app TL _ rfl (.tmp 20) (.tmp 22) rfl w.heap.size _ l.length vs rfl (own_keepAll h1 hs12) (fun _ => True) (some ⟨w1.heap.size, 0, none⟩) 1 1 [.slice A1 r.length c1] rfl (sl_one _ _ _ _ trivial) (by simp [Value.oneCell']) (by simp only [maxLen]; omega) (by omega) (by simp; omega) ?_
      intro v3 w3 hown3 hs3 _
      have hfin : Hid (OwnRecs w3 w.heap.size v3 (l ++ [r])) := Lib.hid (OwnRecs.app (own_keepAll h1 hs12) (fun i u x a b => (h2 i u x a b).keepAll hs12) h3 (hu1.keepAll hs2) hz hold hown3 hs3)
      have hsm3 : Hid (Same (fun _ => True) w w3) := Lib.hid ((hsm.out.trans hs12).trans' hs3 fun k hk _ e => by have := (h1.lt k e.symm).1; omega)
      have hre3 : Hid (Reach b (l ++ [r]) (n + 8 + r.length)) := Lib.hid (.snoc hre.out HX.out)
      clear h1 h2 h3 hold hs2 hs12 hs3 hown3 hu1 hs1 hsm ho hre
      go_wp2
      go_roundw
      case rel => exact ⟨_, n + 8 + r.length, by go_num, hre3, hfin, hsm3⟩
      case measure => simp [intOf]; omega
    · go_wp2_with (go_at_call 33; refine hnx.mono ?_; rintro e w1 ⟨u1, rfl, hu1, hs1⟩)
      go_ret2
      exact ⟨_, l, n, rfl, ⟨hre.out, by rw [HX.out]; exact he⟩, ho.out.keepAll hs1, hsm.out.trans hs1⟩
end Go.Proofs.Ytpjinngngbifoaa
