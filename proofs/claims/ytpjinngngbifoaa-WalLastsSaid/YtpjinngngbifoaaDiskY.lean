/-
  The walks of package disk, more: the calls that read, arm, count; a new disk.
-/
import Derived.Test.YtpjinngngbifoaaDiskX
set_option linter.unusedSimpArgs false
set_option linter.unusedVariables false
namespace Go.Proofs.Ytpjinngngbifoaa
open Go.RowKit Go.ChangeMaps Go.MapKept

theorem own_lower {w : World} {B B' : Nat} {e : TypeId} {size : Nat} {v : Value} {n : Nat} {xs : List Value} (h : w.ownsRow B e size v n xs) (hb : B' ≤ B) : w.ownsRow B' e size v n xs := by
  obtain ⟨h1, h2⟩ := h
  refine ⟨h1, ?_⟩
  rcases h2 with h2 | ⟨g, cap, cur, e1, hg, h3⟩
  · exact .inl h2
  · exact .inr ⟨g, cap, cur, e1, by omega, h3⟩
@[go_sem] theorem file_b (w : World) (A : Option Addr) (n c : Nat) (l : Int) : (Instr.field 71 (.agg #[.slice A n c, .int .i64 l]) 0).run Try.prog w = .ok (.slice A n c) w := by
  simp [Instr.field, run_underlying Try.underlying71, part, isAgg, run_underlying Try.underlying24, asAgg]
def RPost (bs : List UInt8) (x : Int) (w : World) (e : Ending) (w' : World) : Prop :=
  ∃ v, e = .returned (.tuple #[v, .int .i64 x]) ∧ w'.ownsRow w.heap.size 5 1 v bs.length (cs8 bs) ∧ Same (fun _ => True) w w'

set_option maxRecDepth 100000 in
theorem dread_any (g r : Nat) (F : Nat → Prop) (d : DiskM) (f : Int) (w : World) (h : DiskAt w g r F d) (hlen : (d.file f).b.length ≤ 4194304) :
    Calls Try.prog 39 #[ptr g, .int .i64 f] w (RPost (d.read f).1 (d.read f).2 w) := by
  have hn := dmay_any g r F d f w h
  unfold DiskM.read
  by_cases hm : d.may f = 0
  · have hf := DiskM.may_zero hm
    rw [hm] at hn
    rw [if_neg (by simp [hm])]
    have H := Lib.hid h
    clear h
    go_enter Try.func39, Try.ntmps39
    go_wp2_with (first
      | (go_at_call 34; refine hn.mono ?_; rintro e w1 ⟨rfl, hs1⟩; have h1 := H.out.keepAll hs1; have c0 := (h1.keepAll ((Same.refl (fun _ => True) _).alloc (.cells #[] 5))).1.cell 0; obtain ⟨A, c, hl, hby, hc⟩ := (h1.keepAll ((Same.refl (fun _ => True) _).alloc (.cells #[] 5))).look hf; have H1 := Lib.hid h1; have Hby := Lib.hid hby; clear h1 hby; simp at c0)
      | (at_builtin; refine stopAt ?_))
    unfold Hid
    have hown := (Row.new w1 5 []).owns (base := w1.heap.size) (size := 1) (n := 0) (cap := 0) (Nat.le_refl _) (by simp) (Nat.le_refl _) (by simp [maxLen])
    obtain ⟨A', c', e, _, _, hsl⟩ := Hby.out
    injection e with e1 e2 e3
    subst e1
    refine wpList_app T8 _ rfl (.tmp 13) (.tmp 20) rfl w1.heap.size _ 0 _ rfl hown F A (d.file f).b.length c (cs8 (d.file f).b) rfl hsl (oneCell8 _) (by simp only [maxLen]; omega) (by omega) (by simp) ?_
    intro v' w2 hown2 hs2 _
    go_wp2
    go_ret2
    have hz1 := hs1.size
    refine ⟨_, rfl, own_lower (by simpa using hown2) hz1, (hs1.trans ((Same.refl _ _).alloc (.cells #[] 5))).trans' hs2 (fun k hk _ => ?_)⟩
    show some k ≠ some w1.heap.size
    intro e
    injection e with e
    omega
  · rw [if_pos hm]
    have H := Lib.hid h
    clear h
    go_enter Try.func39, Try.ntmps39
    go_wp2_with (go_at_call 34; refine hn.mono ?_; rintro e w1 ⟨rfl, hs1⟩)
    go_ret2
    exact ⟨_, rfl, World.ownsRow_nil _ _ _ _, hs1⟩

def MPost (g r : Nat) (F : Nat → Prop) (w : World) (d' : DiskM) (e : Ending) (w' : World) : Prop :=
  e = .returned (.tuple #[]) ∧ DiskAt w' g r F d' ∧ Same (fun k => k ≠ g ∧ k ≠ r) w w'
theorem DiskAt.armed_ {w : World} {g r : Nat} {F : Nat → Prop} {d : DiskM} (h : DiskAt w g r F d) (n : Int) : DiskAt (w.setCell ⟨g, 1, none⟩ (.int .i64 n)) g r F { d with armed := n } := by
  obtain ⟨h1, h2, h3, h0, h4, sw, v0, v1, k0, k1, c, h5, h6, h7, h8, h9, h10⟩ := h
  have hS : Same (fun k => k ≠ g) w (w.setCell ⟨g, 1, none⟩ (.int .i64 n)) := (Same.refl _ _).setCell (fun _ h => h rfl) _
  refine ⟨h1.set_ 1 _, by simpa using h2, by simpa using h3, h0, fun k hk => by simpa using h4 k hk, sw, v0, v1, k0, k1, c, (hS.block r h3 (Ne.symm h0)).trans h5, h6, h7, h8,
    h9.keep (hS.mono fun k _ hk => (h4 k hk).2.1), h10.keep (hS.mono fun k _ hk => (h4 k hk).2.1)⟩
theorem darm_any (g r : Nat) (F : Nat → Prop) (d : DiskM) (n : Int) (w : World) (h : DiskAt w g r F d) :
    Calls Try.prog 24 #[ptr g, .int .i64 n] w (MPost g r F w (d.arm n)) := by
  have hn := dnone_any g r F d w h
  have c1 := h.1.cell 1
  have z1 := h.1.frozen 1
  have H := Lib.hid h
  simp at c1
  clear h
  go_enter Try.func24, Try.ntmps24
  go_wp2_with (go_at_call 45; refine hn.mono ?_; rintro e w1 ⟨rfl, rfl⟩)
  all_goals go_end0
  · have e : d.arm n = { d with armed := -1 } := by simp only [DiskM.arm]; congr; omega
    rw [e]
    exact ⟨rfl, H.out.armed_ (-1), (Same.refl _ _).setCell (fun _ h => h.1 rfl) _⟩
  · have e : d.arm n = { d with armed := n } := by simp only [DiskM.arm]; congr; omega
    rw [e]
    exact ⟨rfl, H.out.armed_ n, (Same.refl _ _).setCell (fun _ h => h.1 rfl) _⟩
theorem ddead_any (g r : Nat) (F : Nat → Prop) (d : DiskM) (w : World) (h : DiskAt w g r F d) :
    Calls Try.prog 26 #[ptr g] w fun e w' => e = .returned (.bool d.off) ∧ w = w' := by
  have hn := dnone_any g r F d w h
  have c2 := h.1.cell 2
  simp at c2
  clear h
  go_enter Try.func26, Try.ntmps26
  go_wp2_with (go_at_call 45; refine hn.mono ?_; rintro e w1 ⟨rfl, rfl⟩)
  go_ret
  exact ⟨rfl, rfl⟩
theorem dlives_any (g r : Nat) (F : Nat → Prop) (d : DiskM) (w : World) (h : DiskAt w g r F d) :
    Calls Try.prog 38 #[ptr g] w fun e w' => e = .returned (.int .i64 d.lives) ∧ w = w' := by
  have hn := dnone_any g r F d w h
  have c2 := h.1.cell 3
  simp at c2
  clear h
  go_enter Try.func38, Try.ntmps38
  go_wp2_with (go_at_call 45; refine hn.mono ?_; rintro e w1 ⟨rfl, rfl⟩)
  go_ret
  exact ⟨rfl, rfl⟩
end Go.Proofs.Ytpjinngngbifoaa
