/-
  The walk of 'do': an operation on the disk and on the document's; they answer alike.
-/
import Derived.Test.YtlnkhkkekfjebaaPar
import Derived.Test.YtlnkhkkekfjebaaRefP
import Derived.Test.YtlnkhkkekfjebaaDiskO
import Derived.BigQuiet
set_option linter.unusedSimpArgs false
set_option linter.unusedVariables false
namespace Go.Proofs.Ytlnkhkkekfjebaa
open Go.RowKit Go.ChangeMaps Go.MapKept

/-- A disk and the document's, alike. -/
def Both (w : World) (g r h : Nat) (F : Nat → Prop) (d : DiskM) : Prop := DiskAt w g r F d ∧ RefAt w h d ∧ g ≠ h ∧ r ≠ h ∧ ∀ k, F k → k ≠ h
theorem Both.keep {w w' : World} {g r h : Nat} {F S : Nat → Prop} {d : DiskM} (H : Both w g r h F d) (hs : Same S w w') (hg : S g) (hr : S r) (hh : S h) (hF : ∀ k, F k → S k) : Both w' g r h F d :=
  ⟨H.1.keep hs hg hr hF, H.2.1.keep hs hh, H.2.2⟩
theorem Both.keepAll {w w' : World} {g r h : Nat} {F : Nat → Prop} {d : DiskM} (H : Both w g r h F d) (hs : Same (fun _ => True) w w') : Both w' g r h F d := H.keep hs trivial trivial trivial fun _ _ => trivial
/-- What an operation makes of a disk. -/
def OpM.do_ (o : OpM) (d : DiskM) : DiskM :=
  if placeF o.kind 6 = 0 then (d.append o.f o.b).2 else if placeF o.kind 6 = 1 then (d.sync o.f).2 else if placeF o.kind 6 = 2 then (d.clear o.f).2 else
  if placeF o.kind 6 = 3 then d else if placeF o.kind 6 = 4 then d.arm o.n else d.power o.keep
def DoPost (g r h : Nat) (w : World) (d' : DiskM) (e : Ending) (w' : World) : Prop :=
  e = .returned (.bool true) ∧ ∃ F', Both w' g r h F' d' ∧ Same (fun k => k ≠ g ∧ k ≠ r ∧ k ≠ h) w w'
/-- What a call of the disk asks, leaves and turns; and one of the document's. -/
def XD (g r B : Nat) (F : Nat → Prop) (d : DiskM) (res : Int × DiskM) : SX :=
  ⟨fun w => DiskAt w g r F d, fun v w => v = .int .i64 res.1 ∧ ∃ F', (∀ k, F' k → F k ∨ B ≤ k) ∧ DiskAt w g r F' res.2, fun w w' => Same (fun k => k ≠ g ∧ k ≠ r) w w'⟩
def XR (h : Nat) (d : DiskM) (res : Int × DiskM) : SX := ⟨fun w => RefAt w h d, fun v w => v = .int .i64 res.1 ∧ RefAt w h res.2, fun w w' => Same (fun k => k ≠ h) w w'⟩
section
variable {W : World} {g r h : Nat} {F : Nat → Prop} {d : DiskM} {res res' : Int × DiskM}
theorem pair_apart (H : Both W g r h F d) : [XD g r W.heap.size F d res, XR h d res'].Pairwise (fun a b => a.apart b ∧ b.apart a) := by
  obtain ⟨_, hr0, hgh, hrh, hFh⟩ := H
  have hlt := Row.lt hr0
  refine List.pairwise_cons.2 ⟨fun b hb => ?_, List.pairwise_singleton _ _⟩
  rw [List.mem_singleton] at hb
  subst hb
  refine ⟨⟨fun w w' h1 h2 => DiskAt.keep h1 h2 hgh hrh hFh, fun v w w' h1 h2 => ?_⟩, ⟨fun w w' h1 h2 => RefAt.keep h1 h2 ⟨Ne.symm hgh, Ne.symm hrh⟩, fun v w w' h1 h2 => ⟨h1.1, RefAt.keep h1.2 h2 ⟨Ne.symm hgh, Ne.symm hrh⟩⟩⟩⟩
  obtain ⟨e, F', hF', hd⟩ := h1
  exact ⟨e, F', hF', hd.keep h2 hgh hrh fun k hk => (hF' k hk).elim (fun h => hFh k h) (fun h => by show k ≠ _; omega)⟩
theorem pair_pre {B : Nat} (H : Both W g r h F d) : ∀ s ∈ [XD g r B F d res, XR h d res'], s.pre W.drew := by
  intro s hs
  rcases List.mem_cons.1 hs with rfl | hs
  · exact H.1.keepAll (Same.refl _ _).drew
  · rw [List.mem_singleton] at hs
    subst hs
    exact H.2.1.drew
theorem pair_same {B : Nat} : ∀ s ∈ [XD g r B F d res, XR h d res'], ∀ w w', s.r w w' → Same (fun k => k ≠ g ∧ k ≠ r ∧ k ≠ h) w w' := by
  intro s hs w w' hr
  rcases List.mem_cons.1 hs with rfl | hs
  · exact Same.mono hr fun k _ hk => ⟨hk.1, hk.2.1⟩
  · rw [List.mem_singleton] at hs
    subst hs
    exact Same.mono hr fun k _ hk => hk.2.2
theorem freshF {F' S : Nat → Prop} {w w' : World} (hF' : ∀ k, F' k → F k ∨ w'.heap.size ≤ k) (hs : Same S w w') : ∀ k, F' k → F k ∨ w.heap.size ≤ k := by
  intro k hk
  have := hs.size
  rcases hF' k hk with h1 | h1
  · exact .inl h1
  · exact .inr (by omega)
theorem freshH {F' : Nat → Prop} (H : Both W g r h F d) (hF' : ∀ k, F' k → F k ∨ W.heap.size ≤ k) : ∀ k, F' k → k ≠ h := by
  intro k hk
  have := Row.lt H.2.1
  rcases hF' k hk with h1 | h1
  · exact H.2.2.2.2 k h1
  · omega
end
set_option maxRecDepth 100000 in
set_option maxHeartbeats 1000000 in
theorem do_append (g r h : Nat) (F S : Nat → Prop) (d : DiskM) (o : OpM) (vb vk : Value) (w : World) (H : Hid (Both w g r h F d)) (hfit : d.Fit) (hok : d.Ok) (hlv : d.lives < 1000000)
    (hl0 : d.f0.b.length ≤ 4000000) (hl1 : d.f1.b.length ≤ 4000000) (hB : Hid (By w S vb o.b)) (hK : Hid (Ints w S vk o.keep)) (hS : ∀ k, S k → k < w.heap.size ∧ k ≠ g ∧ k ≠ r ∧ k ≠ h) (ho : o.b.length ≤ 1000)
    (hk : -9223372036854775808 ≤ o.kind ∧ o.kind ≤ 9223372036854775807) (hn : -9223372036854775808 ≤ o.n ∧ o.n ≤ 9223372036854775807) (hkind : placeF o.kind 6 = 0) :
    Calls Try.prog 47 #[ptr g, ptr h, .agg #[.int .i64 o.kind, .int .i64 o.f, .int .i64 o.n, vb, vk]] w (DoPost g r h w ((d.append o.f o.b).2)) := by
  have hpl := fun w => place_any o.kind 6 w hk (by omega)
  rw [hkind] at hpl
  clear hkind
  have hlen : (d.file o.f).b.length ≤ 4000000 := by unfold DiskM.file; split <;> assumption
  go_enter Try.func47, Try.ntmps47
  go_wp2_with (first | (go_at_call 36; refine (hpl _).mono ?_; rintro e w' ⟨rfl, rfl⟩) | (go_at_call 53; refine stopAt ?_))
  unfold Hid
  have hBx : Same (fun _ => True) w (w.alloc (.cells #[.int .i64 o.kind, .int .i64 o.f, .int .i64 o.n, vb, vk] 53)) := (Same.refl _ _).alloc _
  have hb1 := H.out.keepAll hBx
  have hhg := H.out.1.2.1
  have hhr := H.out.1.2.2.1
  have hhl := H.out.2.1.lt
  have hgh := H.out.2.2.1
  have hrh := H.out.2.2.2.1
  have hFh := H.out.2.2.2.2
  refine (twin_any _ o.b S _ (hB.out.keep (hBx.mono fun _ _ _ => trivial)) (by omega)).mono ?_
  rintro e W ⟨u, tg, rfl, htgb, htw, hs1⟩
  obtain ⟨rfl, -⟩ := id htw
  have hWs := hBx.trans hs1
  have hWr := (Row.new w 53 [.int .i64 o.kind, .int .i64 o.f, .int .i64 o.n, vb, vk]).keep hs1 trivial
  have c1 := hWr.cell 1
  have c3 := hWr.cell 3
  simp at c1 c3 htgb
  have hbo := H.out.keepAll hWs
  have hhW : h < W.heap.size := hbo.2.1.lt
  have HBW : Hid (By W S vb o.b) := Lib.hid (hB.out.keep (hWs.mono fun _ _ _ => trivial))
  have htg : tg ≠ g ∧ tg ≠ r ∧ tg ≠ h := by refine ⟨?_, ?_, ?_⟩ <;> omega
  have hmx : o.b.length + 3 ≤ maxLen := by simp only [maxLen]; omega
  have hwb : w.heap.size ≠ g ∧ w.heap.size ≠ r ∧ w.heap.size ≠ h := by refine ⟨?_, ?_, ?_⟩ <;> omega
  obtain ⟨A2, cb, rfl, -, hmb, -⟩ := id hB.out
  have hcv : ∀ w', Same (fun k => k ≠ g ∧ k ≠ r ∧ k ≠ h) W w' → (convert 27 9 (.slice A2 o.b.length cb)).run Try.prog w' = .ok (.string (str o.b)) w' := fun w' hs => by
    obtain ⟨A3, c3, e, -, -, hsl⟩ := HBW.out.keep (hs.mono fun k hk1 hk2 => (hS k hk2).2)
    injection e with e1 e2 e3
    subst e1; subst e3
    exact conv_str (P := Try.prog) cb 27 9 5 Try.underlying27 Try.underlying5 Try.underlying9 hsl
  have Hcv := Lib.hid hcv
  clear hcv hpl
  go_wp2
  have hcv := Hcv.out
  refine wp_region_par_lit [.q (ptr g), .q (.pointer (some ⟨w.heap.size, 1, none⟩)), .q (.int .i64 o.f), .q (.slice (some ⟨tg, 0, none⟩) o.b.length (o.b.length + 3)), .x (XD g r W.heap.size F d (d.append o.f o.b)), .q (ptr h), .q (.pointer (some ⟨w.heap.size, 1, none⟩)), .q (.int .i64 o.f), .q (.pointer (some ⟨w.heap.size, 3, none⟩)), .q (.slice A2 o.b.length cb), .q (.string (str o.b)), .x (XR h d (d.append o.f o.b)), .q (.bool true), .q (.bool true), .q (.slice (some ⟨tg, 0, none⟩) o.b.length (o.b.length + 3)), .q (.pointer (some ⟨w.heap.size, 3, none⟩)), .q (.slice A2 o.b.length cb), .q (.bool true), .q (.bool true), .q (.bool true)] (fun k => k ≠ g ∧ k ≠ r ∧ k ≠ h) (by kernel_rfl) (by kernel_rfl) rfl (pair_apart hbo) (pair_pre hbo) pair_same ?_ ?_
  · refine ⟨?_, ?_, ?_, ?_, ?_, ?_, ?_, ?_, ?_, ?_, ?_, ?_, ?_, ?_, ?_, ?_, ?_, ?_, ?_, ?_, trivial⟩
    · intro ac wc hs hp hd hz hf hw K hK
      have e0 : ac.eval (.tmp 0) = (ptr g) := hf 0 rfl
      clear hd hz hf hw
      simp only [Region.wanted, if_true, Oper.wp, execOp, resolve, List.map_toArray, List.map_cons, List.map_nil, Option.map_some, Option.map_none, e0]
      go_simp
      exact hK _ _ rfl rfl
    · intro ac wc hs hp hd hz hf hw K hK
      have e0 : ac.eval (.tmp 5) = (.pointer (some ⟨w.heap.size, 0, none⟩)) := hf 5 rfl
      clear hd hz hf hw
      simp only [Region.wanted, if_true, Oper.wp, execOp, resolve, List.map_toArray, List.map_cons, List.map_nil, Option.map_some, Option.map_none, e0]
      go_simp
      exact hK _ _ rfl rfl
    · intro ac wc hs hp hd hz hf hw K hK
      have e0 : ac.eval (.tmp 23) = (.pointer (some ⟨w.heap.size, 1, none⟩)) := hw 1 rfl
      clear hd hz hf hw
      simp only [Region.wanted, if_true, Oper.wp, execOp, resolve, List.map_toArray, List.map_cons, List.map_nil, Option.map_some, Option.map_none, e0]
      have hcell := hs.cell hwb c1
      go_simp
      exact hK _ _ rfl rfl
    · intro ac wc hs hp hd hz hf hw K hK
      have e0 : ac.eval (.tmp 7) = (.slice (some ⟨tg, 0, none⟩) o.b.length (o.b.length + 3)) := hf 7 rfl
      clear hd hz hf hw
      simp only [Region.wanted, if_true, Oper.wp, execOp, resolve, List.map_toArray, List.map_cons, List.map_nil, Option.map_some, Option.map_none, e0]
      go_simp
      exact hK _ _ rfl rfl
    · intro ac wc hs hp hd hz hf hw K hK
      have e0 : ac.eval (.tmp 22) = (ptr g) := hw 0 rfl
      have e1 : ac.eval (.tmp 24) = (.int .i64 o.f) := hw 2 rfl
      have e2 : ac.eval (.tmp 25) = (.slice (some ⟨tg, 0, none⟩) o.b.length (o.b.length + 3)) := hw 3 rfl
      clear hd hz hf hw
      simp only [Region.wanted, if_true, Oper.wp, execOp, resolve, List.map_toArray, List.map_cons, List.map_nil, Option.map_some, Option.map_none, e0, e1, e2]
      go_simp
      refine (dappend_any g r F _ d o.f _ o.b _ hp hfit ((htw.keep hs htg).by hmx) (by omega)).mono ?_
      rintro e w' ⟨rfl, ⟨F', hF', hd'⟩, hs'⟩
      exact hK _ _ ⟨rfl, F', freshF hF' hs, hd'⟩ hs'
    · intro ac wc hs hp hd hz hf hw K hK
      have e0 : ac.eval (.tmp 1) = (ptr h) := hf 1 rfl
      clear hd hz hf hw
      simp only [Region.wanted, if_true, Oper.wp, execOp, resolve, List.map_toArray, List.map_cons, List.map_nil, Option.map_some, Option.map_none, e0]
      go_simp
      exact hK _ _ rfl rfl
    · intro ac wc hs hp hd hz hf hw K hK
      have e0 : ac.eval (.tmp 5) = (.pointer (some ⟨w.heap.size, 0, none⟩)) := hf 5 rfl
      clear hd hz hf hw
      simp only [Region.wanted, if_true, Oper.wp, execOp, resolve, List.map_toArray, List.map_cons, List.map_nil, Option.map_some, Option.map_none, e0]
      go_simp
      exact hK _ _ rfl rfl
    · intro ac wc hs hp hd hz hf hw K hK
      have e0 : ac.eval (.tmp 28) = (.pointer (some ⟨w.heap.size, 1, none⟩)) := hw 6 rfl
      clear hd hz hf hw
      simp only [Region.wanted, if_true, Oper.wp, execOp, resolve, List.map_toArray, List.map_cons, List.map_nil, Option.map_some, Option.map_none, e0]
      have hcell := hs.cell hwb c1
      go_simp
      exact hK _ _ rfl rfl
    · intro ac wc hs hp hd hz hf hw K hK
      have e0 : ac.eval (.tmp 5) = (.pointer (some ⟨w.heap.size, 0, none⟩)) := hf 5 rfl
      clear hd hz hf hw
      simp only [Region.wanted, if_true, Oper.wp, execOp, resolve, List.map_toArray, List.map_cons, List.map_nil, Option.map_some, Option.map_none, e0]
      go_simp
      exact hK _ _ rfl rfl
    · intro ac wc hs hp hd hz hf hw K hK
      have e0 : ac.eval (.tmp 30) = (.pointer (some ⟨w.heap.size, 3, none⟩)) := hw 8 rfl
      clear hd hz hf hw
      simp only [Region.wanted, if_true, Oper.wp, execOp, resolve, List.map_toArray, List.map_cons, List.map_nil, Option.map_some, Option.map_none, e0]
      have hcell := hs.cell hwb c3
      go_simp
      exact hK _ _ rfl rfl
    · intro ac wc hs hp hd hz hf hw K hK
      have e0 : ac.eval (.tmp 31) = .slice A2 o.b.length cb := hw 9 rfl
      clear hd hz hf hw
      simp only [Region.wanted, if_true, Oper.wp, execOp, resolve, List.map_toArray, List.map_cons, List.map_nil, Option.map_some, Option.map_none, e0]
      have hcv := hcv _ hs
      go_simp
      exact hK _ _ rfl rfl
    · intro ac wc hs hp hd hz hf hw K hK
      have e0 : ac.eval (.tmp 27) = (ptr h) := hw 5 rfl
      have e1 : ac.eval (.tmp 29) = (.int .i64 o.f) := hw 7 rfl
      have e2 : ac.eval (.tmp 32) = (.string (str o.b)) := hw 10 rfl
      clear hd hz hf hw
      simp only [Region.wanted, if_true, Oper.wp, execOp, resolve, List.map_toArray, List.map_cons, List.map_nil, Option.map_some, Option.map_none, e0, e1, e2]
      go_simp
      refine (rappend_any h d o.f o.b _ hp hfit (by omega)).mono ?_
      rintro e w' ⟨rfl, hr', hs'⟩
      exact hK _ _ ⟨rfl, hr'⟩ hs'
    · intro ac wc hs hp hd hz hf hw K hK
      have x1 := hw 4 rfl
      have e0 : ac.eval (.tmp 26) = (.int .i64 (d.append o.f o.b).1) := x1.1
      have x2 := hw 11 rfl
      have e1 : ac.eval (.tmp 33) = (.int .i64 (d.append o.f o.b).1) := x2.1
      clear hd hz hf hw
      simp only [Region.wanted, if_true, Oper.wp, execOp, resolve, List.map_toArray, List.map_cons, List.map_nil, Option.map_some, Option.map_none, e0, e1]
      clear x1 x2
      go_simp
      exact hK _ _ rfl rfl
    · intro ac wc hs hp hd hz hf hw K hK
      have e0 : ac.eval (.tmp 34) = (.bool true) := hw 12 rfl
      clear hd hz hf hw
      simp only [Region.wanted, if_true, Oper.wp, execOp, resolve, List.map_toArray, List.map_cons, List.map_nil, Option.map_some, Option.map_none, e0]
      go_simp
      exact hK _ _ rfl rfl
    · intro ac wc hs hp hd hz hf hw K hK
      have eg : ac.eval (.tmp 35) = .bool true := hw 13 rfl
      refine run_wanted (j := 13) (d := 35) (b := true) rfl rfl hz (of_decide_eq_true rfl) eg ?_
      have e1 : ac.eval (.tmp 7) = (.slice (some ⟨tg, 0, none⟩) o.b.length (o.b.length + 3)) := hf 7 rfl
      clear eg
      clear hd hz hf hw
      simp only [Oper.wp, execOp, resolve, List.map_toArray, List.map_cons, List.map_nil, Option.map_some, Option.map_none, e1]
      go_simp
      exact hK _ _ rfl rfl
    · intro ac wc hs hp hd hz hf hw K hK
      have eg : ac.eval (.tmp 35) = .bool true := hw 13 rfl
      refine run_wanted (j := 13) (d := 35) (b := true) rfl rfl hz (of_decide_eq_true rfl) eg ?_
      have e1 : ac.eval (.tmp 5) = (.pointer (some ⟨w.heap.size, 0, none⟩)) := hf 5 rfl
      clear eg
      clear hd hz hf hw
      simp only [Oper.wp, execOp, resolve, List.map_toArray, List.map_cons, List.map_nil, Option.map_some, Option.map_none, e1]
      go_simp
      exact hK _ _ rfl rfl
    · intro ac wc hs hp hd hz hf hw K hK
      have eg : ac.eval (.tmp 35) = .bool true := hw 13 rfl
      refine run_wanted (j := 13) (d := 35) (b := true) rfl rfl hz (of_decide_eq_true rfl) eg ?_
      have e1 : ac.eval (.tmp 37) = (.pointer (some ⟨w.heap.size, 3, none⟩)) := hw 15 rfl
      clear eg
      clear hd hz hf hw
      simp only [Oper.wp, execOp, resolve, List.map_toArray, List.map_cons, List.map_nil, Option.map_some, Option.map_none, e1]
      have hcell := hs.cell hwb c3
      go_simp
      exact hK _ _ rfl rfl
    · intro ac wc hs hp hd hz hf hw K hK
      have eg : ac.eval (.tmp 35) = .bool true := hw 13 rfl
      refine run_wanted (j := 13) (d := 35) (b := true) rfl rfl hz (of_decide_eq_true rfl) eg ?_
      have e1 : ac.eval (.tmp 36) = (.slice (some ⟨tg, 0, none⟩) o.b.length (o.b.length + 3)) := hw 14 rfl
      have e2 : ac.eval (.tmp 38) = .slice A2 o.b.length cb := hw 16 rfl
      clear eg
      clear hd hz hf hw
      simp only [Oper.wp, execOp, resolve, List.map_toArray, List.map_cons, List.map_nil, Option.map_some, Option.map_none, e1, e2]
      go_simp
      refine (kept_any _ _ o.b tg _ _ (htw.keep hs htg) (HBW.out.keep (hs.mono fun k hk1 hk2 => (hS k hk2).2)) (by omega)).mono ?_
      rintro e w' ⟨rfl, rfl⟩
      exact hK _ _ rfl rfl
    · intro ac wc hs hp hd hz hf hw K hK
      have e0 : ac.eval (.tmp 35) = (.bool true) := hw 13 rfl
      have e1 : ac.eval (.tmp 39) = (.bool true) := hw 17 rfl
      clear hd hz hf hw
      simp only [Region.wanted, if_true, Oper.wp, execOp, resolve, List.map_toArray, List.map_cons, List.map_nil, Option.map_some, Option.map_none, e0, e1]
      go_simp
      exact hK _ _ rfl rfl
    · intro ac wc hs hp hd hz hf hw K hK
      have e0 : ac.eval (.tmp 40) = (.bool true) := hw 18 rfl
      clear hd hz hf hw
      simp only [Region.wanted, if_true, Oper.wp, execOp, resolve, List.map_toArray, List.map_cons, List.map_nil, Option.map_some, Option.map_none, e0]
      go_simp
      exact hK _ _ rfl rfl
  · intro a' w' hs hd hz hf hw
    have e : a'.tmps.getD 8 undef = .bool true := hw 19 (by decide)
    have e7 : a'.tmps.getD 7 undef = (.slice (some ⟨tg, 0, none⟩) o.b.length (o.b.length + 3)) := hf 7 rfl
    obtain ⟨-, F', hF', hd'⟩ := hw 4 (by decide)
    obtain ⟨-, hr'⟩ := hw 11 (by decide)
    have hdf : a'.defers = [] := hd
    have hTW := htw.keep hs htg
    have hsp := spoil_any _ _ w.heap.size _ w' (hTW.2.owns (n := o.b.length) (cap := o.b.length + 3) (by omega) (by simp) (by omega) hmx)
    have hF'' := freshH hbo hF'
    have htgW := htw.2.lt
    have hFt : ∀ k, F' k → k ≠ tg := fun k hk => (hF' k hk).elim (fun h1 => by have := (H.out.1.2.2.2.2.1 k h1).1; omega) (fun h1 => by omega)
    have HX := Lib.hid (And.intro hd' (And.intro hr' (And.intro hF'' hFt)))
    have Hs := Lib.hid hs
    have Hw := Lib.hid hWs
    clear hd' hr' hF' hF'' hFt hs hTW hw hf hcv hb1 hbo hBx hs1 hWs htw hd
    obtain ⟨av, dv⟩ := a'
    simp only at e e7 hdf hz
    subst hdf
    go_wp2_with (go_at_call 57; refine hsp.mono ?_; rintro e3 w3 ⟨rfl, hs3⟩)
    go_ret
    have hz' : av.size = 114 := hz
    have hx : ∀ v1 v2 v3 : Value, ((((av.setIfInBounds 41 v1).setIfInBounds 42 v2).setIfInBounds 43 v3).setIfInBounds 6 (av.getD 8 undef)).getD 6 undef = .bool true := fun v1 v2 v3 => by
      rw [e]
      simp [Array.getD_eq_getD_getElem?, hz']
    have e8 : av[8]'(by omega) = av.getD 8 undef := by simp [Array.getD_eq_getD_getElem?, hz']
    have hfar : ∀ k, k < w.heap.size → some k ≠ (Value.slice (some ⟨tg, 0, none⟩) o.b.length (o.b.length + 3)).ownBlock := fun k hk h => by
      have h : some k = some tg := h
      injection h with h
      omega
    have hold : Same (fun k => k ≠ g ∧ k ≠ r ∧ k ≠ h) w w' := (Hw.out.mono fun _ _ _ => trivial).trans Hs.out
    obtain ⟨hd', hr', hF', hFt⟩ := HX.out
    have h3g : ∀ k : Nat, k ≠ tg → some k ≠ (Value.slice (some ⟨tg, 0, none⟩) o.b.length (o.b.length + 3)).ownBlock := fun k hk h => by
      have h : some k = some tg := h
      injection h with h
      exact hk h
    refine ⟨congrArg Ending.returned (by rw [e8]; exact hx _ _ _), F', ⟨hd'.keep hs3 (h3g _ (by omega)) (h3g _ (by omega)) (fun k hk => h3g _ (hFt k hk)), hr'.keep hs3 (h3g _ (by omega)), hgh, hrh, hF'⟩, hold.trans' hs3 (fun k hk _ => hfar k hk)⟩
set_option maxRecDepth 100000 in
set_option maxHeartbeats 1000000 in
theorem do_sync (g r h : Nat) (F S : Nat → Prop) (d : DiskM) (o : OpM) (vb vk : Value) (w : World) (H : Hid (Both w g r h F d)) (hfit : d.Fit) (hok : d.Ok) (hlv : d.lives < 1000000)
    (hl0 : d.f0.b.length ≤ 4000000) (hl1 : d.f1.b.length ≤ 4000000) (hB : Hid (By w S vb o.b)) (hK : Hid (Ints w S vk o.keep)) (hS : ∀ k, S k → k < w.heap.size ∧ k ≠ g ∧ k ≠ r ∧ k ≠ h) (ho : o.b.length ≤ 1000)
    (hk : -9223372036854775808 ≤ o.kind ∧ o.kind ≤ 9223372036854775807) (hn : -9223372036854775808 ≤ o.n ∧ o.n ≤ 9223372036854775807) (hkind : placeF o.kind 6 = 1) :
    Calls Try.prog 47 #[ptr g, ptr h, .agg #[.int .i64 o.kind, .int .i64 o.f, .int .i64 o.n, vb, vk]] w (DoPost g r h w ((d.sync o.f).2)) := by
  have hpl := fun w => place_any o.kind 6 w hk (by omega)
  rw [hkind] at hpl
  clear hkind
  have hlen : (d.file o.f).b.length ≤ 4000000 := by unfold DiskM.file; split <;> assumption
  go_enter Try.func47, Try.ntmps47
  go_wp2_with (go_at_call 36; refine (hpl _).mono ?_; rintro e w' ⟨rfl, rfl⟩)
  generalize hW : World.alloc _ _ = W
  have hWs : Same (fun _ => True) w W := hW ▸ (Same.refl _ _).alloc _
  have hWr := hW ▸ Row.new w 53 [.int .i64 o.kind, .int .i64 o.f, .int .i64 o.n, vb, vk]
  clear hW
  have c1 := hWr.cell 1
  simp at c1
  have hbo := H.out.keepAll hWs
  have hhW : h < W.heap.size := hbo.2.1.lt
  have hFh := hbo.2.2.2.2
  generalize hwbE : w.heap.size = wb at *
  have hwb : wb ≠ g ∧ wb ≠ r ∧ wb ≠ h := ⟨by have := H.out.1.2.1; omega, by have := H.out.1.2.2.1; omega, by have := H.out.2.1.lt; omega⟩
  refine wp_region_par_lit [.q (ptr g), .q (.pointer (some ⟨wb, 1, none⟩)), .q (.int .i64 o.f), .x (XD g r W.heap.size F d (d.sync o.f)), .q (ptr h), .q (.pointer (some ⟨wb, 1, none⟩)), .q (.int .i64 o.f), .x (XR h d (d.sync o.f)), .q (.bool true), .q (.bool true)] (fun k => k ≠ g ∧ k ≠ r ∧ k ≠ h) (by kernel_rfl) (by kernel_rfl) rfl (pair_apart hbo) (pair_pre hbo) pair_same ?_ ?_
  · refine ⟨?_, ?_, ?_, ?_, ?_, ?_, ?_, ?_, ?_, ?_, trivial⟩
    · intro ac wc hs hp hd hz hf hw K hK
      have e0 : ac.eval (.tmp 0) = (ptr g) := hf 0 rfl
      clear hd hz hf hw
      simp only [Region.wanted, if_true, Oper.wp, execOp, resolve, List.map_toArray, List.map_cons, List.map_nil, Option.map_some, Option.map_none, e0]
      go_simp
      exact hK _ _ rfl rfl
    · intro ac wc hs hp hd hz hf hw K hK
      have e0 : ac.eval (.tmp 5) = (.pointer (some ⟨wb, 0, none⟩)) := hf 5 rfl
      clear hd hz hf hw
      simp only [Region.wanted, if_true, Oper.wp, execOp, resolve, List.map_toArray, List.map_cons, List.map_nil, Option.map_some, Option.map_none, e0]
      go_simp
      exact hK _ _ rfl rfl
    · intro ac wc hs hp hd hz hf hw K hK
      have e0 : ac.eval (.tmp 47) = (.pointer (some ⟨wb, 1, none⟩)) := hw 1 rfl
      clear hd hz hf hw
      simp only [Region.wanted, if_true, Oper.wp, execOp, resolve, List.map_toArray, List.map_cons, List.map_nil, Option.map_some, Option.map_none, e0]
      have hcell := hs.cell hwb c1
      go_simp
      exact hK _ _ rfl rfl
    · intro ac wc hs hp hd hz hf hw K hK
      have e0 : ac.eval (.tmp 46) = (ptr g) := hw 0 rfl
      have e1 : ac.eval (.tmp 48) = (.int .i64 o.f) := hw 2 rfl
      clear hd hz hf hw
      simp only [Region.wanted, if_true, Oper.wp, execOp, resolve, List.map_toArray, List.map_cons, List.map_nil, Option.map_some, Option.map_none, e0, e1]
      go_simp
      refine (dsync_any g r F d o.f _ hp hfit).mono ?_
      rintro e w' ⟨rfl, ⟨F', hF', hd'⟩, hs'⟩
      exact hK _ _ ⟨rfl, F', freshF hF' hs, hd'⟩ hs'
    · intro ac wc hs hp hd hz hf hw K hK
      have e0 : ac.eval (.tmp 1) = (ptr h) := hf 1 rfl
      clear hd hz hf hw
      simp only [Region.wanted, if_true, Oper.wp, execOp, resolve, List.map_toArray, List.map_cons, List.map_nil, Option.map_some, Option.map_none, e0]
      go_simp
      exact hK _ _ rfl rfl
    · intro ac wc hs hp hd hz hf hw K hK
      have e0 : ac.eval (.tmp 5) = (.pointer (some ⟨wb, 0, none⟩)) := hf 5 rfl
      clear hd hz hf hw
      simp only [Region.wanted, if_true, Oper.wp, execOp, resolve, List.map_toArray, List.map_cons, List.map_nil, Option.map_some, Option.map_none, e0]
      go_simp
      exact hK _ _ rfl rfl
    · intro ac wc hs hp hd hz hf hw K hK
      have e0 : ac.eval (.tmp 51) = (.pointer (some ⟨wb, 1, none⟩)) := hw 5 rfl
      clear hd hz hf hw
      simp only [Region.wanted, if_true, Oper.wp, execOp, resolve, List.map_toArray, List.map_cons, List.map_nil, Option.map_some, Option.map_none, e0]
      have hcell := hs.cell hwb c1
      go_simp
      exact hK _ _ rfl rfl
    · intro ac wc hs hp hd hz hf hw K hK
      have e0 : ac.eval (.tmp 50) = (ptr h) := hw 4 rfl
      have e1 : ac.eval (.tmp 52) = (.int .i64 o.f) := hw 6 rfl
      clear hd hz hf hw
      simp only [Region.wanted, if_true, Oper.wp, execOp, resolve, List.map_toArray, List.map_cons, List.map_nil, Option.map_some, Option.map_none, e0, e1]
      go_simp
      refine (rsync_any h d o.f _ hp hfit).mono ?_
      rintro e w' ⟨rfl, hr', hs'⟩
      exact hK _ _ ⟨rfl, hr'⟩ hs'
    · intro ac wc hs hp hd hz hf hw K hK
      have x1 := hw 3 rfl
      have e0 : ac.eval (.tmp 49) = (.int .i64 (d.sync o.f).1) := x1.1
      have x2 := hw 7 rfl
      have e1 : ac.eval (.tmp 53) = (.int .i64 (d.sync o.f).1) := x2.1
      clear hd hz hf hw
      simp only [Region.wanted, if_true, Oper.wp, execOp, resolve, List.map_toArray, List.map_cons, List.map_nil, Option.map_some, Option.map_none, e0, e1]
      clear x1 x2
      go_simp
      exact hK _ _ rfl rfl
    · intro ac wc hs hp hd hz hf hw K hK
      have e0 : ac.eval (.tmp 54) = (.bool true) := hw 8 rfl
      clear hd hz hf hw
      simp only [Region.wanted, if_true, Oper.wp, execOp, resolve, List.map_toArray, List.map_cons, List.map_nil, Option.map_some, Option.map_none, e0]
      go_simp
      exact hK _ _ rfl rfl
  · intro a' w' hs hd hz hf hw
    have e : a'.tmps.getD 6 undef = .bool true := hw 9 (by decide)
    obtain ⟨-, F', hF', hd'⟩ := hw 3 (by decide)
    obtain ⟨-, hr'⟩ := hw 7 (by decide)
    have hdf : a'.defers = [] := hd
    go_wp2
    refine bodyPost_ret (results_tmp rfl _ _ _) hdf ?_
    rw [e]
    exact ⟨rfl, F', ⟨hd', hr', hbo.2.2.1, hbo.2.2.2.1, freshH hbo hF'⟩, (hWs.mono fun _ _ _ => trivial).trans hs⟩
set_option maxRecDepth 100000 in
set_option maxHeartbeats 1000000 in
theorem do_clear (g r h : Nat) (F S : Nat → Prop) (d : DiskM) (o : OpM) (vb vk : Value) (w : World) (H : Hid (Both w g r h F d)) (hfit : d.Fit) (hok : d.Ok) (hlv : d.lives < 1000000)
    (hl0 : d.f0.b.length ≤ 4000000) (hl1 : d.f1.b.length ≤ 4000000) (hB : Hid (By w S vb o.b)) (hK : Hid (Ints w S vk o.keep)) (hS : ∀ k, S k → k < w.heap.size ∧ k ≠ g ∧ k ≠ r ∧ k ≠ h) (ho : o.b.length ≤ 1000)
    (hk : -9223372036854775808 ≤ o.kind ∧ o.kind ≤ 9223372036854775807) (hn : -9223372036854775808 ≤ o.n ∧ o.n ≤ 9223372036854775807) (hkind : placeF o.kind 6 = 2) :
    Calls Try.prog 47 #[ptr g, ptr h, .agg #[.int .i64 o.kind, .int .i64 o.f, .int .i64 o.n, vb, vk]] w (DoPost g r h w ((d.clear o.f).2)) := by
  have hpl := fun w => place_any o.kind 6 w hk (by omega)
  rw [hkind] at hpl
  clear hkind
  have hlen : (d.file o.f).b.length ≤ 4000000 := by unfold DiskM.file; split <;> assumption
  go_enter Try.func47, Try.ntmps47
  go_wp2_with (go_at_call 36; refine (hpl _).mono ?_; rintro e w' ⟨rfl, rfl⟩)
  generalize hW : World.alloc _ _ = W
  have hWs : Same (fun _ => True) w W := hW ▸ (Same.refl _ _).alloc _
  have hWr := hW ▸ Row.new w 53 [.int .i64 o.kind, .int .i64 o.f, .int .i64 o.n, vb, vk]
  clear hW
  have c1 := hWr.cell 1
  simp at c1
  have hbo := H.out.keepAll hWs
  have hhW : h < W.heap.size := hbo.2.1.lt
  have hFh := hbo.2.2.2.2
  generalize hwbE : w.heap.size = wb at *
  have hwb : wb ≠ g ∧ wb ≠ r ∧ wb ≠ h := ⟨by have := H.out.1.2.1; omega, by have := H.out.1.2.2.1; omega, by have := H.out.2.1.lt; omega⟩
  refine wp_region_par_lit [.q (ptr g), .q (.pointer (some ⟨wb, 1, none⟩)), .q (.int .i64 o.f), .x (XD g r W.heap.size F d (d.clear o.f)), .q (ptr h), .q (.pointer (some ⟨wb, 1, none⟩)), .q (.int .i64 o.f), .x (XR h d (d.clear o.f)), .q (.bool true), .q (.bool true)] (fun k => k ≠ g ∧ k ≠ r ∧ k ≠ h) (by kernel_rfl) (by kernel_rfl) rfl (pair_apart hbo) (pair_pre hbo) pair_same ?_ ?_
  · refine ⟨?_, ?_, ?_, ?_, ?_, ?_, ?_, ?_, ?_, ?_, trivial⟩
    · intro ac wc hs hp hd hz hf hw K hK
      have e0 : ac.eval (.tmp 0) = (ptr g) := hf 0 rfl
      clear hd hz hf hw
      simp only [Region.wanted, if_true, Oper.wp, execOp, resolve, List.map_toArray, List.map_cons, List.map_nil, Option.map_some, Option.map_none, e0]
      go_simp
      exact hK _ _ rfl rfl
    · intro ac wc hs hp hd hz hf hw K hK
      have e0 : ac.eval (.tmp 5) = (.pointer (some ⟨wb, 0, none⟩)) := hf 5 rfl
      clear hd hz hf hw
      simp only [Region.wanted, if_true, Oper.wp, execOp, resolve, List.map_toArray, List.map_cons, List.map_nil, Option.map_some, Option.map_none, e0]
      go_simp
      exact hK _ _ rfl rfl
    · intro ac wc hs hp hd hz hf hw K hK
      have e0 : ac.eval (.tmp 58) = (.pointer (some ⟨wb, 1, none⟩)) := hw 1 rfl
      clear hd hz hf hw
      simp only [Region.wanted, if_true, Oper.wp, execOp, resolve, List.map_toArray, List.map_cons, List.map_nil, Option.map_some, Option.map_none, e0]
      have hcell := hs.cell hwb c1
      go_simp
      exact hK _ _ rfl rfl
    · intro ac wc hs hp hd hz hf hw K hK
      have e0 : ac.eval (.tmp 57) = (ptr g) := hw 0 rfl
      have e1 : ac.eval (.tmp 59) = (.int .i64 o.f) := hw 2 rfl
      clear hd hz hf hw
      simp only [Region.wanted, if_true, Oper.wp, execOp, resolve, List.map_toArray, List.map_cons, List.map_nil, Option.map_some, Option.map_none, e0, e1]
      go_simp
      refine (dclear_any g r F d o.f _ hp hfit).mono ?_
      rintro e w' ⟨rfl, ⟨F', hF', hd'⟩, hs'⟩
      exact hK _ _ ⟨rfl, F', freshF hF' hs, hd'⟩ hs'
    · intro ac wc hs hp hd hz hf hw K hK
      have e0 : ac.eval (.tmp 1) = (ptr h) := hf 1 rfl
      clear hd hz hf hw
      simp only [Region.wanted, if_true, Oper.wp, execOp, resolve, List.map_toArray, List.map_cons, List.map_nil, Option.map_some, Option.map_none, e0]
      go_simp
      exact hK _ _ rfl rfl
    · intro ac wc hs hp hd hz hf hw K hK
      have e0 : ac.eval (.tmp 5) = (.pointer (some ⟨wb, 0, none⟩)) := hf 5 rfl
      clear hd hz hf hw
      simp only [Region.wanted, if_true, Oper.wp, execOp, resolve, List.map_toArray, List.map_cons, List.map_nil, Option.map_some, Option.map_none, e0]
      go_simp
      exact hK _ _ rfl rfl
    · intro ac wc hs hp hd hz hf hw K hK
      have e0 : ac.eval (.tmp 62) = (.pointer (some ⟨wb, 1, none⟩)) := hw 5 rfl
      clear hd hz hf hw
      simp only [Region.wanted, if_true, Oper.wp, execOp, resolve, List.map_toArray, List.map_cons, List.map_nil, Option.map_some, Option.map_none, e0]
      have hcell := hs.cell hwb c1
      go_simp
      exact hK _ _ rfl rfl
    · intro ac wc hs hp hd hz hf hw K hK
      have e0 : ac.eval (.tmp 61) = (ptr h) := hw 4 rfl
      have e1 : ac.eval (.tmp 63) = (.int .i64 o.f) := hw 6 rfl
      clear hd hz hf hw
      simp only [Region.wanted, if_true, Oper.wp, execOp, resolve, List.map_toArray, List.map_cons, List.map_nil, Option.map_some, Option.map_none, e0, e1]
      go_simp
      refine (rclear_any h d o.f _ hp hfit).mono ?_
      rintro e w' ⟨rfl, hr', hs'⟩
      exact hK _ _ ⟨rfl, hr'⟩ hs'
    · intro ac wc hs hp hd hz hf hw K hK
      have x1 := hw 3 rfl
      have e0 : ac.eval (.tmp 60) = (.int .i64 (d.clear o.f).1) := x1.1
      have x2 := hw 7 rfl
      have e1 : ac.eval (.tmp 64) = (.int .i64 (d.clear o.f).1) := x2.1
      clear hd hz hf hw
      simp only [Region.wanted, if_true, Oper.wp, execOp, resolve, List.map_toArray, List.map_cons, List.map_nil, Option.map_some, Option.map_none, e0, e1]
      clear x1 x2
      go_simp
      exact hK _ _ rfl rfl
    · intro ac wc hs hp hd hz hf hw K hK
      have e0 : ac.eval (.tmp 65) = (.bool true) := hw 8 rfl
      clear hd hz hf hw
      simp only [Region.wanted, if_true, Oper.wp, execOp, resolve, List.map_toArray, List.map_cons, List.map_nil, Option.map_some, Option.map_none, e0]
      go_simp
      exact hK _ _ rfl rfl
  · intro a' w' hs hd hz hf hw
    have e : a'.tmps.getD 6 undef = .bool true := hw 9 (by decide)
    obtain ⟨-, F', hF', hd'⟩ := hw 3 (by decide)
    obtain ⟨-, hr'⟩ := hw 7 (by decide)
    have hdf : a'.defers = [] := hd
    go_wp2
    refine bodyPost_ret (results_tmp rfl _ _ _) hdf ?_
    rw [e]
    exact ⟨rfl, F', ⟨hd', hr', hbo.2.2.1, hbo.2.2.2.1, freshH hbo hF'⟩, (hWs.mono fun _ _ _ => trivial).trans hs⟩
set_option maxRecDepth 100000 in
set_option maxHeartbeats 1000000 in
theorem do_arm (g r h : Nat) (F S : Nat → Prop) (d : DiskM) (o : OpM) (vb vk : Value) (w : World) (H : Hid (Both w g r h F d)) (hfit : d.Fit) (hok : d.Ok) (hlv : d.lives < 1000000)
    (hl0 : d.f0.b.length ≤ 4000000) (hl1 : d.f1.b.length ≤ 4000000) (hB : Hid (By w S vb o.b)) (hK : Hid (Ints w S vk o.keep)) (hS : ∀ k, S k → k < w.heap.size ∧ k ≠ g ∧ k ≠ r ∧ k ≠ h) (ho : o.b.length ≤ 1000)
    (hk : -9223372036854775808 ≤ o.kind ∧ o.kind ≤ 9223372036854775807) (hn : -9223372036854775808 ≤ o.n ∧ o.n ≤ 9223372036854775807) (hkind : placeF o.kind 6 = 4) :
    Calls Try.prog 47 #[ptr g, ptr h, .agg #[.int .i64 o.kind, .int .i64 o.f, .int .i64 o.n, vb, vk]] w (DoPost g r h w (d.arm o.n)) := by
  have hpl := fun w => place_any o.kind 6 w hk (by omega)
  rw [hkind] at hpl
  clear hkind
  have hlen : (d.file o.f).b.length ≤ 4000000 := by unfold DiskM.file; split <;> assumption
  go_enter Try.func47, Try.ntmps47
  go_wp2_with (first | (go_at_call 36; refine (hpl _).mono ?_; rintro e w' ⟨rfl, rfl⟩) | (go_at_call 45; refine stopAt ?_))
  unfold Hid
  have hBx : Same (fun _ => True) w (w.alloc (.cells #[.int .i64 o.kind, .int .i64 o.f, .int .i64 o.n, vb, vk] 53)) := (Same.refl _ _).alloc _
  have hb1 := H.out.keepAll hBx
  have hhg := H.out.1.2.1
  have hhr := H.out.1.2.2.1
  have hhl := H.out.2.1.lt
  have hgh := H.out.2.2.1
  have hrh := H.out.2.2.2.1
  have hFh := H.out.2.2.2.2
  refine (darm_any g r F d o.n _ hb1.1).mono ?_
  rintro e w1 ⟨rfl, hd1, hs1⟩
  have hr1 := hb1.2.1.keep hs1 ⟨Ne.symm hgh, Ne.symm hrh⟩
  have hcell := hs1.cell (p := ⟨w.heap.size, 2, none⟩) (v := .int .i64 o.n) (by constructor <;> (show w.heap.size ≠ _; omega)) ((Row.new w 53 [.int .i64 o.kind, .int .i64 o.f, .int .i64 o.n, vb, vk]).cell 2)
  obtain ⟨-, -, c5, -⟩ := hr1.cells
  obtain ⟨-, -, z5, -⟩ := hr1.free
  clear hpl
  go_wp2
  go_ret
  have hs2 : Same (fun k => k ≠ h) w1 (w1.setCell ⟨h, 5, none⟩ (.int .i64 (max o.n (-1)))) := (Same.refl _ _).setCell (fun _ h => h rfl) _
  exact ⟨rfl, F, ⟨hd1.keep hs2 hgh hrh hFh, hr1.store 5 _ rfl, hgh, hrh, hFh⟩, (hBx.mono fun _ _ _ => trivial).trans ((hs1.mono fun k _ hk => ⟨hk.1, hk.2.1⟩).trans (hs2.mono fun k _ hk => hk.2.2))⟩
set_option maxRecDepth 100000 in
set_option maxHeartbeats 1000000 in
theorem do_power (g r h : Nat) (F S : Nat → Prop) (d : DiskM) (o : OpM) (vb vk : Value) (w : World) (H : Hid (Both w g r h F d)) (hfit : d.Fit) (hok : d.Ok) (hlv : d.lives < 1000000)
    (hl0 : d.f0.b.length ≤ 4000000) (hl1 : d.f1.b.length ≤ 4000000) (hB : Hid (By w S vb o.b)) (hK : Hid (Ints w S vk o.keep)) (hS : ∀ k, S k → k < w.heap.size ∧ k ≠ g ∧ k ≠ r ∧ k ≠ h) (ho : o.b.length ≤ 1000)
    (hk : -9223372036854775808 ≤ o.kind ∧ o.kind ≤ 9223372036854775807) (hn : -9223372036854775808 ≤ o.n ∧ o.n ≤ 9223372036854775807) (hkind : placeF o.kind 6 = 5) :
    Calls Try.prog 47 #[ptr g, ptr h, .agg #[.int .i64 o.kind, .int .i64 o.f, .int .i64 o.n, vb, vk]] w (DoPost g r h w (d.power o.keep)) := by
  have hpl := fun w => place_any o.kind 6 w hk (by omega)
  rw [hkind] at hpl
  clear hkind
  have hlen : (d.file o.f).b.length ≤ 4000000 := by unfold DiskM.file; split <;> assumption
  go_enter Try.func47, Try.ntmps47
  go_wp2_with (first | (go_at_call 36; refine (hpl _).mono ?_; rintro e w' ⟨rfl, rfl⟩) | (go_at_call 40; refine stopAt ?_))
  unfold Hid
  have hBx : Same (fun _ => True) w (w.alloc (.cells #[.int .i64 o.kind, .int .i64 o.f, .int .i64 o.n, vb, vk] 53)) := (Same.refl _ _).alloc _
  have hb1 := H.out.keepAll hBx
  have hhg := H.out.1.2.1
  have hhr := H.out.1.2.2.1
  have hhl := H.out.2.1.lt
  have hgh := H.out.2.2.1
  have hrh := H.out.2.2.2.1
  have hFh := H.out.2.2.2.2
  refine (dpower_any g r F S d o.keep _ _ hb1.1 hok (hK.out.keep (hBx.mono fun _ _ _ => trivial)) (fun k hk => ⟨by have := (hS k hk).1; simp; omega, (hS k hk).2.1, (hS k hk).2.2.1⟩) ⟨by omega, by omega⟩ hlv).mono ?_
  rintro e w1 ⟨rfl, hd1, hs1⟩
  have hr1 := hb1.2.1.keep hs1 ⟨Ne.symm hgh, Ne.symm hrh⟩
  have hcell := hs1.cell (p := ⟨w.heap.size, 4, none⟩) (v := vk) (by constructor <;> (show w.heap.size ≠ _; omega)) ((Row.new w 53 [.int .i64 o.kind, .int .i64 o.f, .int .i64 o.n, vb, vk]).cell 4)
  clear hpl
  go_wp2_with (first | (go_at_call 36; refine (hpl _).mono ?_; rintro e w' ⟨rfl, rfl⟩) | (go_at_call 49; refine stopAt ?_))
  unfold Hid
  refine (rpower_any h S d o.keep _ _ hr1 hok ((hK.out.keep (hBx.mono fun _ _ _ => trivial)).keep (hs1.mono fun k hk hk2 => ⟨(hS k hk2).2.1, (hS k hk2).2.2.1⟩)) (fun k hk => (hS k hk).2.2.2) ⟨by omega, by omega⟩ hlv).mono ?_
  rintro e w2 ⟨rfl, hr2, hs2⟩
  go_wp2
  go_ret
  exact ⟨rfl, F, ⟨hd1.keep hs2 hgh hrh hFh, hr2, hgh, hrh, hFh⟩, (hBx.mono fun _ _ _ => trivial).trans ((hs1.mono fun k _ hk => ⟨hk.1, hk.2.1⟩).trans (hs2.mono fun k _ hk => hk.2.2))⟩
set_option maxRecDepth 100000 in
set_option maxHeartbeats 1000000 in
theorem do_read (g r h : Nat) (F S : Nat → Prop) (d : DiskM) (o : OpM) (vb vk : Value) (w : World) (H : Hid (Both w g r h F d)) (hfit : d.Fit) (hok : d.Ok) (hlv : d.lives < 1000000)
    (hl0 : d.f0.b.length ≤ 4000000) (hl1 : d.f1.b.length ≤ 4000000) (hB : Hid (By w S vb o.b)) (hK : Hid (Ints w S vk o.keep)) (hS : ∀ k, S k → k < w.heap.size ∧ k ≠ g ∧ k ≠ r ∧ k ≠ h) (ho : o.b.length ≤ 1000)
    (hk : -9223372036854775808 ≤ o.kind ∧ o.kind ≤ 9223372036854775807) (hn : -9223372036854775808 ≤ o.n ∧ o.n ≤ 9223372036854775807) (hkind : placeF o.kind 6 = 3) :
    Calls Try.prog 47 #[ptr g, ptr h, .agg #[.int .i64 o.kind, .int .i64 o.f, .int .i64 o.n, vb, vk]] w (DoPost g r h w (d)) := by
  have hpl := fun w => place_any o.kind 6 w hk (by omega)
  rw [hkind] at hpl
  clear hkind
  have hlen : (d.file o.f).b.length ≤ 4000000 := by unfold DiskM.file; split <;> assumption
  go_enter Try.func47, Try.ntmps47
  go_wp2_with (first | (go_at_call 36; refine (hpl _).mono ?_; rintro e w' ⟨rfl, rfl⟩) | (go_at_call 41; refine stopAt ?_))
  unfold Hid
  have hBx : Same (fun _ => True) w (w.alloc (.cells #[.int .i64 o.kind, .int .i64 o.f, .int .i64 o.n, vb, vk] 53)) := (Same.refl _ _).alloc _
  have hb1 := H.out.keepAll hBx
  have hhg := H.out.1.2.1
  have hhr := H.out.1.2.2.1
  have hhl := H.out.2.1.lt
  have hgh := H.out.2.2.1
  have hrh := H.out.2.2.2.1
  have hFh := H.out.2.2.2.2
  refine (dread_any g r F d o.f _ hb1.1 (by omega)).mono ?_
  rintro e w1 ⟨u, rfl, hu, hs1⟩
  have hb2 := hb1.keepAll hs1
  have hcell := hs1.cell (p := ⟨w.heap.size, 1, none⟩) (v := .int .i64 o.f) trivial ((Row.new w 53 [.int .i64 o.kind, .int .i64 o.f, .int .i64 o.n, vb, vk]).cell 1)
  have hrd := rread_any h d o.f w1 hb2.2.1
  obtain ⟨A, c, rfl, -, hcm, hsl⟩ := own_by hu
  have hcv : (convert 27 9 (.slice A (d.read o.f).1.length c)).run Try.prog w1 = .ok (.string (str (d.read o.f).1)) w1 :=
    conv_str (P := Try.prog) c 27 9 5 Try.underlying27 Try.underlying5 Try.underlying9 hsl
  have hsp := spoil_any _ _ _ _ _ hu
  have hge : ∀ k, k < w.heap.size → some k ≠ (Value.slice A (d.read o.f).1.length c).ownBlock := fun k hk e => by
    have h1 := own_ge hu e
    simp at h1
    omega
  have Hge := Lib.hid hge
  have Hs1 := Lib.hid hs1
  clear hpl hu hsl hge hs1
  generalize (d.read o.f).1 = bs at *
  generalize (d.read o.f).2 = x at *
  go_wp2_with (first | (go_at_call 86; refine hrd.mono ?_; rintro e w2 ⟨rfl, rfl⟩) | (go_at_call 57; refine hsp.mono ?_; rintro e w3 ⟨rfl, hs3⟩))
  go_ret
  have hs4 : Same (fun k => k ≠ g ∧ k ≠ r ∧ k ≠ h) w w3 := ((hBx.trans Hs1.out).mono fun _ _ _ => trivial).trans' hs3 (fun k hk _ => Hge.out k hk)
  exact ⟨rfl, F, H.out.keep (((hBx.trans Hs1.out).mono fun _ _ _ => trivial).trans' (S := fun k => k < w.heap.size) hs3 (fun k hk _ => Hge.out k hk)) hhg hhr hhl (fun k hk => (H.out.1.2.2.2.2.1 k hk).1), hs4⟩
end Go.Proofs.Ytlnkhkkekfjebaa
