/-
  Words, plain models, laws and walks that the claims of this layer share (joined by shake.py). No condition.
-/
import Derived.ArgAppend
import Derived.Deep.Upon
import Derived.Maps.RangeWalk
import Derived.Test.YtpjinngngbifoaaU1
import Derived.Test.YtpjinngngbifoaaU2
import Derived.Test.YtpjinngngbifoaaU3
set_option linter.unusedSimpArgs false
set_option linter.unusedVariables false
namespace Go.Proofs.Ytpjinngngbifoaa
open Go.RowKit Go.ChangeMaps Go.MapKept
set_option maxRecDepth 10000 in
/-- append(s[:n:n], x...): never into the old block. -/
theorem wpList_full {w : World} {ops : Array Oper} {rest : List Oper} {o : Oper} {a : Act} {Q : Exit → Act → World → Prop} (hgd : o.guard = none) (s x : Operand)
    (ho : o.op = .call { callee := .builtin .append, args := #[s, x], argTypes := #[24, 24] })
    (A : Option Addr) (n : Nat) (bs es : List UInt8) (F S : Nat → Prop) (B : Option Addr) (m c : Nat) (hs : a.eval s = .slice A n n) (hb : By w F (.slice A n n) bs) (hx : a.eval x = .slice B m c) (he : By w S (.slice B m c) es)
    (hm : n + m ≤ 100000000)
    (hK : ∀ A' c' w', By w' (fun k => F k ∨ w.heap.size ≤ k) (.slice A' (n + m) c') (bs ++ es) → Same (fun _ => True) w w' → wpList Try.prog ops Q rest (a.put o.dst (.slice A' (n + m) c')) w') :
    wpList Try.prog ops Q (o :: rest) a w := by
  obtain ⟨A1, c1, e1, hc1, hm1, hsl1⟩ := hb
  obtain ⟨B1, c2, e2, hc2, hm2, hsl2⟩ := he
  injection e1 with e1 e1' e1''
  injection e2 with e2 e2' e2''
  subst e1 e1' e1'' e2 e2' e2''
  obtain ⟨i, hi, hz, h4, h5⟩ := info_parts T8.info
  rcases Nat.eq_zero_or_pos es.length with h0 | h0
  · have hes : es = [] := List.eq_nil_of_length_eq_zero h0
    subst hes
    have hrun : (Builtin.append_ #[24, 24] o.type #[.slice A bs.length bs.length, .slice B 0 c]).run Try.prog w = .ok (.slice A bs.length bs.length) w := by
      have hsrc : Src Try.prog i.size 24 (.slice B 0 c) 0 [] w := by
        cases B with
        | none => exact Src.ofNil w Try.underlying24 c
        | some b => exact Src.ofSlice w Try.underlying24 b 0 c [] (by simp) (by simp) (by simp)
      exact run_append_nothing w _ _ _ _ i Try.underlying24 hi A _ _ (Nat.le_refl _) _ hsrc
    refine wpList_plain hgd fun K hK' => ?_
    unfold Oper.wp
    simp only [List.length_nil] at hx
    simp [execOp, ho, resolve, invoke, builtin, hs, hx, hrun, Result.andThen]
    refine hK' _ _ (hK A bs.length w ?_ (Same.refl _ _))
    rw [List.append_nil]
    exact ⟨A, bs.length, rfl, Nat.le_refl _, hm1, hsl1.mono fun k _ h => Or.inl h⟩
  · obtain ⟨b, rfl, hSb, hcb⟩ := hsl2.2 h0
    refine wpList_append_grows w hgd s x 24 ho 5 i _ 1 1 T8.und hi hz h4 h5 T8.zs T8.pos A bs.length bs.length (cs8 bs) hs ?_ (by simp) ?_ b es.length c (cs8 es) hx (by simp) hcb (oneCell8 _) (by omega) (by simp only [maxLen]; omega) (by omega) ?_
    · intro hA
      subst hA
      rcases Nat.eq_zero_or_pos bs.length with h1 | h1
      · exact ⟨h1, h1⟩
      · obtain ⟨ad, h, _⟩ := hsl1.2 h1
        cases h
    · intro b' hA j u hu
      subst hA
      rcases Nat.eq_zero_or_pos bs.length with h1 | h1
      · have : bs = [] := List.eq_nil_of_length_eq_zero h1
        subst this
        simp at hu
      · obtain ⟨ad, h, _, hc⟩ := hsl1.2 h1
        injection h with h
        subst h
        exact hc j u hu
    · intro v' w' hown hg
      have hS := Same.ofGrown hg
      obtain ⟨A', c', rfl, hc, hcm⟩ := own_cap hown
      refine hK _ _ _ ?_ (hS.mono fun k _ _ => by simp)
      have hown' : w'.ownsRow w.heap.size 5 1 (.slice A' (bs.length + es.length) c') (bs ++ es).length (cs8 (bs ++ es)) := by
        rw [List.length_append, show cs8 (bs ++ es) = cs8 bs ++ cs8 es from List.map_append]; exact hown
      have : By w' (w.heap.size ≤ ·) (.slice A' (bs.length + es.length) c') (bs ++ es) := own_by hown'
      exact this.mono fun k _ h => Or.inr h
def APost (g r : Nat) (F : Nat → Prop) (w : World) (x : Int) (d' : DiskM) (e : Ending) (w' : World) : Prop :=
  e = .returned (.int .i64 x) ∧ (∃ F', (∀ k, F' k → F k ∨ w.heap.size ≤ k) ∧ DiskAt w' g r F' d') ∧ Same (fun k => k ≠ g ∧ k ≠ r) w w'
theorem APost.ofGrow {g r : Nat} {F : Nat → Prop} {d : DiskM} {w w' : World} {x : Int} (h : DiskAt w g r F d) (hs : Same (fun _ => True) w w') : APost g r F w x d (.returned (.int .i64 x)) w' :=
  ⟨rfl, ⟨F, fun _ h => Or.inl h, h.keepAll hs⟩, hs.mono fun _ _ _ => trivial⟩
/-- What bounds a disk within these laws. -/
structure DiskM.Fit (d : DiskM) : Prop where
  armed : -1 ≤ d.armed ∧ d.armed ≤ 9223372036854775807
  steps : d.steps < 1000000
theorem DiskM.may_zero {d : DiskM} {f : Int} (h : d.may f = 0) : f = 0 ∨ f = 1 := by
  unfold DiskM.may at h
  split at h
  · omega
  · split at h
    · assumption
    · omega
/-- A greater footprint. -/
theorem DiskAt.mono {w : World} {g r : Nat} {F F' : Nat → Prop} {d : DiskM} (h : DiskAt w g r F d) (hF : ∀ k, F k → F' k) (hF' : ∀ k, F' k → k < w.heap.size ∧ k ≠ g ∧ k ≠ r) : DiskAt w g r F' d := by
  obtain ⟨h1, h2, h3, h0, h4, sw, v0, v1, k0, k1, c, h5, h6, h7, h8, h9, h10⟩ := h
  exact ⟨h1, h2, h3, h0, hF', sw, v0, v1, k0, k1, c, h5, h6, h7, h8, h9.mono fun k _ h => hF k h, h10.mono fun k _ h => hF k h⟩
/-- What a look-up answers, and what is read there. -/
theorem DiskAt.look {w : World} {g r : Nat} {F : Nat → Prop} {d : DiskM} (h : DiskAt w g r F d) {f : Int} (hf : f = 0 ∨ f = 1) :
    ∃ A c, (Instr.lookup 72 (.map (some r)) (.int .i64 f) false).run Try.prog w = .ok (.agg #[.slice A (d.file f).b.length c, .int .i64 (d.file f).last]) w ∧ By w F (.slice A (d.file f).b.length c) (d.file f).b ∧ (d.file f).b.length ≤ c := by
  obtain ⟨-, -, -, -, -, sw, v0, v1, k0, k1, clock, hb, -, -, -, hy0, hy1⟩ := h
  have hl := look_files hb f false
  obtain ⟨A0, c0, rfl, z0⟩ := hy0
  obtain ⟨A1, c1, rfl, z1⟩ := hy1
  rcases hf with rfl | rfl
  · exact ⟨A0, c0, hl, ⟨A0, c0, rfl, z0⟩, z0.1⟩
  · exact ⟨A1, c1, hl, ⟨A1, c1, rfl, z1⟩, z1.1⟩
set_option maxRecDepth 100000 in
theorem dsync_any (g r : Nat) (F : Nat → Prop) (d : DiskM) (f : Int) (w : World) (h : DiskAt w g r F d) (hd : d.Fit) :
    Calls Try.prog 32 #[ptr g, .int .i64 f] w (APost g r F w (d.sync f).1 (d.sync f).2) := by
  have hn := dmay_any g r F d f w h
  unfold DiskM.sync
  by_cases hm : d.may f = 0
  · have hf := DiskM.may_zero hm
    rw [hm] at hn
    rw [if_neg (by simp [hm])]
    have H := Lib.hid h
    clear h
    go_enter Try.func32, Try.ntmps32
    go_wp2_with (go_at_call 34; refine hn.mono ?_; rintro e w1 ⟨rfl, hs1⟩; have h1 := H.out.keepAll hs1; have c0 := h1.1.cell 0; obtain ⟨A, c, hl, hby, hc⟩ := h1.look hf; have H1 := Lib.hid h1; have Hby := Lib.hid hby; clear h1 hby; simp at c0)
    have hsA : Same (fun _ => True) w1 (w1.alloc (.cells #[.slice A (d.file f).b.length c, .int .i64 (d.file f).b.length] 71)) := (Same.refl _ _).alloc _
    refine (dstep_any g r F d f A (d.file f).b.length c ⟨(d.file f).b, (d.file f).b.length⟩ _ (H1.out.keepAll hsA) hf (Hby.out.keepAll hsA) hd.armed hd.steps).mono ?_
    rintro e w2 ⟨rfl, hd2, hs2⟩
    go_wp2
    go_ret
    exact ⟨rfl, ⟨F, fun _ h => Or.inl h, hd2⟩, ((hs1.trans hsA).mono fun _ _ _ => trivial).trans hs2⟩
  · rw [if_pos hm]
    clear hd
    have H := Lib.hid h
    clear h
    go_enter Try.func32, Try.ntmps32
    go_wp2_with (go_at_call 34; refine hn.mono ?_; rintro e w1 ⟨rfl, hs1⟩)
    go_ret
    exact APost.ofGrow H.out hs1
set_option maxRecDepth 100000 in
theorem dclear_any (g r : Nat) (F : Nat → Prop) (d : DiskM) (f : Int) (w : World) (h : DiskAt w g r F d) (hd : d.Fit) :
    Calls Try.prog 47 #[ptr g, .int .i64 f] w (APost g r F w (d.clear f).1 (d.clear f).2) := by
  have hn := dmay_any g r F d f w h
  unfold DiskM.clear
  by_cases hm : d.may f = 0
  · have hf := DiskM.may_zero hm
    rw [hm] at hn
    rw [if_neg (by simp [hm])]
    have H := Lib.hid h
    clear h
    go_enter Try.func47, Try.ntmps47
    go_wp2_with (first
      | (go_at_call 34; refine hn.mono ?_; rintro e w1 ⟨rfl, hs1⟩; have H1 := Lib.hid (H.out.keepAll hs1))
      | (go_at_call 35; refine (dstep_any g r F d f none 0 0 ⟨[], 0⟩ _ H1.out hf ⟨none, 0, rfl, by simp, by simp [maxLen], Sl.nil _ _ _ _⟩ hd.armed hd.steps).mono ?_; rintro e w2 ⟨rfl, hd2, hs2⟩))
    go_ret
    exact ⟨rfl, ⟨F, fun _ h => Or.inl h, hd2⟩, (hs1.mono fun _ _ _ => trivial).trans hs2⟩
  · rw [if_pos hm]
    clear hd
    have H := Lib.hid h
    clear h
    go_enter Try.func47, Try.ntmps47
    go_wp2_with (go_at_call 34; refine hn.mono ?_; rintro e w1 ⟨rfl, hs1⟩)
    go_ret
    exact APost.ofGrow H.out hs1
set_option maxRecDepth 100000 in
theorem dappend_any (g r : Nat) (F S : Nat → Prop) (d : DiskM) (f : Int) (v : Value) (bs : List UInt8) (w : World) (h : DiskAt w g r F d) (hd : d.Fit) (hv : By w S v bs) (hlen : (d.file f).b.length + bs.length ≤ 4194304) :
    Calls Try.prog 13 #[ptr g, .int .i64 f, v] w (APost g r F w (d.append f bs).1 (d.append f bs).2) := by
  have hn := dmay_any g r F d f w h
  obtain ⟨B, cb, rfl, hcb, hmb, hslb⟩ := hv
  have hv : By w S (.slice B bs.length cb) bs := ⟨B, cb, rfl, hcb, hmb, hslb⟩
  have Hv := Lib.hid hv
  clear hslb hv hmb hcb
  unfold DiskM.append
  by_cases hm : d.may f = 0
  · have hf := DiskM.may_zero hm
    rw [hm] at hn
    rw [if_neg (by simp [hm])]
    have H := Lib.hid h
    clear h
    go_enter Try.func13, Try.ntmps13
    go_wp2_with (first
      | (go_at_call 34; refine hn.mono ?_; rintro e w1 ⟨rfl, hs1⟩; have h1 := H.out.keepAll hs1; have c0 := h1.1.cell 0; obtain ⟨A, c, hl, hby, hc⟩ := h1.look hf; have H1 := Lib.hid h1; have Hby := Lib.hid hby; clear h1 hby; simp at c0)
      | (at_builtin; refine stopAt ?_))
    unfold Hid
    have hsA : Same (fun _ => True) w1 (w1.alloc (.cells #[.slice A (d.file f).b.length c, .int .i64 (d.file f).last] 71)) := (Same.refl _ _).alloc _
    have hby2 : By w1 F (.slice A (d.file f).b.length (d.file f).b.length) (d.file f).b := by
      obtain ⟨A', c', e, h1, h2, h3⟩ := Hby.out
      injection e with e1 e2 e3
      subst e1
      exact ⟨_, _, rfl, Nat.le_refl _, by omega, h3⟩
    refine wpList_full rfl (.tmp 36) (.tmp 37) rfl A (d.file f).b.length (d.file f).b bs F S B bs.length cb rfl (hby2.keepAll hsA) rfl ((Hv.out.keepAll hs1).keepAll hsA) (by omega) ?_
    intro A' c' w2 hby3 hs2
    have hrow := (Row.new w1 71 [.slice A (d.file f).b.length c, .int .i64 (d.file f).last]).keep hs2 trivial
    have q0 := hrow.cell 0
    have q1 := hrow.cell 1
    have y0 := hrow.frozen 0
    simp at q0 q1
    have hz2 := hs2.size
    have hz1 := hs1.size
    simp at hz2
    have h1 := H1.out
    have hF := h1.2.2.2.2.1
    have hg1 := h1.2.1
    have hr1 := h1.2.2.1
    have hgr := h1.2.2.2.1
    have hs3 : Same (fun k => k ≠ w1.heap.size) w2 (w2.setCell ⟨w1.heap.size, 0, none⟩ (.slice A' ((d.file f).b.length + bs.length) c')) := (Same.refl _ _).setCell (fun _ h => h rfl) _
    have H4 : DiskAt (w2.setCell ⟨w1.heap.size, 0, none⟩ (.slice A' ((d.file f).b.length + bs.length) c')) g r (fun k => F k ∨ (w1.heap.size + 1 ≤ k ∧ k < w2.heap.size)) d :=
      (((h1.keepAll hsA).keepAll hs2).keep hs3 (by omega) (by omega) (fun k hk => by have := hF k hk; omega)).mono (fun k hk => Or.inl hk) (fun k hk => by
        rw [World.size_setCell]
        rcases hk with hk | hk
        · have := hF k hk; omega
        · omega)
    have hby4 : By (w2.setCell ⟨w1.heap.size, 0, none⟩ (.slice A' ((d.file f).b.length + bs.length) c')) (fun k => F k ∨ (w1.heap.size + 1 ≤ k ∧ k < w2.heap.size)) (.slice A' ((d.file f).b.length + bs.length) c') ((d.file f).b ++ bs) := by
      refine (hby3.keep (hs3.mono fun k _ hk => ?_)).mono fun k hk h => ?_
      · rcases hk with hk | hk
        · have := hF k hk; omega
        · simp at hk; omega
      · rw [World.size_setCell] at hk
        rcases h with h | h
        · exact Or.inl h
        · simp at h; exact Or.inr ⟨by omega, hk⟩
    have H4 := Lib.hid H4
    have hby4 := Lib.hid hby4
    have hs13 := Lib.hid (((hs1.trans hsA).trans hs2).trans' hs3 (fun i hi _ => by show i ≠ w1.heap.size; omega))
    clear h1 hF hs3 hby3 hrow
    go_wp2_with (go_at_call 35; refine (dstep_any g r _ d f A' ((d.file f).b.length + bs.length) c' ⟨(d.file f).b ++ bs, (d.file f).last⟩ _ H4.out hf hby4.out hd.armed hd.steps).mono ?_; rintro e w5 ⟨rfl, hd2, hs5⟩)
    go_ret
    refine ⟨rfl, ⟨_, fun k h => ?_, hd2⟩, ?_⟩
    · rcases h with h | h
      · exact Or.inl h
      · exact Or.inr (by omega)
    · exact (hs13.out.mono fun _ _ _ => trivial).trans hs5
  · rw [if_pos hm]
    clear hd
    have H := Lib.hid h
    clear h
    go_enter Try.func13, Try.ntmps13
    go_wp2_with (go_at_call 34; refine hn.mono ?_; rintro e w1 ⟨rfl, hs1⟩)
    go_ret
    exact APost.ofGrow H.out hs1
end Go.Proofs.Ytpjinngngbifoaa
namespace Go.Proofs.Ytpjinngngbifoaa
open Go.RowKit Go.ChangeMaps Go.MapKept
theorem own_lower {w : World} {B B' : Nat} {e : TypeId} {size : Nat} {v : Value} {n : Nat} {xs : List Value} (h : w.ownsRow B e size v n xs) (hb : B' ≤ B) : w.ownsRow B' e size v n xs := by
  obtain ⟨h1, h2⟩ := h
  refine ⟨h1, ?_⟩
  rcases h2 with h2 | ⟨g, cap, cur, e1, hg, h3⟩
  · exact .inl h2
  · exact .inr ⟨g, cap, cur, e1, by omega, h3⟩
@[go_sem] theorem file_b (w : World) (A : Option Addr) (n c : Nat) (l : Int) : (Instr.field 71 (.agg #[.slice A n c, .int .i64 l]) 0).run Try.prog w = .ok (.slice A n c) w := by
  simp [Instr.field, run_underlying Try.underlying71, part, isAgg, run_underlying Try.underlying24, asAgg]
def RPost (bs : List UInt8) (x : Int) (w : World) (e : Ending) (w' : World) : Prop :=
  ∃ v, e = .returned (.tuple #[v, .int .i64 x]) ∧ w'.ownsRow w.heap.size 5 1 v bs.length (cs8 bs) ∧ Same (fun _ => True) w w'
set_option maxRecDepth 100000 in
theorem dread_any (g r : Nat) (F : Nat → Prop) (d : DiskM) (f : Int) (w : World) (h : DiskAt w g r F d) (hlen : (d.file f).b.length ≤ 4194304) :
    Calls Try.prog 39 #[ptr g, .int .i64 f] w (RPost (d.read f).1 (d.read f).2 w) := by
  have hn := dmay_any g r F d f w h
  unfold DiskM.read
  by_cases hm : d.may f = 0
  · have hf := DiskM.may_zero hm
    rw [hm] at hn
    rw [if_neg (by simp [hm])]
    have H := Lib.hid h
    clear h
    go_enter Try.func39, Try.ntmps39
    go_wp2_with (first
      | (go_at_call 34; refine hn.mono ?_; rintro e w1 ⟨rfl, hs1⟩; have h1 := H.out.keepAll hs1; have c0 := (h1.keepAll ((Same.refl (fun _ => True) _).alloc (.cells #[] 5))).1.cell 0; obtain ⟨A, c, hl, hby, hc⟩ := (h1.keepAll ((Same.refl (fun _ => True) _).alloc (.cells #[] 5))).look hf; have H1 := Lib.hid h1; have Hby := Lib.hid hby; clear h1 hby; simp at c0)
      | (at_builtin; refine stopAt ?_))
    unfold Hid
    have hown := (Row.new w1 5 []).owns (base := w1.heap.size) (size := 1) (n := 0) (cap := 0) (Nat.le_refl _) (by simp) (Nat.le_refl _) (by simp [maxLen])
    obtain ⟨A', c', e, _, _, hsl⟩ := Hby.out
    injection e with e1 e2 e3
    subst e1
    refine wpList_app T8 _ rfl (.tmp 13) (.tmp 20) rfl w1.heap.size _ 0 _ rfl hown F A (d.file f).b.length c (cs8 (d.file f).b) rfl hsl (oneCell8 _) (by simp only [maxLen]; omega) (by omega) (by simp) ?_
    intro v' w2 hown2 hs2 _
    go_wp2
    go_ret2
    have hz1 := hs1.size
    refine ⟨_, rfl, own_lower (by simpa using hown2) hz1, (hs1.trans ((Same.refl _ _).alloc (.cells #[] 5))).trans' hs2 (fun k hk _ => ?_)⟩
    show some k ≠ some w1.heap.size
    intro e
    injection e with e
    omega
  · rw [if_pos hm]
    have H := Lib.hid h
    clear h
    go_enter Try.func39, Try.ntmps39
    go_wp2_with (go_at_call 34; refine hn.mono ?_; rintro e w1 ⟨rfl, hs1⟩)
    go_ret2
    exact ⟨_, rfl, World.ownsRow_nil _ _ _ _, hs1⟩
def MPost (g r : Nat) (F : Nat → Prop) (w : World) (d' : DiskM) (e : Ending) (w' : World) : Prop :=
  e = .returned (.tuple #[]) ∧ DiskAt w' g r F d' ∧ Same (fun k => k ≠ g ∧ k ≠ r) w w'
theorem DiskAt.armed_ {w : World} {g r : Nat} {F : Nat → Prop} {d : DiskM} (h : DiskAt w g r F d) (n : Int) : DiskAt (w.setCell ⟨g, 1, none⟩ (.int .i64 n)) g r F { d with armed := n } := by
  obtain ⟨h1, h2, h3, h0, h4, sw, v0, v1, k0, k1, c, h5, h6, h7, h8, h9, h10⟩ := h
  have hS : Same (fun k => k ≠ g) w (w.setCell ⟨g, 1, none⟩ (.int .i64 n)) := (Same.refl _ _).setCell (fun _ h => h rfl) _
  refine ⟨h1.set_ 1 _, by simpa using h2, by simpa using h3, h0, fun k hk => by simpa using h4 k hk, sw, v0, v1, k0, k1, c, (hS.block r h3 (Ne.symm h0)).trans h5, h6, h7, h8,
    h9.keep (hS.mono fun k _ hk => (h4 k hk).2.1), h10.keep (hS.mono fun k _ hk => (h4 k hk).2.1)⟩
theorem darm_any (g r : Nat) (F : Nat → Prop) (d : DiskM) (n : Int) (w : World) (h : DiskAt w g r F d) :
    Calls Try.prog 24 #[ptr g, .int .i64 n] w (MPost g r F w (d.arm n)) := by
  have hn := dnone_any g r F d w h
  have c1 := h.1.cell 1
  have z1 := h.1.frozen 1
  have H := Lib.hid h
  simp at c1
  clear h
  go_enter Try.func24, Try.ntmps24
  go_wp2_with (go_at_call 45; refine hn.mono ?_; rintro e w1 ⟨rfl, rfl⟩)
  all_goals go_end0
  · have e : d.arm n = { d with armed := -1 } := by simp only [DiskM.arm]; congr; omega
    rw [e]
    exact ⟨rfl, H.out.armed_ (-1), (Same.refl _ _).setCell (fun _ h => h.1 rfl) _⟩
  · have e : d.arm n = { d with armed := n } := by simp only [DiskM.arm]; congr; omega
    rw [e]
    exact ⟨rfl, H.out.armed_ n, (Same.refl _ _).setCell (fun _ h => h.1 rfl) _⟩
theorem dlives_any (g r : Nat) (F : Nat → Prop) (d : DiskM) (w : World) (h : DiskAt w g r F d) :
    Calls Try.prog 38 #[ptr g] w fun e w' => e = .returned (.int .i64 d.lives) ∧ w = w' := by
  have hn := dnone_any g r F d w h
  have c2 := h.1.cell 3
  simp at c2
  clear h
  go_enter Try.func38, Try.ntmps38
  go_wp2_with (go_at_call 45; refine hn.mono ?_; rintro e w1 ⟨rfl, rfl⟩)
  go_ret
  exact ⟨rfl, rfl⟩
end Go.Proofs.Ytpjinngngbifoaa
namespace Go.Proofs.Ytpjinngngbifoaa
open Go.RowKit Go.ChangeMaps Go.MapKept
theorem stopIns {w : World} {ops : Array Oper} {rest : List Oper} {o : Oper} {a : Act} {Q : Exit → Act → World → Prop} {t : TypeId} {m x v : Operand}
    (_ho : o.op = .insert t m x v) (h : Hid (wpList Try.prog ops Q (o :: rest) a w)) : wpList Try.prog ops Q (o :: rest) a w := h
theorem run_ins {w : World} {r : Nat} {es : Array MapEntry} {clock : Nat} (hb : w.heap[r]? = some (.map es clock)) (f : Int) (v : Value) (hfn : Instr.findNow (.int .i64) (.int .i64 f) es.toList 0 = some none) :
    (Instr.mapUpdate 72 (.map (some r)) (.int .i64 f) v).run Try.prog w = .ok () (setBlock w r (.map (es.push ⟨.int .i64 f, v, clock⟩) (clock + 1))) := by
  have hk : ∀ e, (Instr.checkKey e 10000 3 (.int .i64 f)).run Try.prog w = .ok () w := fun e => run_checkKey Try.underlying3 (key_int f) e 9999
  have hff : (Instr.findKey 3 (.int .i64 f) es.toList).run Try.prog w = .ok none w := run_findKey Try.underlying3 hfn
  have hg := Go.MapKept.run_getObj_map (P := Try.prog) hb
  have ho := fun o => Go.MapKept.run_setObj_map (P := Try.prog) o hb
  simp [Instr.mapUpdate, run_underlying Try.underlying72, hg, hk, hff, ho, setBlock, Result.andThen]
/-- A new key laid into the map of files, at the operation. -/
theorem wpList_ins {w : World} {ops : Array Oper} {rest : List Oper} {o : Oper} {a : Act} {Q : Exit → Act → World → Prop} (hgd : o.guard = none) (m x v : Operand)
    (hop : o.op = Op.insert 72 m x v ∨ o.op = Op.mapUpdate 72 m x v) (r : Nat) (f : Int) (v' : Value) (hm : a.eval m = .map (some r)) (hx : a.eval x = .int .i64 f) (hv : a.eval v = v')
    {es : Array MapEntry} {clock : Nat} (hb : w.heap[r]? = some (.map es clock)) (hfn : Instr.findNow (.int .i64) (.int .i64 f) es.toList 0 = some none)
    (hK : wpList Try.prog ops Q rest (a.put o.dst undef) (setBlock w r (.map (es.push ⟨.int .i64 f, v', clock⟩) (clock + 1)))) :
    wpList Try.prog ops Q (o :: rest) a w := by
  refine wpList_plain hgd fun K' hK' => ?_
  unfold Oper.wp
  rcases hop with hop | hop <;> simp [execOp, hop, hm, hx, hv, run_ins hb f v' hfn, Result.andThen] <;> exact hK' _ _ hK
def NewPost (w : World) (e : Ending) (w' : World) : Prop := ∃ g r, e = .returned (ptr g) ∧ w.heap.size ≤ g ∧ w.heap.size ≤ r ∧ DiskAt w' g r (fun _ => False) DiskM.new ∧ Same (fun _ => True) w w'
theorem dnew_any (w : World) : Calls Try.prog 12 #[] w (NewPost w) := by
  have hmm := @run_makeMap Try.prog
  go_enter Try.func12, Try.ntmps12
  go_wp2_with (with_reducible refine stopIns rfl ?_)
  unfold Hid
  refine wpList_ins (es := #[]) (clock := 0) rfl (.tmp 1) (.const (.int .i64 0)) (.tmp 2) (.inl rfl) w.heap.size 0 _ rfl rfl rfl (heap_alloc_new w _) rfl ?_
  generalize hW : setBlock _ _ _ = W1
  go_wp2_with (with_reducible refine stopIns rfl ?_)
  unfold Hid
  have hW1 : W1.heap[w.heap.size]? = some (.map #[⟨.int .i64 0, .agg #[.slice none 0 0, .int .i64 0], 0⟩] 1) := by rw [← hW]; exact heap_setBlock _ (by simp)
  have hS1 : Same (fun _ => True) w W1 := hW ▸ ((Same.refl _ _).alloc _).trans' (same_setBlock _ _ _) (fun k hk _ => by show k ≠ w.heap.size; omega)
  have hz1 : w.heap.size + 1 = W1.heap.size := by rw [← hW]; simp [setBlock]
  clear hW
  refine wpList_ins rfl (.tmp 1) (.const (.int .i64 1)) (.tmp 3) (.inl rfl) w.heap.size 1 _ rfl rfl rfl hW1 rfl ?_
  generalize hW2 : setBlock _ _ _ = W2
  have hW2' : W2.heap[w.heap.size]? = some (mapOf false (.slice none 0 0) (.slice none 0 0) 0 0 0 1 2) := by rw [← hW2]; exact heap_setBlock _ (by omega)
  have hS2 : Same (fun _ => True) w W2 := hW2 ▸ hS1.trans' (same_setBlock _ _ _) (fun k hk _ => by show k ≠ w.heap.size; omega)
  have hz2 : w.heap.size + 1 = W2.heap.size := by rw [← hW2]; simpa [setBlock] using hz1
  clear hW2 hW1 hS1 hz1
  go_wp2
  go_ret
  have hnil : ∀ w : World, By w (fun _ => False) (.slice none 0 0) [] := fun w => ⟨none, 0, rfl, by simp, by simp [maxLen], Sl.nil _ _ _ _⟩
  refine ⟨W2.heap.size, w.heap.size, rfl, by omega, Nat.le_refl _, ⟨Row.new _ _ _, by simp, by simp; omega, by omega, fun k h => h.elim, false, _, _, 0, 1, 2, (heap_old hW2').trans rfl, by omega, by omega, by omega, hnil _, hnil _⟩, hS2.alloc _⟩
end Go.Proofs.Ytpjinngngbifoaa
