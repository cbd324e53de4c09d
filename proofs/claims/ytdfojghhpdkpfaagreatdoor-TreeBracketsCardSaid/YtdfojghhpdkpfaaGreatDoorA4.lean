/-
  Words, plain models, laws and walks that the claims of this layer share (joined by shake.py). No condition.
-/
import Derived.Test.YtdfojghhpdkpfaaGreatDoorA3
set_option linter.unusedSimpArgs false
set_option linter.unusedVariables false
namespace Go.Proofs.YtdfojghhpdkpfaaGreatDoor
open Go.RowKit
def Shal (x : PR Dp) : Prop := ∀ d l, x = .ok (d, l) → d.n ≤ 16
theorem op_shal (pl : Nat) (s : List UInt8) (args : List Dp) (l : List PT) : Shal (opT pl s args l) := by
  intro d l' h
  unfold opT at h
  split at h
  · cases h
  · injection h with h; injection h with h _; subst h; dsimp only; omega
theorem then_shal {α : Type} {x : PR α} {f : α → List PT → PR Dp} (hf : ∀ a l, Shal (f a l)) : Shal (thenT x f) := by
  intro d l h
  obtain ⟨a, l1, _, h2⟩ := thenT_inv h
  exact hf a l1 d l h2
theorem chain_shal (f : List PT → PR Dp) (signs : List (List UInt8)) : ∀ (k : Nat) (d : Dp) (l : List PT), d.n ≤ 16 → Shal (chainT f signs k d l)
  | 0, d, l, h => by rintro d' l' ⟨⟩; exact h
  | k + 1, d, l, h => by
    unfold chainT
    split
    · intro d' l' h'
      obtain ⟨d2, l2, _, h2⟩ := thenT_inv h'
      obtain ⟨d3, l3, h3, h4⟩ := thenT_inv h2
      exact chain_shal f signs k d3 l3 (op_shal _ _ _ _ _ _ h3) d' l' h4
    · rintro d' l' ⟨⟩; exact h
theorem run_shal {f : List PT → PR Dp} (hf : ∀ l, Shal (f l)) (signs : List (List UInt8)) (l : List PT) : Shal (runT f signs l) := by
  intro d l' h
  obtain ⟨d1, l1, h1, h2⟩ := thenT_inv h
  exact chain_shal f signs _ d1 l1 (hf l _ _ h1) d l' h2
theorem leaf_shal (v : Val) (l : List PT) : Shal (.ok (leafV v, l)) := by rintro d l' ⟨⟩; show 1 ≤ 16; omega
theorem step_shal {f : Rl → List PT → PR Dp} (hf : ∀ r l, Shal (f r l)) (r : Rl) (l : List PT) : Shal (stepT f r l) := by
  cases r with
  | or => exact run_shal (hf _) _ l
  | and => exact run_shal (hf _) _ l
  | sum => exact run_shal (hf _) _ l
  | prod => exact run_shal (hf _) _ l
  | not =>
    simp only [stepT]
    split
    · exact then_shal fun d l1 => op_shal _ _ _ _
    · exact hf _ _
  | cmp =>
    simp only [stepT]
    intro d l' h
    obtain ⟨d1, l1, h1, h2⟩ := thenT_inv h
    split at h2
    · exact then_shal (fun d2 l2 => op_shal _ _ _ _) _ _ h2
    · split at h2
      · split at h2
        · exact then_shal (fun d2 l2 => op_shal _ _ _ _) _ _ h2
        · exact then_shal (fun d2 l2 => op_shal _ _ _ _) _ _ h2
      · injection h2 with h2; injection h2 with h2 _; subst h2; exact hf _ _ _ _ h1
  | unary =>
    simp only [stepT]
    split
    · exact then_shal fun d l1 => op_shal _ _ _ _
    · split
      · intro d l' h
        obtain ⟨d1, l1, h1, h2⟩ := thenT_inv h
        obtain ⟨_, l2, _, h3⟩ := thenT_inv h2
        injection h3 with h3; injection h3 with h3 _; subst h3; exact hf _ _ _ _ h1
      · split
        · exact leaf_shal _ _
        · split
          · exact leaf_shal _ _
          · split
            · exact leaf_shal _ _
            · split
              · exact leaf_shal _ _
              · split
                · exact leaf_shal _ _
                · exact then_shal fun s l1 => by rintro d l' ⟨⟩; show 1 ≤ 16; omega
theorem rule_shal : ∀ (n : Nat) (r : Rl) (l : List PT), Shal (ruleT n r l)
  | 0, r, l => by intro d l' h; cases h
  | n + 1, r, l => step_shal (rule_shal n) r l
def DpG (B : Nat) (d : Dp) (w : World) (v : Value) : Prop := ∃ u, v = dpV u d ∧ ExR w (fun q => B ≤ q) u d.e
/-- The rule that is the function value f reads as F does, where o rules are open. -/
def RuleC (g t o : Nat) (f : Value) (F : List PT → PR Dp) : Prop := ∀ (l : List PT) (w : World), PS w g t l o → Calls Tryz.prog 128 #[pV g, f] w (DoP g t o (F l) (DpG w.heap.size) w)
theorem size_set (w : World) (p : Addr) (v : Value) : (w.setCell p v).heap.size = w.heap.size := by simp [World.setCell]
def zdp : List Value := [.int .i64 0, .string ⟨#[]⟩, .int .i64 0, .int .i64 0, .string ⟨#[]⟩, .slice none 0 0, .int .i64 0]
theorem DoP.err {α : Type} {g t o : Nat} {p : PE} {good : α → World → Value → Prop} {w w1 w' : World} {S : Nat → Prop} {e : Ending} (h : FailP g p w1 e w') (hs : Same S w w1) (hS : ∀ k, k ≠ g → S k := by intros; trivial) : DoP g t o (.error p : PR α) good w e w' := h.after hs hS
/-- How many tokens the parser has. -/
def tokLen (w : World) (g : Nat) : Nat := match w.cell? ⟨g, 0, none⟩ with
  | some (.slice _ n _) => n
  | _ => 0
theorem PS.len {w : World} {g t : Nat} {l : List PT} {o : Nat} (h : PS w g t l o) : tokLen w g = l.length := by
  obtain ⟨off, c, hrow, _⟩ := h.open_
  unfold tokLen
  rw [hrow.cell 0]
  rfl
def valT (x : PR Dp) : Dp := match x with
  | .ok (d, _) => d
  | .error _ => ⟨.zero, 0⟩
def leftT (x : PR Dp) : List PT := match x with
  | .ok (_, l) => l
  | .error _ => []
/-- What a region holds in which a rule reads and an operator is made: where the parser is, and what lies in row gd. -/
def RegS (g t o gd B : Nat) (l0 l1 : List PT) (L0 : List Value) (d3 : Dp) (ok : Prop) (b6 b9 : Bool) (W : World) : Prop :=
  PS W g t (cond b6 l1 l0) o ∧ (b9 = false → Row W gd 155 L0) ∧ (b9 = true → ok ∧ ∃ u, Row W gd 155 (dpCs u d3) ∧ ExR W (fun q => B ≤ q ∧ q ≠ gd) u d3.e)
theorem RegS.keep {g t o gd B : Nat} {l0 l1 : List PT} {L0 : List Value} {d3 : Dp} {ok : Prop} {b6 b9 : Bool} {W W' : World} (h : RegS g t o gd B l0 l1 L0 d3 ok b6 b9 W) (hs : Same (fun _ => True) W W') : RegS g t o gd B l0 l1 L0 d3 ok b6 b9 W' :=
  ⟨h.1.keep hs, fun e => (h.2.1 e).keep hs trivial, fun e => let ⟨a, u, b, c⟩ := h.2.2 e; ⟨a, u, b.keep hs trivial, c.keepAll hs⟩⟩
abbrev TR (g gd : Nat) : Nat → Prop := fun q => q ≠ g ∧ q ≠ gd
def RuS (g gd B : Nat) (hg : g < B) (x : PR Dp) : SPT (TR g gd) :=
  ⟨fun v w => ∃ u, v = dpV u (valT x) ∧ ExR w (fun q => B ≤ q ∧ q ≠ gd) u (valT x).e ∧ x = .ok (valT x, leftT x), fun _ _ _ ⟨u, h1, h2, h3⟩ hs => ⟨u, h1, h2.keep (hs.mono fun q _ h => ⟨by have := h.1; omega, h.2⟩), h3⟩⟩
def SlS (g gd B : Nat) (hg : g < B) (ds : List Dp) (ok : Prop) : SPT (TR g gd) :=
  ⟨fun v w => DpR w (fun q => B ≤ q ∧ q ≠ gd) v ds ∧ ok, fun _ _ _ ⟨⟨us, h1, h2, h3⟩, ho⟩ hs => ⟨⟨us, h1, RowR.keep h2 (hs.mono fun q _ h => ⟨by have := h.1; omega, h.2⟩), fun i u d a b => (h3 i u d a b).keep (hs.mono fun q _ h => ⟨by have := h.1; omega, h.2⟩)⟩, ho⟩⟩
def OpS (g gd B : Nat) (hg : g < B) (d3 : Dp) (ok : Prop) : SPT (TR g gd) :=
  ⟨fun v w => ∃ u, v = dpV u d3 ∧ ExR w (fun q => B ≤ q ∧ q ≠ gd) u d3.e ∧ ok, fun _ _ _ ⟨u, h1, h2, h3⟩ hs => ⟨u, h1, h2.keep (hs.mono fun q _ h => ⟨by have := h.1; omega, h.2⟩), h3⟩⟩
theorem DpR.one {w : World} {S : Nat → Prop} {u : Value} {d : Dp} (hu : ExR w S u d.e) (hS : S w.heap.size) (hS' : ∀ q, S q → S q := fun _ h => h) : DpR (w.alloc (.cells (dpCs u d).toArray 155)) S (.slice (some ⟨w.heap.size, 0, none⟩) 1 1) [d] := by
  have hr := Row.new w 155 (dpCs u d)
  have hs := (Same.refl (fun _ => True) w).alloc (.cells (dpCs u d).toArray 155)
  refine ⟨[u], rfl, ⟨_, 1, rfl, Nat.le_refl _, by simp [maxLen], rfl, fun _ => ⟨_, rfl, hS, fun j v hv => ?_⟩⟩, fun i u' d' h1 h2 => ?_⟩
  · rw [add_none, hr.cell]
    simpa [dpP] using hv
  · cases i with
    | zero => simp at h1 h2; subst h1 h2; exact hu.keepAll hs
    | succ i => simp at h1
theorem DpR.two {w : World} {S : Nat → Prop} {u1 u2 : Value} {d1 d2 : Dp} (h1 : ExR w S u1 d1.e) (h2 : ExR w S u2 d2.e) (hS : S w.heap.size) : DpR (w.alloc (.cells (dpCs u1 d1 ++ dpCs u2 d2).toArray 155)) S (.slice (some ⟨w.heap.size, 0, none⟩) 2 2) [d1, d2] := by
  have hr := Row.new w 155 (dpCs u1 d1 ++ dpCs u2 d2)
  have hs := (Same.refl (fun _ => True) w).alloc (.cells (dpCs u1 d1 ++ dpCs u2 d2).toArray 155)
  refine ⟨[u1, u2], rfl, ⟨_, 2, rfl, Nat.le_refl _, by simp [maxLen], rfl, fun _ => ⟨_, rfl, hS, fun j v hv => ?_⟩⟩, fun i u' d' k1 k2 => ?_⟩
  · rw [add_none, hr.cell]
    simpa [dpP] using hv
  · match i, k1, k2 with
    | 0, k1, k2 => simp at k1 k2; subst k1 k2; exact h1.keepAll hs
    | 1, k1, k2 => simp at k1 k2; subst k1 k2; exact h2.keepAll hs
    | i + 2, k1, k2 => simp at k1
theorem rule_results {W : World} {k : Nat} {u : Value} {d : Dp} (R : Row W k 155 (dpCs u d)) {tmps : Array Value} (h1 : tmps.getD 4 undef = .pointer (some ⟨k, 0, none⟩)) :
    (results Tryz.f128 tmps).run Tryz.prog W = .ok (dpV u d) W := by
  have d0 : W.cell? ⟨k, 0, none⟩ = some (.int .i64 d.e.kind) := R.cell 0
  have d1 : W.cell? ⟨k, 1, none⟩ = some (.string (str d.e.s)) := R.cell 1
  have d2 : W.cell? ⟨k, 2, none⟩ = some (.int .i64 d.e.v.kind) := R.cell 2
  have d3 : W.cell? ⟨k, 3, none⟩ = some (.int .i64 d.e.v.n) := R.cell 3
  have d4 : W.cell? ⟨k, 4, none⟩ = some (.string (str d.e.v.s)) := R.cell 4
  have d5 : W.cell? ⟨k, 5, none⟩ = some u := R.cell 5
  have d6 : W.cell? ⟨k, 6, none⟩ = some (.int .i64 d.n) := R.cell 6
  simp at h1
  simp [results, Tryz.results128, h1, go_sem, d0, d1, d2, d3, d4, d5, d6]
theorem chain_results {W : World} {k : Nat} {u : Value} {d : Dp} (R : Row W k 155 (dpCs u d)) {tmps : Array Value} (h1 : tmps.getD 6 undef = .pointer (some ⟨k, 0, none⟩)) :
    (results Tryz.f134 tmps).run Tryz.prog W = .ok (dpV u d) W := by
  have d0 : W.cell? ⟨k, 0, none⟩ = some (.int .i64 d.e.kind) := R.cell 0
  have d1 : W.cell? ⟨k, 1, none⟩ = some (.string (str d.e.s)) := R.cell 1
  have d2 : W.cell? ⟨k, 2, none⟩ = some (.int .i64 d.e.v.kind) := R.cell 2
  have d3 : W.cell? ⟨k, 3, none⟩ = some (.int .i64 d.e.v.n) := R.cell 3
  have d4 : W.cell? ⟨k, 4, none⟩ = some (.string (str d.e.v.s)) := R.cell 4
  have d5 : W.cell? ⟨k, 5, none⟩ = some u := R.cell 5
  have d6 : W.cell? ⟨k, 6, none⟩ = some (.int .i64 d.n) := R.cell 6
  simp at h1
  simp [results, Tryz.results134, h1, go_sem, d0, d1, d2, d3, d4, d5, d6]
set_option maxRecDepth 100000 in
set_option maxHeartbeats 2000000 in
/-- A rule opens, the function's own part is done, it closes. -/
theorem rule_any (g t o : Nat) (ho : o < 200) (fm : FuncId) (hen : ∀ (args : Array Value) (w : World), (callFunc fm args).run Tryz.prog w = .ok (.enter fm args) w) (F : List PT → PR Dp) (hF : ∀ (l : List PT) (w : World), PS w g t l (o + 1) → Calls Tryz.prog fm #[pV g] w (DoP g t (o + 1) (F l) (DpG w.heap.size) w)) : RuleC g t o (.func (.func fm) #[pV g] #[]) F := by
  intro l w h
  have H := Lib.hid h
  have hg := h.lt
  obtain ⟨off, c, hrow, -⟩ := h.open_
  have b1 := hrow.cell 1
  simp only [List.getElem?_cons_zero, List.getElem?_cons_succ] at b1
  have f1 := hrow.frozen 1
  have ho1 : (0 : Int) ≤ (o : Int) := by omega
  have ho2 : ¬ (200 : Int) < (o : Int) + 1 := by omega
  have hp0 := (h.opened (o' := o + 1) (by omega) (v := .int .i64 ((o : Int) + 1)) (by simp)).keep ((Same.refl (fun _ => True) _).alloc (.cells zdp.toArray 155))
  have hS0 : Same (fun q => q ≠ g) w ((w.setCell ⟨g, 1, none⟩ (.int .i64 ((o : Int) + 1))).alloc (.cells zdp.toArray 155)) := ((Same.refl _ w).setCell (fun _ h => h rfl) _).alloc _
  have r0 := Row.new (w.setCell ⟨g, 1, none⟩ (.int .i64 ((o : Int) + 1))) 155 zdp
  have hz0 : ((w.setCell ⟨g, 1, none⟩ (.int .i64 ((o : Int) + 1))).alloc (.cells zdp.toArray 155)).heap.size = w.heap.size + 1 := by rw [World.size_alloc, size_set]
  have r0 : Row ((w.setCell ⟨g, 1, none⟩ (.int .i64 ((o : Int) + 1))).alloc (.cells zdp.toArray 155)) w.heap.size 155 zdp := by rw [size_set] at r0; exact r0
  clear h hrow
  go_enter Tryz.func128, Tryz.ntmps128
  go_wp2
  simp only [zdp] at hp0 hS0 r0 hz0
  revert hp0 hS0 r0 hz0
  generalize (w.setCell _ _).alloc _ = w0
  intro hp0 hS0 hz0 r0
  have h1 := hF l w0 hp0
  refine h1.mono ?_
  clear h1
  intro e w1 h1
  cases hx : F l with
  | error p =>
    rw [hx] at h1
    obtain ⟨rfl, hS1⟩ := h1
    exact ⟨rfl, DoP.err ⟨rfl, hS1⟩ hS0 fun _ h => h⟩
  | ok q =>
    obtain ⟨d, l1⟩ := q
    rw [hx] at h1
    obtain ⟨v, rfl, ⟨u, rfl, hex⟩, hp1, hS1⟩ := h1
    obtain ⟨Au, cu, rfl, -, -⟩ := hex.toL.form
    generalize d.e.args.length = nu at *
    have hg1 := hp1.lt
    obtain ⟨off1, c1, hrow1, -⟩ := hp1.open_
    have b1 := hrow1.cell 1
    simp only [List.getElem?_cons_zero, List.getElem?_cons_succ] at b1
    rw [show ((o + 1 : Nat) : Int) = (o : Int) + 1 from by omega] at b1
    have f1 := hrow1.frozen 1
    have r1 := r0.keep hS1 (by omega)
    have hz1 := hS1.size
    have q0 := r1.cell 0
    have q1 := r1.cell 1
    have q2 := r1.cell 2
    have q3 := r1.cell 3
    have q4 := r1.cell 4
    have q5 := r1.cell 5
    have q6 := r1.cell 6
    simp only [dpCs, zdp, List.getElem?_cons_zero, List.getElem?_cons_succ] at q0 q1 q2 q3 q4 q5 q6
    have x0 := r1.frozen 0
    have x1 := r1.frozen 1
    have x2 := r1.frozen 2
    have x3 := r1.frozen 3
    have x4 := r1.frozen 4
    have x5 := r1.frozen 5
    have x6 := r1.frozen 6
    have zr := r1.lt
    have HX := Lib.hid hx
    have HE := Lib.hid hex
    have HP1 := Lib.hid hp1
    have HS1 := Lib.hid (hS0.trans hS1)
    have R1 := Lib.hid r1
    clear hx hex hp1 hS0 hS1 r1 r0 hrow1 hp0
    obtain ⟨l3, l4, l5⟩ := H.out.lt3
    have hp2 := HP1.out.opened (o' := o) (by omega) (v := .int .i64 (o : Int)) rfl
    have hs2 : Same (fun q => q ≠ g) w1 (w1.setCell ⟨g, 1, none⟩ (.int .i64 (o : Int))) := (Same.refl _ _).setCell (fun _ h => h rfl) _
    have hs3 : Same (fun q => q ≠ w.heap.size) (w1.setCell ⟨g, 1, none⟩ (.int .i64 (o : Int))) (setsW (w1.setCell ⟨g, 1, none⟩ (.int .i64 (o : Int))) w.heap.size 0 (dpCs (.slice Au nu cu) d)) := Same.sets (fun h => h rfl) _ 0 (Same.refl _ _)
    have hs4 := (Same.refl (fun _ => True) (setsW (w1.setCell ⟨g, 1, none⟩ (.int .i64 (o : Int))) w.heap.size 0 (dpCs (.slice Au nu cu) d))).alloc (.cells (dpCs (.slice Au nu cu) d).toArray 155)
    have hp4 := (hp2.keepB hs3 (by omega) (by omega) (by omega)).keep hs4
    have hr4 := ((R1.out.keep hs2 (by omega)).sets (dpCs (.slice Au nu cu) d) 0).keep hs4 trivial
    have hx4 := ((HE.out.keep (hs2.mono fun q _ (h : w0.heap.size ≤ q) => by omega)).keep (hs3.mono fun q _ (h : w0.heap.size ≤ q) => by omega)).keepAll hs4
    have hS4 : Same (fun q => q ≠ g) w (setsW (w1.setCell ⟨g, 1, none⟩ (.int .i64 (o : Int))) w.heap.size 0 (dpCs (.slice Au nu cu) d)) := Same.sets' (Nat.le_refl _) _ 0 (HS1.out.trans hs2)
    have HP4 := Lib.hid hp4
    have HR4 := Lib.hid hr4
    have HX4 := Lib.hid (hx4.mono (S' := fun q => w.heap.size ≤ q) fun q _ (h : w0.heap.size ≤ q) => by omega)
    have HS4 := Lib.hid (hS4.trans (hs4.mono fun _ _ _ => trivial))
    clear hp2 hs2 hs3 hs4 hp4 hr4 hx4 hS4
    go_wp2
    refine bodyPost_ret (rule_results (u := .slice Au nu cu) (d := d) (show Row _ _ _ (dpCs (.slice Au nu cu) d) from HR4.out) rfl) rfl ?_
    rw [HX.out]
    exact ⟨_, rfl, ⟨_, rfl, HX4.out⟩, HP4.out, HS4.out⟩
set_option maxRecDepth 100000 in
set_option maxHeartbeats 4000000 in
theorem chain_any (g t o : Nat) (fv : Value) (F : List PT → PR Dp) (hR : RuleC g t o fv F) (h16 : ∀ l, Shal (F l)) (hfit : ∀ l, EndOk l → Fit l (F l)) (ss : List (List UInt8)) (v : Value) (l : List PT) (w : World) (h : PS w g t l o) (hv : StrR w (fun q => q ≠ g) v ss) :
    Calls Tryz.prog 134 #[pV g, fv, v] w (DoP g t o (runT F ss l) (DpG w.heap.size) w) := by
  obtain ⟨l3, l4, l5⟩ := h.lt3
  have Hv := Lib.hid (RowR.mono hv (by omega) (S' := fun q => q ≠ g ∧ q < w.heap.size) fun k hk h => ⟨h, hk⟩)
  have hS0 := (Same.refl (fun _ => True) w).alloc (.cells zdp.toArray 155)
  have r0 := Row.new w 155 zdp
  have hz0 : (w.alloc (.cells zdp.toArray 155)).heap.size = w.heap.size + 1 := by simp
  have hp0 := h.keep hS0
  have HR := Lib.hid hR
  have H16 := Lib.hid h16
  have Hfit := Lib.hid hfit
  have H := Lib.hid h
  clear h hv hR h16 hfit
  go_enter Tryz.func134, Tryz.ntmps134
  go_wp2_with (go_at_call 128; refine stopAt ?_)
  unfold Hid
  simp only [zdp] at hp0 hS0 r0 hz0
  revert hp0 hS0 r0 hz0
  generalize w.alloc _ = w0
  intro hS0 r0 hz0 hp0
  have h1 := HR.out l w0 hp0
  refine h1.mono ?_
  clear h1
  intro e w1 h1
  cases hx : F l with
  | error p =>
    rw [hx] at h1
    obtain ⟨rfl, hS1⟩ := h1
    have hd : DoP g t o (runT F ss l) (DpG w.heap.size) w (.panicked [{ v := failV p.1 p.2, recovered := false }]) w1 := by
      unfold runT
      rw [hx]
      exact DoP.err ⟨rfl, hS1⟩ hS0
    exact ⟨rfl, hd⟩
  | ok q =>
    obtain ⟨d, l1⟩ := q
    rw [hx] at h1
    obtain ⟨v1, rfl, ⟨u, rfl, hex⟩, hp1, hS1⟩ := h1
    obtain ⟨Au, cu, rfl, -, -⟩ := hex.toL.form
    generalize d.e.args.length = nu at *
    have hd16 := H16.out l d l1 hx
    obtain ⟨X, hX⟩ : ∃ X, X = runT F ss l := ⟨_, rfl⟩
    have hX1 : chainT F ss l1.length d l1 = X := by rw [hX]; unfold runT; rw [hx]; rfl
    have hz1 := hS1.size
    have r1 := r0.keep hS1 (by omega)
    have rd := Row.new w1 155 (dpCs (.slice Au nu cu) d)
    have hSd := (Same.refl (fun _ => True) w1).alloc (.cells (dpCs (.slice Au nu cu) d).toArray 155)
    have hzd : (w1.alloc (.cells (dpCs (.slice Au nu cu) d).toArray 155)).heap.size = w1.heap.size + 1 := by simp
    have HX := Lib.hid hX1
    have HXd := Lib.hid hX
    have HS1 := Lib.hid ((hS0.mono (S' := fun q => q ≠ g) fun _ _ _ => trivial).trans hS1)
    have HE := Lib.hid (hex.mono (S' := fun q => w.heap.size + 1 ≤ q ∧ q < w1.heap.size) fun q hq (h : w0.heap.size ≤ q) => ⟨by omega, hq⟩)
    have HP := Lib.hid hp1
    have R1 := Lib.hid r1
    clear hx hX hX1 hex hp1 hS0 hS1 r0 r1 hp0
    go_wp2_with (go_at_call 38; refine stopAt ?_)
    simp only [dpCs] at rd hSd hzd
    revert rd hSd hzd
    generalize w1.alloc _ = w2
    intro rd hSd hzd
    obtain ⟨gd, hgd⟩ : ∃ gd, gd = w1.heap.size := ⟨_, rfl⟩
    rw [← hgd] at rd hzd HE ⊢
    have HP2 := Lib.hid (HP.out.keep hSd)
    have HE2 := Lib.hid ((HE.out.mono (S' := fun q => w.heap.size + 1 ≤ q ∧ q ≠ gd) fun q _ h => ⟨h.1, by have := h.2; omega⟩).keepAll hSd)
    have HRD := Lib.hid rd
    have HR2 := Lib.hid (R1.out.keep hSd trivial)
    have HS2 := Lib.hid (HS1.out.trans (hSd.mono (S' := fun q => q ≠ g) fun _ _ _ => trivial))
    have hgw : w.heap.size + 1 ≤ gd := by omega
    clear rd hSd HE R1 hgd
    go_loopw [] (fun wr => ∃ (k : Nat) (d : Dp) (l' : List PT) (u : Value), chainT F ss k d l' = X ∧ l'.length ≤ k ∧ d.n ≤ 16 ∧ PS wr g t l' o ∧ Row wr gd 155 (dpCs u d) ∧ ExR wr (fun q => w.heap.size + 1 ≤ q ∧ q ≠ gd) u d.e ∧ Same (fun q => q ≠ g ∧ q ≠ gd) w2 wr) (fun wr => tokLen wr g)
    case atStart => exact ⟨_, d, l1, _, HX.out, Nat.le_refl _, hd16, HP2.out, HRD.out, HE2.out, Same.refl _ _⟩
    case round =>
      obtain ⟨k, d, l', u, hX, hk, hd16, hp, hr, hex, hS⟩ := hrel
      clear HX HP2 HRD HE2 HP
      obtain ⟨Au, cu, rfl, -, -⟩ := hex.toL.form
      generalize d.e.args.length = nu at *
      have hzr := hS.size
      have hrr := HR2.out.keep hS (by omega)
      have hS3 : Same (fun q => q ≠ g) w wr := HS2.out.trans' hS fun q hq h => ⟨h, by omega⟩
      have hb := begins_any g t l' o ss v _ wr hp (RowR.keep (S := fun q => q ≠ g ∧ q < w.heap.size) Hv.out (hS3.mono fun q _ h => h.1))
      have HRR := Lib.hid hrr
      have HRD := Lib.hid hr
      have HE := Lib.hid hex
      have HS := Lib.hid hS
      have HS3 := Lib.hid hS3
      have HP := Lib.hid hp
      have HPw := HP
      have Hk := Lib.hid hk
      clear hr hex hS hS3 hrr
      cases hq : beginsT ss l'
      · rw [hq] at hb
        have hXe : X = .ok (d, l') := by
          rw [← hX]
          cases k with
          | zero => rfl
          | succ k => unfold chainT; rw [hq]; rfl
        have HXe := Lib.hid hXe
        clear hX hXe hq hp
        go_wp2_with (go_at_call 38; refine stopAt ?_)
        unfold Hid
        refine hb.mono ?_
        rintro e wb ⟨rfl, hSb⟩
        have hrd := HRD.out.keep hSb trivial
        have hrr := HRR.out.keep hSb trivial
        have HPb := Lib.hid (HP.out.keep hSb)
        have HEb := Lib.hid (HE.out.keepAll hSb)
        have HSb := Lib.hid (HS3.out.trans (hSb.mono (S' := fun q => q ≠ g) fun _ _ _ => trivial))
        have p0 := hrd.cell 0
        have p1 := hrd.cell 1
        have p2 := hrd.cell 2
        have p3 := hrd.cell 3
        have p4 := hrd.cell 4
        have p5 := hrd.cell 5
        have p6 := hrd.cell 6
        simp only [dpCs, zdp, List.getElem?_cons_zero, List.getElem?_cons_succ] at p0 p1 p2 p3 p4 p5 p6
        have q0 := hrr.cell 0
        have q1 := hrr.cell 1
        have q2 := hrr.cell 2
        have q3 := hrr.cell 3
        have q4 := hrr.cell 4
        have q5 := hrr.cell 5
        have q6 := hrr.cell 6
        simp only [dpCs, zdp, List.getElem?_cons_zero, List.getElem?_cons_succ] at q0 q1 q2 q3 q4 q5 q6
        have x0 := hrr.frozen 0
        have x1 := hrr.frozen 1
        have x2 := hrr.frozen 2
        have x3 := hrr.frozen 3
        have x4 := hrr.frozen 4
        have x5 := hrr.frozen 5
        have x6 := hrr.frozen 6
        have zr := hrr.lt
        have HRR := Lib.hid hrr
        clear hrd hrr hSb hb
        have hss : Same (fun q => q ≠ w.heap.size) wb (setsW wb w.heap.size 0 (dpCs (.slice Au nu cu) d)) := Same.sets (fun h => h rfl) _ 0 (Same.refl _ _)
        have hA := (HEb.out.keep (hss.mono (S' := fun q => w.heap.size + 1 ≤ q ∧ q ≠ gd) fun q _ h => by have := h.1; omega)).mono (S' := fun q => w.heap.size ≤ q) fun q _ h => by have := h.1; omega
        have hB := HPb.out.keepB hss (by omega) (by omega) (by omega)
        have hC := Same.sets' (Nat.le_refl w.heap.size) (dpCs (.slice Au nu cu) d) 0 HSb.out
        have hD := HRR.out.sets (dpCs (.slice Au nu cu) d) 0
        have HA := Lib.hid hA
        have HB := Lib.hid hB
        have HC := Lib.hid hC
        have HD := Lib.hid hD
        clear hss hA hB hC hD
        go_wp2
        refine bodyPost_ret (chain_results (u := .slice Au nu cu) (d := d) (show Row _ _ _ (dpCs (.slice Au nu cu) d) from HD.out) rfl) rfl ?_
        rw [← HXd.out, HXe.out]
        exact ⟨_, rfl, ⟨_, rfl, HA.out⟩, HB.out, HC.out⟩
      · rw [hq] at hb
        have hkd := begins_kind hq
        obtain ⟨k, rfl⟩ : ∃ m, k = m + 1 := ⟨k - 1, by have := hp.end_.pos; omega⟩
        have hX' : thenT (F l'.tail) (fun d2 l2 => thenT (opT (hdT l').1 (hdT l').2.s [d, d2] l2) fun d3 l3 => chainT F ss k d3 l3) = X := by
          rw [← hX]
          conv => rhs; unfold chainT
          rw [hq]
          rfl
        have Hq := Lib.hid hX'
        have Hkd := Lib.hid hkd
        clear hX hX' hq hp hkd
        go_wp2_with (go_at_call 38; refine stopAt ?_)
        unfold Hid
        refine hb.mono ?_
        rintro e wb ⟨rfl, hSb⟩
        have hpb := HP.out.keep hSb
        obtain ⟨off, c, hrow, hc, hm, hl, hl2, hc1, t0, t1, t2, t3, hN⟩ := PS.step hpb Hkd.out
        obtain ⟨m3, m4, m5⟩ := hpb.lt3
        unfold maxLen at hm
        have b0 := hrow.cell 0
        simp only [List.getElem?_cons_zero] at b0
        have f0 := hrow.frozen 0
        have hl0 : (0 : Int) < (l'.length : Int) := by omega
        obtain ⟨tk, htk⟩ : ∃ tk, tk = hdT l' := ⟨_, rfl⟩
        have htl := (hpb.end_.tail Hkd.out)
        have HTL := Lib.hid htl
        rw [← htk] at t0 t1 t2 t3 Hq
        clear htk
        have rk := Row.new (wb.setCell ⟨g, 0, none⟩ (.slice (some ⟨t, off + 4, none⟩) (l'.length - 1) (c - 1))) 75 (tokCs tk)
        rw [size_set] at rk
        have hSk := (Same.refl (fun _ => True) (wb.setCell ⟨g, 0, none⟩ (.slice (some ⟨t, off + 4, none⟩) (l'.length - 1) (c - 1)))).alloc (.cells (tokCs tk).toArray 75)
        have hzk : ((wb.setCell ⟨g, 0, none⟩ (.slice (some ⟨t, off + 4, none⟩) (l'.length - 1) (c - 1))).alloc (.cells (tokCs tk).toArray 75)).heap.size = wb.heap.size + 1 := by rw [World.size_alloc, size_set]
        have hSg : Same (fun q => q ≠ g) wb (wb.setCell ⟨g, 0, none⟩ (.slice (some ⟨t, off + 4, none⟩) (l'.length - 1) (c - 1))) := (Same.refl _ _).setCell (fun _ h => h rfl) _
        have hpk := hN.keep hSk
        have hzb := hSb.size
        have hSbk := hSg.trans (hSk.mono (S' := fun q => q ≠ g) fun _ _ _ => trivial)
        have HRD3 := Lib.hid ((HRD.out.keep hSb trivial).keep hSbk (by omega))
        have HRR3 := Lib.hid ((HRR.out.keep hSb trivial).keep hSbk (by omega))
        have HE3 := Lib.hid ((HE.out.keepAll hSb).keep (hSbk.mono fun q _ h => by have := h.1; omega))
        have HS3 := Lib.hid ((HS3.out.trans (hSb.mono (S' := fun q => q ≠ g) fun _ _ _ => trivial)).trans hSbk)
        have HSr := Lib.hid ((HS.out.trans (hSb.mono (S' := fun q => q ≠ g ∧ q ≠ gd) fun _ _ _ => trivial)).trans (hSbk.mono (S' := fun q => q ≠ g ∧ q ≠ gd) fun _ _ h => h.1))
        clear hpb hrow hN hSg hSb hb htl HRD HRR HE HS HP
        go_upto_region 5 with (fail)
        simp only [tokCs] at rk hSk hzk hpk HRD3 HRR3 HE3 HS3 HSr
        revert rk hSk hzk hpk HRD3 HRR3 HE3 HS3 HSr hSbk
        generalize ((wb.setCell _ _).alloc _) = w3
        intro rk hSk hzk hpk hSbk HRD3 HRR3 HE3 HS3 HSr
        obtain ⟨gk, hgk⟩ : ∃ gk, gk = wb.heap.size := ⟨_, rfl⟩
        rw [← hgk] at rk ⊢
        have Hgk := Lib.hid hgk
        have k0 := rk.cell 0
        have k1 := rk.cell 1
        have k2 := rk.cell 2
        have k3 := rk.cell 3
        simp only [List.getElem?_cons_zero, List.getElem?_cons_succ] at k0 k1 k2 k3
        obtain ⟨x, hxe⟩ : ∃ x, x = F l'.tail := ⟨_, rfl⟩
        have Hxe := Lib.hid hxe
        have hz3 : wb.heap.size + 1 = w3.heap.size := hzk.symm
        have hgB : g < w.heap.size + 1 := by omega
        have htok : TR g gd gk := ⟨by omega, by omega⟩
        have HXr : Hid (∀ p, x = .error p → runT F ss l = .error p) := Lib.hid fun p hp => by rw [← HXd.out, ← Hq.out, ← hxe, hp]; rfl
        have HXo : Hid (x = .ok (valT x, leftT x) → 16 < deepOf [d, valT x] + 1 → runT F ss l = .error (tk.1, 3)) := Lib.hid fun hp hd => by
          rw [← HXd.out, ← Hq.out, ← hxe]
          conv => lhs; rw [hp]
          rw [thenT_ok]
          unfold opT
          rw [if_pos hd]
          rfl
        have HXk : Hid (x = .ok (valT x, leftT x) → deepOf [d, valT x] ≤ 15 → chainT F ss k (opD tk.2.s [d, valT x]) (leftT x) = X) := Lib.hid fun hp hd => by
          rw [← Hq.out, ← hxe]
          conv => rhs; rw [hp]
          rw [thenT_ok, opT_ok hd, thenT_ok]
        have HD16 : Hid (x = .ok (valT x, leftT x) → ∀ d' ∈ [d, valT x], d'.n ≤ 1000000) := Lib.hid fun hp d' hd' => by
          have := H16.out l'.tail (valT x) (leftT x) (hxe.symm.trans hp)
          simp only [List.mem_cons, List.not_mem_nil, or_false] at hd'
          rcases hd' with rfl | rfl <;> omega
        have HFT : Hid (x = .ok (valT x, leftT x) → (leftT x).length + 1 ≤ l'.length) := Lib.hid fun hp => by
          have := (Hfit.out l'.tail HTL.out.1 (valT x) (leftT x) (hxe.symm.trans hp)).2
          have := HTL.out.2
          omega
        have HEd : Hid (∀ wc, Same (TR g gd) w3 wc → ExR wc (fun q => w.heap.size + 1 ≤ q ∧ q ≠ gd) (.slice Au nu cu) d.e) := Lib.hid fun wc hs => HE3.out.keep (hs.mono fun q _ h => ⟨by have := h.1; omega, h.2⟩)
        have HST : Hid (RegS g t o gd (w.heap.size + 1) l'.tail (leftT x) (dpCs (.slice Au nu cu) d) (opD tk.2.s [d, valT x]) (x = .ok (valT x, leftT x) ∧ deepOf [d, valT x] ≤ 15) false false w3.drew) := Lib.hid (RegS.keep (W := w3) ⟨hpk, fun _ => HRD3.out, fun h => by cases h⟩ (Same.refl _ _).drew)
        clear hxe rk hSk hpk hSbk t0 t1 t2 t3 b0 f0 hgk
        refine wp_region_full_lit (T := TR g (gd)) (L := [some (.eq (tokV4 tk)), some (.eq (.pointer (some ⟨gk, 2, none⟩))), some (.eq (.string (str tk.2.s))), some (.eq (dpV (.slice Au nu cu) d)), some (.eq (pV g)), some (.eq fv), some (RuS g (gd) (w.heap.size + 1) hgB x), some (SlS g (gd) (w.heap.size + 1) hgB [d, valT x] (x = .ok (valT x, leftT x))), some (OpS g (gd) (w.heap.size + 1) hgB (opD tk.2.s [d, valT x]) (x = .ok (valT x, leftT x) ∧ deepOf [d, valT x] ≤ 15)), none]) (fun f _ W => RegS g t o (gd) (w.heap.size + 1) l'.tail (leftT x) (dpCs (.slice Au nu cu) d) (opD tk.2.s [d, valT x]) (x = .ok (valT x, leftT x) ∧ deepOf [d, valT x] ≤ 15) (f 6) (f 9) W) (by kernel_rfl) (by kernel_rfl) (by rfl) rfl ?_ ?_ ?_
        · exact HST.out
        · refine ⟨?_, ?_, ?_, ?_, ?_, ?_, ?_, ?_, ?_, ?_, trivial⟩
          · intro ac wc f hs hst hni hwt hdn hd hz hf hw K hK
            generalize hU : valF _ ac = U at hst hK
            have e0 : ac.eval (.tmp 8) = (.pointer (some ⟨gk, 0, none⟩)) := hf 8 rfl
            have m0 : wc.cell? ⟨gk, 0, none⟩ = some (.int .i64 tk.2.kind) := hs.cell (p := ⟨gk, 0, none⟩) htok k0
            have m1 : wc.cell? ⟨gk, 1, none⟩ = some (.int .i64 tk.1) := hs.cell (p := ⟨gk, 1, none⟩) htok k1
            have m2 : wc.cell? ⟨gk, 2, none⟩ = some (.string (str tk.2.s)) := hs.cell (p := ⟨gk, 2, none⟩) htok k2
            have m3 : wc.cell? ⟨gk, 3, none⟩ = some (.int .i64 tk.2.n) := hs.cell (p := ⟨gk, 3, none⟩) htok k3
            clear hd hz hf hw
            simp only [Region.wanted, if_true, Oper.wp, execOp, resolve, List.map_toArray, List.map_cons, List.map_nil, Option.map_some, Option.map_none, e0]
            go_simp
            exact hK _ _ (fun _ => rfl) (Same.refl _ _) hst
          · intro ac wc f hs hst hni hwt hdn hd hz hf hw K hK
            generalize hU : valF _ ac = U at hst hK
            have e0 : ac.eval (.tmp 8) = (.pointer (some ⟨gk, 0, none⟩)) := hf 8 rfl
            clear hd hz hf hw
            simp only [Region.wanted, if_true, Oper.wp, execOp, resolve, List.map_toArray, List.map_cons, List.map_nil, Option.map_some, Option.map_none, e0]
            go_simp
            exact hK _ _ (fun _ => rfl) (Same.refl _ _) hst
          · intro ac wc f hs hst hni hwt hdn hd hz hf hw K hK
            generalize hU : valF _ ac = U at hst hK
            have e0 : ac.eval (.tmp 30) = (.pointer (some ⟨gk, 2, none⟩)) := hw 1 rfl
            have m0 : wc.cell? ⟨gk, 2, none⟩ = some (.string (str tk.2.s)) := hs.cell (p := ⟨gk, 2, none⟩) htok k2
            clear hd hz hf hw
            simp only [Region.wanted, if_true, Oper.wp, execOp, resolve, List.map_toArray, List.map_cons, List.map_nil, Option.map_some, Option.map_none, e0]
            go_simp
            exact hK _ _ (fun _ => rfl) (Same.refl _ _) hst
          · intro ac wc f hs hst hni hwt hdn hd hz hf hw K hK
            generalize hU : valF _ ac = U at hst hK
            have e0 : ac.eval (.tmp 7) = (.pointer (some ⟨gd, 0, none⟩)) := hf 7 rfl
            have h9 : f 9 = false := by
              cases h : f 9 with
              | false => rfl
              | true => (have h8 := hdn 9 8 rfl h; have h7 := hdn 8 7 rfl h8; have h6 := hdn 7 3 rfl h7; rw [hni] at h6; cases h6)
            have hr_ := hst.2.1 h9
            have m0 := hr_.cell 0
            have m1 := hr_.cell 1
            have m2 := hr_.cell 2
            have m3 := hr_.cell 3
            have m4 := hr_.cell 4
            have m5 := hr_.cell 5
            have m6 := hr_.cell 6
            simp only [dpCs, List.getElem?_cons_zero, List.getElem?_cons_succ] at m0 m1 m2 m3 m4 m5 m6
            clear hr_
            clear hd hz hf hw
            simp only [Region.wanted, if_true, Oper.wp, execOp, resolve, List.map_toArray, List.map_cons, List.map_nil, Option.map_some, Option.map_none, e0]
            go_simp
            exact hK _ _ (fun _ => rfl) (Same.refl _ _) hst
          · intro ac wc f hs hst hni hwt hdn hd hz hf hw K hK
            generalize hU : valF _ ac = U at hst hK
            have e0 : ac.eval (.tmp 0) = (pV g) := hf 0 rfl
            clear hd hz hf hw
            simp only [Region.wanted, if_true, Oper.wp, execOp, resolve, List.map_toArray, List.map_cons, List.map_nil, Option.map_some, Option.map_none, e0]
            go_simp
            exact hK _ _ (fun _ => rfl) (Same.refl _ _) hst
          · intro ac wc f hs hst hni hwt hdn hd hz hf hw K hK
            generalize hU : valF _ ac = U at hst hK
            have e0 : ac.eval (.tmp 1) = fv := hf 1 rfl
            clear hd hz hf hw
            simp only [Region.wanted, if_true, Oper.wp, execOp, resolve, List.map_toArray, List.map_cons, List.map_nil, Option.map_some, Option.map_none, e0]
            go_simp
            exact hK _ _ (fun _ => rfl) (Same.refl _ _) hst
          · intro ac wc f hs hst hni hwt hdn hd hz hf hw K hK
            generalize hU : valF _ ac = U at hst hK
            have e0 : ac.eval (.tmp 33) = (pV g) := hw 4 rfl
            have e1 : ac.eval (.tmp 34) = fv := hw 5 rfl
            have Hdf := Lib.hid (show ac.defers = [] from hd)
            have h9 : f 9 = false := by
              cases h : f 9 with
              | false => rfl
              | true => (have h8 := hdn 9 8 rfl h; have h7 := hdn 8 7 rfl h8; have h6 := hdn 7 6 rfl h7; rw [hni] at h6; cases h6)
            have hps : PS wc g t l'.tail o := by
              have := hst.1
              rw [hni] at this
              exact this
            have hrd := hst.2.1 h9
            clear hd hz hf hw
            simp only [Region.wanted, if_true, Oper.wp, execOp, resolve, List.map_toArray, List.map_cons, List.map_nil, Option.map_some, Option.map_none, e0, e1]
            go_simp
            refine (HR.out l'.tail wc hps).mono ?_
            intro e wd h1
            cases hx : F l'.tail with
            | error p =>
              rw [hx] at h1
              obtain ⟨rfl, hSp⟩ := h1
              have hq : DoP g t o (runT F ss l) (DpG w.heap.size) w (.panicked [{ v := failV p.1 p.2, recovered := false }]) wd := by
                rw [HXr.out p (Hxe.out.trans hx)]
                exact DoP.err ⟨rfl, hSp⟩ (HS3.out.trans' hs fun q hq h => ⟨h, by omega⟩) fun _ h => h
              exact ⟨Hdf.out, hq⟩
            | ok q =>
              rw [hx] at h1
              obtain ⟨v', rfl, ⟨u2, rfl, hex2⟩, hp2, hS2⟩ := h1
              have hxx : x = .ok (valT x, leftT x) := by rw [Hxe.out, hx]; rfl
              have hx1 : valT x = q.1 := by rw [Hxe.out, hx]; rfl
              have hx2 : leftT x = q.2 := by rw [Hxe.out, hx]; rfl
              have hzc := hs.size
              refine hK _ _ (fun _ => ⟨u2, by rw [hx1], by rw [hx1]; exact hex2.mono fun k hk (h : wc.heap.size ≤ k) => ⟨by omega, by omega⟩, hxx⟩) (hS2.mono fun k hk h => h.1) ⟨?_, ?_, ?_⟩
              · show PS wd g t (leftT x) o
                rw [hx2]
                exact hp2
              · intro _
                exact hrd.keep hS2 (by omega)
              · intro h
                have h : f 9 = true := h
                rw [h9] at h
                cases h
          · intro ac wc f hs hst hni hwt hdn hd hz hf hw K hK
            generalize hU : valF _ ac = U at hst hK
            have e0 : ac.eval (.tmp 32) = (dpV (.slice Au nu cu) d) := hw 3 rfl
            have p1 : (RuS g (gd) (w.heap.size + 1) hgB x : SPT (TR g (gd))).p (ac.eval (.tmp 35)) wc := hw 6 rfl
            obtain ⟨u1, e1⟩ : ∃ u, ac.eval (.tmp 35) = u := ⟨_, rfl⟩
            have v1 : U 6 = u1 := by rw [← hU]; exact e1
            rw [e1] at p1
            obtain ⟨u2, rfl, hex2, hxx⟩ := p1
            obtain ⟨A2, c2, rfl, -, -⟩ := hex2.toL.form
            have Hxx := Lib.hid hxx
            clear hxx
            have Hex2 := Lib.hid hex2
            clear hex2
            clear hd hz hf hw
            simp only [Region.wanted, if_true, Oper.wp, execOp, resolve, List.map_toArray, List.map_cons, List.map_nil, Option.map_some, Option.map_none, e0, e1]
            go_simp
            have hzc := hs.size
            have hex2 := Hex2.out
            have hxx := Hxx.out
            exact hK _ _ (fun _ => ⟨DpR.two (HEd.out wc hs) hex2 ⟨by omega, by omega⟩, hxx⟩) ((Same.refl _ _).alloc _) (RegS.keep hst ((Same.refl _ _).alloc _))
          · intro ac wc f hs hst hni hwt hdn hd hz hf hw K hK
            generalize hU : valF _ ac = U at hst hK
            have e0 : ac.eval (.tmp 29) = (tokV4 tk) := hw 0 rfl
            have e1 : ac.eval (.tmp 31) = (.string (str tk.2.s)) := hw 2 rfl
            have p2 : (SlS g (gd) (w.heap.size + 1) hgB [d, valT x] (x = .ok (valT x, leftT x)) : SPT (TR g (gd))).p (ac.eval (.tmp 36)) wc := hw 7 rfl
            obtain ⟨u2, e2⟩ : ∃ u, ac.eval (.tmp 36) = u := ⟨_, rfl⟩
            have v2 : U 7 = u2 := by rw [← hU]; exact e2
            rw [e2] at p2
            have Hdf := Lib.hid (show ac.defers = [] from hd)
            have HSB := Lib.hid p2
            clear p2
            clear hd hz hf hw
            simp only [Region.wanted, if_true, Oper.wp, execOp, resolve, List.map_toArray, List.map_cons, List.map_nil, Option.map_some, Option.map_none, e0, e1, e2]
            go_simp
            obtain ⟨hsb, hxx⟩ := HSB.out
            refine (op_any tk tk.2.s _ [d, valT x] _ wc hsb (by simp) (HD16.out hxx)).mono ?_
            intro e wd ⟨hA1, hA2, hS2⟩
            have hzc := hs.size
            by_cases hdp : 16 < deepOf [d, valT x] + 1
            · obtain rfl := hA1 hdp
              have hq : DoP g t o (runT F ss l) (DpG w.heap.size) w (.panicked [{ v := failV tk.1 3, recovered := false }]) wd := by
                rw [HXo.out hxx hdp]
                exact DoP.err ⟨rfl, hS2.mono fun _ _ _ => trivial⟩ (HS3.out.trans' hs fun q hq h => ⟨h, by omega⟩) fun _ h => h
              exact ⟨Hdf.out, hq⟩
            · obtain ⟨u3, rfl, hex3⟩ := hA2 hdp
              exact hK _ _ (fun _ => ⟨u3, rfl, hex3.mono fun k hk h => h.elim id fun h => ⟨by omega, by omega⟩, hxx, by omega⟩) (hS2.mono fun _ _ _ => trivial) (RegS.keep hst hS2)
          · intro ac wc f hs hst hni hwt hdn hd hz hf hw K hK
            generalize hU : valF _ ac = U at hst hK
            have e0 : ac.eval (.tmp 7) = (.pointer (some ⟨gd, 0, none⟩)) := hf 7 rfl
            have p1 : (OpS g (gd) (w.heap.size + 1) hgB (opD tk.2.s [d, valT x]) (x = .ok (valT x, leftT x) ∧ deepOf [d, valT x] ≤ 15) : SPT (TR g (gd))).p (ac.eval (.tmp 37)) wc := hw 8 rfl
            obtain ⟨u1, e1⟩ : ∃ u, ac.eval (.tmp 37) = u := ⟨_, rfl⟩
            have v1 : U 8 = u1 := by rw [← hU]; exact e1
            rw [e1] at p1
            obtain ⟨u3, rfl, hex3, hok⟩ := p1
            have Hok := Lib.hid hok
            clear hok
            obtain ⟨A3, c3, rfl, -, -⟩ := hex3.toL.form
            generalize (opD tk.2.s [d, valT x]).e.args.length = n3 at *
            have hr_ := hst.2.1 hni
            have m0 := hr_.cell 0
            have m1 := hr_.cell 1
            have m2 := hr_.cell 2
            have m3 := hr_.cell 3
            have m4 := hr_.cell 4
            have m5 := hr_.cell 5
            have m6 := hr_.cell 6
            simp only [dpCs, zdp, List.getElem?_cons_zero, List.getElem?_cons_succ] at m0 m1 m2 m3 m4 m5 m6
            have n0_ := hr_.frozen 0
            have n1_ := hr_.frozen 1
            have n2_ := hr_.frozen 2
            have n3_ := hr_.frozen 3
            have n4_ := hr_.frozen 4
            have n5_ := hr_.frozen 5
            have n6_ := hr_.frozen 6
            have zr := hr_.lt
            clear hd hz hf hw
            simp only [Region.wanted, if_true, Oper.wp, execOp, resolve, List.map_toArray, List.map_cons, List.map_nil, Option.map_some, Option.map_none, e0, e1]
            go_simp
            have hss : Same (fun q => q ≠ gd) wc (setsW wc (gd) 0 (dpCs (.slice A3 n3 c3) (opD tk.2.s [d, valT x]))) := Same.sets (fun h => h rfl) _ 0 (Same.refl _ _)
            have hA := hst.1.keepB hss (by omega) (by omega) (by omega)
            have hB := hr_.sets (dpCs (.slice A3 n3 c3) (opD tk.2.s [d, valT x])) 0
            have hC := hex3.keep (hss.mono (S' := fun q => w.heap.size + 1 ≤ q ∧ q ≠ gd) fun k _ h => h.2)
            have hD := hss.mono (S' := TR g (gd)) fun k _ h => h.2
            refine hK undef _ (fun h => (by cases h)) ?_ ⟨?_, ?_, ?_⟩
            · exact hD
            · exact hA
            · exact fun h => (by cases h)
            · exact fun _ => ⟨Hok.out, .slice A3 n3 c3, hB, hC⟩
        · intro vs wR f hvl hvp hsR hst hfR
          rcases vs with _ | ⟨z0, _ | ⟨z1, _ | ⟨z2, _ | ⟨z3, _ | ⟨z4, _ | ⟨z5, _ | ⟨z6, _ | ⟨z7, _ | ⟨z8, _ | ⟨z9, _ | ⟨zz, zr⟩⟩⟩⟩⟩⟩⟩⟩⟩⟩⟩
          rotate_right 1
          · simp at hvl
          · simp at hvl
          · simp at hvl
          · simp at hvl
          · simp at hvl
          · simp at hvl
          · simp at hvl
          · simp at hvl
          · simp at hvl
          · simp at hvl
          · simp at hvl
          · obtain rfl : z0 = (tokV4 tk) := hvp 0 (by simp)
            obtain rfl : z1 = (.pointer (some ⟨gk, 2, none⟩)) := hvp 1 (by simp)
            obtain rfl : z2 = (.string (str tk.2.s)) := hvp 2 (by simp)
            obtain rfl : z3 = (dpV (.slice Au nu cu) d) := hvp 3 (by simp)
            obtain rfl : z4 = (pV g) := hvp 4 (by simp)
            obtain rfl : z5 = fv := hvp 5 (by simp)
            have hru : (RuS g (gd) (w.heap.size + 1) hgB x : SPT (TR g (gd))).p z6 wR := hvp 6 (by simp)
            have hsb : (SlS g (gd) (w.heap.size + 1) hgB [d, valT x] (x = .ok (valT x, leftT x)) : SPT (TR g (gd))).p z7 wR := hvp 7 (by simp)
            have hpo : (OpS g (gd) (w.heap.size + 1) hgB (opD tk.2.s [d, valT x]) (x = .ok (valT x, leftT x) ∧ deepOf [d, valT x] ≤ 15) : SPT (TR g (gd))).p z8 wR := hvp 8 (by simp)
            clear hvl hvp
            simp only [putAll, Act.put, List.setIfInBounds_toArray, List.set_cons_succ, List.set_cons_zero, List.take_succ_cons, List.take_zero, List.drop_succ_cons, List.drop_zero]
            clear hru hsb hpo
            have hst := hst
            rw [hfR 6, hfR 9] at hst
            obtain ⟨hpR, -, hnew⟩ := hst
            obtain ⟨⟨hxx, hdo⟩, u3, hrN, hexN⟩ := hnew rfl
            have hpR : PS wR g t (leftT x) o := hpR
            have hlen1 := hpR.len
            have hlen2 := HPw.out.len
            go_wp2
            go_roundw
            case rel => exact ⟨k, _, leftT x, u3, HXk.out hxx hdo, by have := HFT.out hxx; have := Hk.out; omega, by show deepOf [d, valT x] + 1 ≤ 16; omega, hpR, hrN, hexN, HSr.out.trans hsR⟩
            case measure =>
              have := HFT.out hxx
              have := Hk.out
              omega
def strCs (ss : List (List UInt8)) : List Value := ss.map fun s => .string (str s)
theorem str_flat : ∀ ss : List (List UInt8), (ss.flatMap fun s => [Value.string (str s)]) = strCs ss
  | [] => rfl
  | a :: l => by rw [List.flatMap_cons, str_flat l]; rfl
theorem StrR.new (w : World) (g : Nat) (hg : g < w.heap.size) (ss : List (List UInt8)) (hn : ss.length ≤ maxLen) : StrR (w.alloc (.cells (strCs ss).toArray 9)) (fun q => q ≠ g) (.slice (some ⟨w.heap.size, 0, none⟩) ss.length ss.length) ss := by
  have hr := Row.new w 9 (strCs ss)
  have e := str_flat ss
  refine ⟨_, _, rfl, Nat.le_refl _, hn, by rw [e]; simp [strCs], fun _ => ⟨_, rfl, by show w.heap.size ≠ g; omega, fun j u hu => ?_⟩⟩
  rw [add_none, hr.cell, Nat.zero_add, ← e]
  exact hu
/-- A result that is written whole. -/
theorem fin_dp {w wa : World} {g t o : Nat} {l' : List PT} {u : Value} {d : Dp} (h : PS wa g t l' o) (h3 : g < w.heap.size ∧ t < w.heap.size ∧ 1 < w.heap.size) (hr : Row wa w.heap.size 155 zdp) (hx : ExR wa (fun q => w.heap.size + 1 ≤ q) u d.e) (hs : Same (fun q => q ≠ g) w wa) :
    Row (setsW wa w.heap.size 0 (dpCs u d)) w.heap.size 155 (dpCs u d) ∧ DpG w.heap.size d (setsW wa w.heap.size 0 (dpCs u d)) (dpV u d) ∧ PS (setsW wa w.heap.size 0 (dpCs u d)) g t l' o ∧ Same (fun q => q ≠ g) w (setsW wa w.heap.size 0 (dpCs u d)) := by
  have hss : Same (fun q => q ≠ w.heap.size) wa (setsW wa w.heap.size 0 (dpCs u d)) := Same.sets (fun h => h rfl) _ 0 (Same.refl _ _)
  exact ⟨hr.sets (dpCs u d) 0, ⟨u, rfl, (hx.keep (hss.mono fun q _ (h : w.heap.size + 1 ≤ q) => by omega)).mono fun q _ (h : w.heap.size + 1 ≤ q) => by omega⟩, h.keepB hss (by omega) (by omega) (by omega), Same.sets' (Nat.le_refl _) _ 0 hs⟩
theorem or_results {W : World} {k : Nat} {u : Value} {d : Dp} (R : Row W k 155 (dpCs u d)) {tmps : Array Value} (h1 : tmps.getD 2 undef = .pointer (some ⟨k, 0, none⟩)) :
    (results Tryz.f129 tmps).run Tryz.prog W = .ok (dpV u d) W := by
  have d0 : W.cell? ⟨k, 0, none⟩ = some (.int .i64 d.e.kind) := R.cell 0
  have d1 : W.cell? ⟨k, 1, none⟩ = some (.string (str d.e.s)) := R.cell 1
  have d2 : W.cell? ⟨k, 2, none⟩ = some (.int .i64 d.e.v.kind) := R.cell 2
  have d3 : W.cell? ⟨k, 3, none⟩ = some (.int .i64 d.e.v.n) := R.cell 3
  have d4 : W.cell? ⟨k, 4, none⟩ = some (.string (str d.e.v.s)) := R.cell 4
  have d5 : W.cell? ⟨k, 5, none⟩ = some u := R.cell 5
  have d6 : W.cell? ⟨k, 6, none⟩ = some (.int .i64 d.n) := R.cell 6
  simp at h1
  simp [results, Tryz.results129, h1, go_sem, d0, d1, d2, d3, d4, d5, d6]
set_option maxRecDepth 100000 in
set_option maxHeartbeats 2000000 in
theorem or_any (g t o : Nat) (F : List PT → PR Dp) (hR : RuleC g t o (.func (.func 135) #[pV g] #[]) F) (h16 : ∀ l, Shal (F l)) (hfit : ∀ l, EndOk l → Fit l (F l)) (l : List PT) (w : World) (h : PS w g t l o) : Calls Tryz.prog 129 #[pV g] w (DoP g t o (runT F [wOR] l) (DpG w.heap.size) w) := by
  obtain ⟨l3, l4, l5⟩ := h.lt3
  have HL3 := Lib.hid h.lt3
  have hS0 := (Same.refl (fun _ => True) w).alloc (.cells zdp.toArray 155)
  have r0 := Row.new w 155 zdp
  have hz0 : (w.alloc (.cells zdp.toArray 155)).heap.size = w.heap.size + 1 := by simp
  have hs1 := StrR.new (w.alloc (.cells zdp.toArray 155)) g (by omega) [wOR] (by simp [maxLen])
  have hS1 := hS0.alloc (.cells (strCs [wOR]).toArray 9)
  have r1 := r0.keep ((Same.refl (fun _ => True) _).alloc (.cells (strCs [wOR]).toArray 9)) trivial
  have hz1 : ((w.alloc (.cells zdp.toArray 155)).alloc (.cells (strCs [wOR]).toArray 9)).heap.size = w.heap.size + 2 := by simp
  rw [hz0] at hs1
  have hp1 := h.keep hS1
  have hc := chain_any g t o (.func (.func 135) #[pV g] #[]) F hR h16 hfit [wOR] _ l _ hp1 hs1
  simp only [List.length_cons, List.length_nil, Nat.zero_add, Nat.reduceAdd] at hc
  clear hR h16 hfit hS0 r0 hs1 hz0
  obtain ⟨X, hX⟩ : ∃ X, X = runT F [wOR] l := ⟨_, rfl⟩
  rw [← hX] at hc ⊢
  clear hX h
  have hmf : ∀ (fn : Fn) (first cap : Array Value) (w : World), (Instr.makeFunc fn first cap).run Tryz.prog w = .ok (.func fn first cap) w := fun _ _ _ _ => rfl
  go_enter Tryz.func129, Tryz.ntmps129
  go_wp2_with (go_at_call 134; refine stopAt ?_)
  unfold Hid
  simp only [zdp, strCs, List.map_cons, List.map_nil, wOR, wAND, str] at hS1 r1 hz1 hp1 hc
  revert hS1 r1 hz1 hp1 hc
  generalize (w.alloc _).alloc _ = w1
  intro hS1 r1 hz1 hp1 hc
  refine hc.mono ?_
  clear hc
  intro e w2 h2
  cases X with
  | error p =>
    obtain ⟨rfl, hS2⟩ := h2
    exact ⟨rfl, DoP.err ⟨rfl, hS2⟩ hS1⟩
  | ok q =>
    obtain ⟨d, l2⟩ := q
    obtain ⟨v, rfl, ⟨u, rfl, hex⟩, hp2, hS2⟩ := h2
    obtain ⟨Au, cu, rfl, -, -⟩ := hex.toL.form
    generalize d.e.args.length = nu at *
    have HPx := Lib.hid hp2
    have HRx : Hid (Row w2 w.heap.size 155 zdp) := Lib.hid (r1.keep hS2 (by omega))
    have HEx := Lib.hid (hex.mono (S' := fun q => w.heap.size + 1 ≤ q) fun q _ (h : w1.heap.size ≤ q) => by omega)
    have HSx := Lib.hid ((hS1.mono (S' := fun q => q ≠ g) fun _ _ _ => trivial).trans hS2)
    clear hex hp2 hS1 hS2 r1 hp1
    obtain ⟨hD, hG, hB, hC⟩ := fin_dp (u := .slice Au nu cu) (d := d) HPx.out HL3.out HRx.out HEx.out HSx.out
    have HD := Lib.hid hD
    have HG := Lib.hid hG
    have HB := Lib.hid hB
    have HC := Lib.hid hC
    clear hD hG hB hC
    have rr := HRx.out
    have q0 := rr.cell 0
    have q1 := rr.cell 1
    have q2 := rr.cell 2
    have q3 := rr.cell 3
    have q4 := rr.cell 4
    have q5 := rr.cell 5
    have q6 := rr.cell 6
    simp only [dpCs, zdp, List.getElem?_cons_zero, List.getElem?_cons_succ] at q0 q1 q2 q3 q4 q5 q6
    have x0 := rr.frozen 0
    have x1 := rr.frozen 1
    have x2 := rr.frozen 2
    have x3 := rr.frozen 3
    have x4 := rr.frozen 4
    have x5 := rr.frozen 5
    have x6 := rr.frozen 6
    have zr := rr.lt
    clear rr
    go_wp2
    refine bodyPost_ret (or_results (u := .slice Au nu cu) (d := d) (show Row _ _ _ (dpCs (.slice Au nu cu) d) from HD.out) rfl) rfl ?_
    exact ⟨_, rfl, HG.out, HB.out, HC.out⟩
theorem and_results {W : World} {k : Nat} {u : Value} {d : Dp} (R : Row W k 155 (dpCs u d)) {tmps : Array Value} (h1 : tmps.getD 2 undef = .pointer (some ⟨k, 0, none⟩)) :
    (results Tryz.f135 tmps).run Tryz.prog W = .ok (dpV u d) W := by
  have d0 : W.cell? ⟨k, 0, none⟩ = some (.int .i64 d.e.kind) := R.cell 0
  have d1 : W.cell? ⟨k, 1, none⟩ = some (.string (str d.e.s)) := R.cell 1
  have d2 : W.cell? ⟨k, 2, none⟩ = some (.int .i64 d.e.v.kind) := R.cell 2
  have d3 : W.cell? ⟨k, 3, none⟩ = some (.int .i64 d.e.v.n) := R.cell 3
  have d4 : W.cell? ⟨k, 4, none⟩ = some (.string (str d.e.v.s)) := R.cell 4
  have d5 : W.cell? ⟨k, 5, none⟩ = some u := R.cell 5
  have d6 : W.cell? ⟨k, 6, none⟩ = some (.int .i64 d.n) := R.cell 6
  simp at h1
  simp [results, Tryz.results135, h1, go_sem, d0, d1, d2, d3, d4, d5, d6]
set_option maxRecDepth 100000 in
set_option maxHeartbeats 2000000 in
theorem and_any (g t o : Nat) (F : List PT → PR Dp) (hR : RuleC g t o (.func (.func 143) #[pV g] #[]) F) (h16 : ∀ l, Shal (F l)) (hfit : ∀ l, EndOk l → Fit l (F l)) (l : List PT) (w : World) (h : PS w g t l o) : Calls Tryz.prog 135 #[pV g] w (DoP g t o (runT F [wAND] l) (DpG w.heap.size) w) := by
  obtain ⟨l3, l4, l5⟩ := h.lt3
  have HL3 := Lib.hid h.lt3
  have hS0 := (Same.refl (fun _ => True) w).alloc (.cells zdp.toArray 155)
  have r0 := Row.new w 155 zdp
  have hz0 : (w.alloc (.cells zdp.toArray 155)).heap.size = w.heap.size + 1 := by simp
  have hs1 := StrR.new (w.alloc (.cells zdp.toArray 155)) g (by omega) [wAND] (by simp [maxLen])
  have hS1 := hS0.alloc (.cells (strCs [wAND]).toArray 9)
  have r1 := r0.keep ((Same.refl (fun _ => True) _).alloc (.cells (strCs [wAND]).toArray 9)) trivial
  have hz1 : ((w.alloc (.cells zdp.toArray 155)).alloc (.cells (strCs [wAND]).toArray 9)).heap.size = w.heap.size + 2 := by simp
  rw [hz0] at hs1
  have hp1 := h.keep hS1
  have hc := chain_any g t o (.func (.func 143) #[pV g] #[]) F hR h16 hfit [wAND] _ l _ hp1 hs1
  simp only [List.length_cons, List.length_nil, Nat.zero_add, Nat.reduceAdd] at hc
  clear hR h16 hfit hS0 r0 hs1 hz0
  obtain ⟨X, hX⟩ : ∃ X, X = runT F [wAND] l := ⟨_, rfl⟩
  rw [← hX] at hc ⊢
  clear hX h
  have hmf : ∀ (fn : Fn) (first cap : Array Value) (w : World), (Instr.makeFunc fn first cap).run Tryz.prog w = .ok (.func fn first cap) w := fun _ _ _ _ => rfl
  go_enter Tryz.func135, Tryz.ntmps135
  go_wp2_with (go_at_call 134; refine stopAt ?_)
  unfold Hid
  simp only [zdp, strCs, List.map_cons, List.map_nil, wOR, wAND, str] at hS1 r1 hz1 hp1 hc
  revert hS1 r1 hz1 hp1 hc
  generalize (w.alloc _).alloc _ = w1
  intro hS1 r1 hz1 hp1 hc
  refine hc.mono ?_
  clear hc
  intro e w2 h2
  cases X with
  | error p =>
    obtain ⟨rfl, hS2⟩ := h2
    exact ⟨rfl, DoP.err ⟨rfl, hS2⟩ hS1⟩
  | ok q =>
    obtain ⟨d, l2⟩ := q
    obtain ⟨v, rfl, ⟨u, rfl, hex⟩, hp2, hS2⟩ := h2
    obtain ⟨Au, cu, rfl, -, -⟩ := hex.toL.form
    generalize d.e.args.length = nu at *
    have HPx := Lib.hid hp2
    have HRx : Hid (Row w2 w.heap.size 155 zdp) := Lib.hid (r1.keep hS2 (by omega))
    have HEx := Lib.hid (hex.mono (S' := fun q => w.heap.size + 1 ≤ q) fun q _ (h : w1.heap.size ≤ q) => by omega)
    have HSx := Lib.hid ((hS1.mono (S' := fun q => q ≠ g) fun _ _ _ => trivial).trans hS2)
    clear hex hp2 hS1 hS2 r1 hp1
    obtain ⟨hD, hG, hB, hC⟩ := fin_dp (u := .slice Au nu cu) (d := d) HPx.out HL3.out HRx.out HEx.out HSx.out
    have HD := Lib.hid hD
    have HG := Lib.hid hG
    have HB := Lib.hid hB
    have HC := Lib.hid hC
    clear hD hG hB hC
    have rr := HRx.out
    have q0 := rr.cell 0
    have q1 := rr.cell 1
    have q2 := rr.cell 2
    have q3 := rr.cell 3
    have q4 := rr.cell 4
    have q5 := rr.cell 5
    have q6 := rr.cell 6
    simp only [dpCs, zdp, List.getElem?_cons_zero, List.getElem?_cons_succ] at q0 q1 q2 q3 q4 q5 q6
    have x0 := rr.frozen 0
    have x1 := rr.frozen 1
    have x2 := rr.frozen 2
    have x3 := rr.frozen 3
    have x4 := rr.frozen 4
    have x5 := rr.frozen 5
    have x6 := rr.frozen 6
    have zr := rr.lt
    clear rr
    go_wp2
    refine bodyPost_ret (and_results (u := .slice Au nu cu) (d := d) (show Row _ _ _ (dpCs (.slice Au nu cu) d) from HD.out) rfl) rfl ?_
    exact ⟨_, rfl, HG.out, HB.out, HC.out⟩
theorem sum_results {W : World} {k : Nat} {u : Value} {d : Dp} (R : Row W k 155 (dpCs u d)) {tmps : Array Value} (h1 : tmps.getD 2 undef = .pointer (some ⟨k, 0, none⟩)) :
    (results Tryz.f150 tmps).run Tryz.prog W = .ok (dpV u d) W := by
  have d0 : W.cell? ⟨k, 0, none⟩ = some (.int .i64 d.e.kind) := R.cell 0
  have d1 : W.cell? ⟨k, 1, none⟩ = some (.string (str d.e.s)) := R.cell 1
  have d2 : W.cell? ⟨k, 2, none⟩ = some (.int .i64 d.e.v.kind) := R.cell 2
  have d3 : W.cell? ⟨k, 3, none⟩ = some (.int .i64 d.e.v.n) := R.cell 3
  have d4 : W.cell? ⟨k, 4, none⟩ = some (.string (str d.e.v.s)) := R.cell 4
  have d5 : W.cell? ⟨k, 5, none⟩ = some u := R.cell 5
  have d6 : W.cell? ⟨k, 6, none⟩ = some (.int .i64 d.n) := R.cell 6
  simp at h1
  simp [results, Tryz.results150, h1, go_sem, d0, d1, d2, d3, d4, d5, d6]
set_option maxRecDepth 100000 in
set_option maxHeartbeats 2000000 in
theorem sum_any (g t o : Nat) (F : List PT → PR Dp) (hR : RuleC g t o (.func (.func 151) #[pV g] #[]) F) (h16 : ∀ l, Shal (F l)) (hfit : ∀ l, EndOk l → Fit l (F l)) (l : List PT) (w : World) (h : PS w g t l o) : Calls Tryz.prog 150 #[pV g] w (DoP g t o (runT F [[43], [45]] l) (DpG w.heap.size) w) := by
  obtain ⟨l3, l4, l5⟩ := h.lt3
  have HL3 := Lib.hid h.lt3
  have hS0 := (Same.refl (fun _ => True) w).alloc (.cells zdp.toArray 155)
  have r0 := Row.new w 155 zdp
  have hz0 : (w.alloc (.cells zdp.toArray 155)).heap.size = w.heap.size + 1 := by simp
  have hs1 := StrR.new (w.alloc (.cells zdp.toArray 155)) g (by omega) [[43], [45]] (by simp [maxLen])
  have hS1 := hS0.alloc (.cells (strCs [[43], [45]]).toArray 9)
  have r1 := r0.keep ((Same.refl (fun _ => True) _).alloc (.cells (strCs [[43], [45]]).toArray 9)) trivial
  have hz1 : ((w.alloc (.cells zdp.toArray 155)).alloc (.cells (strCs [[43], [45]]).toArray 9)).heap.size = w.heap.size + 2 := by simp
  rw [hz0] at hs1
  have hp1 := h.keep hS1
  have hc := chain_any g t o (.func (.func 151) #[pV g] #[]) F hR h16 hfit [[43], [45]] _ l _ hp1 hs1
  simp only [List.length_cons, List.length_nil, Nat.zero_add, Nat.reduceAdd] at hc
  clear hR h16 hfit hS0 r0 hs1 hz0
  obtain ⟨X, hX⟩ : ∃ X, X = runT F [[43], [45]] l := ⟨_, rfl⟩
  rw [← hX] at hc ⊢
  clear hX h
  have hmf : ∀ (fn : Fn) (first cap : Array Value) (w : World), (Instr.makeFunc fn first cap).run Tryz.prog w = .ok (.func fn first cap) w := fun _ _ _ _ => rfl
  go_enter Tryz.func150, Tryz.ntmps150
  go_wp2_with (go_at_call 134; refine stopAt ?_)
  unfold Hid
  simp only [zdp, strCs, List.map_cons, List.map_nil, wOR, wAND, str] at hS1 r1 hz1 hp1 hc
  revert hS1 r1 hz1 hp1 hc
  generalize (w.alloc _).alloc _ = w1
  intro hS1 r1 hz1 hp1 hc
  refine hc.mono ?_
  clear hc
  intro e w2 h2
  cases X with
  | error p =>
    obtain ⟨rfl, hS2⟩ := h2
    exact ⟨rfl, DoP.err ⟨rfl, hS2⟩ hS1⟩
  | ok q =>
    obtain ⟨d, l2⟩ := q
    obtain ⟨v, rfl, ⟨u, rfl, hex⟩, hp2, hS2⟩ := h2
    obtain ⟨Au, cu, rfl, -, -⟩ := hex.toL.form
    generalize d.e.args.length = nu at *
    have HPx := Lib.hid hp2
    have HRx : Hid (Row w2 w.heap.size 155 zdp) := Lib.hid (r1.keep hS2 (by omega))
    have HEx := Lib.hid (hex.mono (S' := fun q => w.heap.size + 1 ≤ q) fun q _ (h : w1.heap.size ≤ q) => by omega)
    have HSx := Lib.hid ((hS1.mono (S' := fun q => q ≠ g) fun _ _ _ => trivial).trans hS2)
    clear hex hp2 hS1 hS2 r1 hp1
    obtain ⟨hD, hG, hB, hC⟩ := fin_dp (u := .slice Au nu cu) (d := d) HPx.out HL3.out HRx.out HEx.out HSx.out
    have HD := Lib.hid hD
    have HG := Lib.hid hG
    have HB := Lib.hid hB
    have HC := Lib.hid hC
    clear hD hG hB hC
    have rr := HRx.out
    have q0 := rr.cell 0
    have q1 := rr.cell 1
    have q2 := rr.cell 2
    have q3 := rr.cell 3
    have q4 := rr.cell 4
    have q5 := rr.cell 5
    have q6 := rr.cell 6
    simp only [dpCs, zdp, List.getElem?_cons_zero, List.getElem?_cons_succ] at q0 q1 q2 q3 q4 q5 q6
    have x0 := rr.frozen 0
    have x1 := rr.frozen 1
    have x2 := rr.frozen 2
    have x3 := rr.frozen 3
    have x4 := rr.frozen 4
    have x5 := rr.frozen 5
    have x6 := rr.frozen 6
    have zr := rr.lt
    clear rr
    go_wp2
    refine bodyPost_ret (sum_results (u := .slice Au nu cu) (d := d) (show Row _ _ _ (dpCs (.slice Au nu cu) d) from HD.out) rfl) rfl ?_
    exact ⟨_, rfl, HG.out, HB.out, HC.out⟩
theorem prod_results {W : World} {k : Nat} {u : Value} {d : Dp} (R : Row W k 155 (dpCs u d)) {tmps : Array Value} (h1 : tmps.getD 2 undef = .pointer (some ⟨k, 0, none⟩)) :
    (results Tryz.f151 tmps).run Tryz.prog W = .ok (dpV u d) W := by
  have d0 : W.cell? ⟨k, 0, none⟩ = some (.int .i64 d.e.kind) := R.cell 0
  have d1 : W.cell? ⟨k, 1, none⟩ = some (.string (str d.e.s)) := R.cell 1
  have d2 : W.cell? ⟨k, 2, none⟩ = some (.int .i64 d.e.v.kind) := R.cell 2
  have d3 : W.cell? ⟨k, 3, none⟩ = some (.int .i64 d.e.v.n) := R.cell 3
  have d4 : W.cell? ⟨k, 4, none⟩ = some (.string (str d.e.v.s)) := R.cell 4
  have d5 : W.cell? ⟨k, 5, none⟩ = some u := R.cell 5
  have d6 : W.cell? ⟨k, 6, none⟩ = some (.int .i64 d.n) := R.cell 6
  simp at h1
  simp [results, Tryz.results151, h1, go_sem, d0, d1, d2, d3, d4, d5, d6]
set_option maxRecDepth 100000 in
set_option maxHeartbeats 2000000 in
theorem prod_any (g t o : Nat) (F : List PT → PR Dp) (hR : RuleC g t o (.func (.func 152) #[pV g] #[]) F) (h16 : ∀ l, Shal (F l)) (hfit : ∀ l, EndOk l → Fit l (F l)) (l : List PT) (w : World) (h : PS w g t l o) : Calls Tryz.prog 151 #[pV g] w (DoP g t o (runT F [[42], [47], [37]] l) (DpG w.heap.size) w) := by
  obtain ⟨l3, l4, l5⟩ := h.lt3
  have HL3 := Lib.hid h.lt3
  have hS0 := (Same.refl (fun _ => True) w).alloc (.cells zdp.toArray 155)
  have r0 := Row.new w 155 zdp
  have hz0 : (w.alloc (.cells zdp.toArray 155)).heap.size = w.heap.size + 1 := by simp
  have hs1 := StrR.new (w.alloc (.cells zdp.toArray 155)) g (by omega) [[42], [47], [37]] (by simp [maxLen])
  have hS1 := hS0.alloc (.cells (strCs [[42], [47], [37]]).toArray 9)
  have r1 := r0.keep ((Same.refl (fun _ => True) _).alloc (.cells (strCs [[42], [47], [37]]).toArray 9)) trivial
  have hz1 : ((w.alloc (.cells zdp.toArray 155)).alloc (.cells (strCs [[42], [47], [37]]).toArray 9)).heap.size = w.heap.size + 2 := by simp
  rw [hz0] at hs1
  have hp1 := h.keep hS1
  have hc := chain_any g t o (.func (.func 152) #[pV g] #[]) F hR h16 hfit [[42], [47], [37]] _ l _ hp1 hs1
  simp only [List.length_cons, List.length_nil, Nat.zero_add, Nat.reduceAdd] at hc
  clear hR h16 hfit hS0 r0 hs1 hz0
  obtain ⟨X, hX⟩ : ∃ X, X = runT F [[42], [47], [37]] l := ⟨_, rfl⟩
  rw [← hX] at hc ⊢
  clear hX h
  have hmf : ∀ (fn : Fn) (first cap : Array Value) (w : World), (Instr.makeFunc fn first cap).run Tryz.prog w = .ok (.func fn first cap) w := fun _ _ _ _ => rfl
  go_enter Tryz.func151, Tryz.ntmps151
  go_wp2_with (go_at_call 134; refine stopAt ?_)
  unfold Hid
  simp only [zdp, strCs, List.map_cons, List.map_nil, wOR, wAND, str] at hS1 r1 hz1 hp1 hc
  revert hS1 r1 hz1 hp1 hc
  generalize (w.alloc _).alloc _ = w1
  intro hS1 r1 hz1 hp1 hc
  refine hc.mono ?_
  clear hc
  intro e w2 h2
  cases X with
  | error p =>
    obtain ⟨rfl, hS2⟩ := h2
    exact ⟨rfl, DoP.err ⟨rfl, hS2⟩ hS1⟩
  | ok q =>
    obtain ⟨d, l2⟩ := q
    obtain ⟨v, rfl, ⟨u, rfl, hex⟩, hp2, hS2⟩ := h2
    obtain ⟨Au, cu, rfl, -, -⟩ := hex.toL.form
    generalize d.e.args.length = nu at *
    have HPx := Lib.hid hp2
    have HRx : Hid (Row w2 w.heap.size 155 zdp) := Lib.hid (r1.keep hS2 (by omega))
    have HEx := Lib.hid (hex.mono (S' := fun q => w.heap.size + 1 ≤ q) fun q _ (h : w1.heap.size ≤ q) => by omega)
    have HSx := Lib.hid ((hS1.mono (S' := fun q => q ≠ g) fun _ _ _ => trivial).trans hS2)
    clear hex hp2 hS1 hS2 r1 hp1
    obtain ⟨hD, hG, hB, hC⟩ := fin_dp (u := .slice Au nu cu) (d := d) HPx.out HL3.out HRx.out HEx.out HSx.out
    have HD := Lib.hid hD
    have HG := Lib.hid hG
    have HB := Lib.hid hB
    have HC := Lib.hid hC
    clear hD hG hB hC
    have rr := HRx.out
    have q0 := rr.cell 0
    have q1 := rr.cell 1
    have q2 := rr.cell 2
    have q3 := rr.cell 3
    have q4 := rr.cell 4
    have q5 := rr.cell 5
    have q6 := rr.cell 6
    simp only [dpCs, zdp, List.getElem?_cons_zero, List.getElem?_cons_succ] at q0 q1 q2 q3 q4 q5 q6
    have x0 := rr.frozen 0
    have x1 := rr.frozen 1
    have x2 := rr.frozen 2
    have x3 := rr.frozen 3
    have x4 := rr.frozen 4
    have x5 := rr.frozen 5
    have x6 := rr.frozen 6
    have zr := rr.lt
    clear rr
    go_wp2
    refine bodyPost_ret (prod_results (u := .slice Au nu cu) (d := d) (show Row _ _ _ (dpCs (.slice Au nu cu) d) from HD.out) rfl) rfl ?_
    exact ⟨_, rfl, HG.out, HB.out, HC.out⟩
theorem not_results {W : World} {k : Nat} {u : Value} {d : Dp} (R : Row W k 155 (dpCs u d)) {tmps : Array Value} (h1 : tmps.getD 2 undef = .pointer (some ⟨k, 0, none⟩)) :
    (results Tryz.f143 tmps).run Tryz.prog W = .ok (dpV u d) W := by
  have d0 : W.cell? ⟨k, 0, none⟩ = some (.int .i64 d.e.kind) := R.cell 0
  have d1 : W.cell? ⟨k, 1, none⟩ = some (.string (str d.e.s)) := R.cell 1
  have d2 : W.cell? ⟨k, 2, none⟩ = some (.int .i64 d.e.v.kind) := R.cell 2
  have d3 : W.cell? ⟨k, 3, none⟩ = some (.int .i64 d.e.v.n) := R.cell 3
  have d4 : W.cell? ⟨k, 4, none⟩ = some (.string (str d.e.v.s)) := R.cell 4
  have d5 : W.cell? ⟨k, 5, none⟩ = some u := R.cell 5
  have d6 : W.cell? ⟨k, 6, none⟩ = some (.int .i64 d.n) := R.cell 6
  simp at h1
  simp [results, Tryz.results143, h1, go_sem, d0, d1, d2, d3, d4, d5, d6]
set_option maxRecDepth 100000 in
set_option maxHeartbeats 4000000 in
theorem not_any (g t o : Nat) (F G : List PT → PR Dp) (hR : RuleC g t o (.func (.func 143) #[pV g] #[]) F) (hC : RuleC g t o (.func (.func 149) #[pV g] #[]) G) (h16 : ∀ l, Shal (F l)) (l' : List PT) (w : World) (h : PS w g t l' o) : Calls Tryz.prog 143 #[pV g] w (DoP g t o (if isT wNOT l' then thenT (F l'.tail) fun d l1 => opT (hdT l').1 wNOT [d] l1 else G l') (DpG w.heap.size) w) := by
  obtain ⟨l3, l4, l5⟩ := h.lt3
  have HL3 := Lib.hid h.lt3
  have HR := Lib.hid hR
  have HC := Lib.hid hC
  have H16 := Lib.hid h16
  obtain ⟨off, c, hrow, hc, hm, hpos, t0, t1, t2, t3⟩ := h.open_
  unfold maxLen at hm
  have b0 := hrow.cell 0
  simp only [List.getElem?_cons_zero] at b0
  have hl0 : (0 : Int) < (l'.length : Int) := by omega
  obtain ⟨tk, htk⟩ : ∃ tk, tk = hdT l' := ⟨_, rfl⟩
  rw [← htk] at t0 t1 t2 t3
  have r0 := (Row.new w 155 zdp).keep ((Same.refl (fun _ => True) _).alloc (.cells (tokCs tk).toArray 75)) trivial
  have r1 := Row.new (w.alloc (.cells zdp.toArray 155)) 75 (tokCs tk)
  have hS1 := (((Same.refl (fun _ => True) w).alloc (.cells zdp.toArray 155)).alloc (.cells (tokCs tk).toArray 75))
  have hz1 : ((w.alloc (.cells zdp.toArray 155)).alloc (.cells (tokCs tk).toArray 75)).heap.size = w.heap.size + 2 := by simp
  rw [World.size_alloc] at r1
  have hp1 := h.keep hS1
  obtain ⟨X, hX⟩ : ∃ X, X = (if isT wNOT l' then thenT (F l'.tail) fun d l1 => opT (hdT l').1 wNOT [d] l1 else G l') := ⟨_, rfl⟩
  rw [← hX]
  rw [← htk] at hX
  have ht := take_any g t l' o wNOT _ hp1
  have HX := Lib.hid hX
  clear h htk hR hC h16 hrow hX
  have hmf : ∀ (fn : Fn) (first cap : Array Value) (w : World), (Instr.makeFunc fn first cap).run Tryz.prog w = .ok (.func fn first cap) w := fun _ _ _ _ => rfl
  go_enter Tryz.func143, Tryz.ntmps143
  go_wp2_with (go_at_call 37; refine stopAt ?_)
  unfold Hid
  simp only [zdp, tokCs] at r0 r1 hS1 hz1 hp1 ht
  revert r0 r1 hS1 hz1 hp1 ht
  generalize (w.alloc _).alloc _ = w1
  intro r0 r1 hS1 hz1 hp1 ht
  refine ht.mono ?_
  clear ht
  rintro e w2 ⟨rfl, hp2, hS2⟩
  have r0 := r0.keep hS2 (by omega)
  have r1 := r1.keep hS2 (by omega)
  have hz2 := hS2.size
  have HSw := Lib.hid ((hS1.mono (S' := fun q => q ≠ g) fun _ _ _ => trivial).trans hS2)
  have HRw : Hid (Row w2 w.heap.size 155 zdp) := Lib.hid r0
  have k0 := r1.cell 0
  have k1 := r1.cell 1
  have k2 := r1.cell 2
  have k3 := r1.cell 3
  simp only [List.getElem?_cons_zero, List.getElem?_cons_succ] at k0 k1 k2 k3
  clear hS1 hS2 r0 r1 hp1 t0 t1 t2 t3 b0
  have hX := HX.out
  clear HX
  cases hq : isT wNOT l'
  · rw [hq, if_neg (by simp)] at hp2 hX
    have HPw := Lib.hid hp2
    have HX0 := Lib.hid hX
    clear hq hp2 hX
    go_wp2_with (go_at_call 128; refine stopAt ?_)
    unfold Hid
    refine (HC.out l' w2 HPw.out).mono ?_
    intro e w3 h3
    rw [← HX0.out] at h3
    cases X with
    | error p =>
      obtain ⟨rfl, hS3⟩ := h3
      exact ⟨rfl, DoP.err ⟨rfl, hS3⟩ HSw.out fun _ h => h⟩
    | ok q =>
      obtain ⟨d, l2⟩ := q
      obtain ⟨v, rfl, ⟨u, rfl, hex⟩, hp3, hS3⟩ := h3
      obtain ⟨Au, cu, rfl, -, -⟩ := hex.toL.form
      generalize d.e.args.length = nu at *
      have HPx := Lib.hid hp3
      have HRx := Lib.hid (HRw.out.keep hS3 (by omega))
      have HEx := Lib.hid (hex.mono (S' := fun q => w.heap.size + 1 ≤ q) fun q _ (h : w2.heap.size ≤ q) => by omega)
      have HSx := Lib.hid (HSw.out.trans hS3)
      clear hex hp3 hS3
      obtain ⟨hD, hG, hB, hC⟩ := fin_dp (u := .slice Au nu cu) (d := d) HPx.out HL3.out HRx.out HEx.out HSx.out
      have HD := Lib.hid hD
      have HG := Lib.hid hG
      have HB := Lib.hid hB
      have HC := Lib.hid hC
      clear hD hG hB hC
      have rr := HRx.out
      have q0 := rr.cell 0
      have q1 := rr.cell 1
      have q2 := rr.cell 2
      have q3 := rr.cell 3
      have q4 := rr.cell 4
      have q5 := rr.cell 5
      have q6 := rr.cell 6
      simp only [dpCs, zdp, List.getElem?_cons_zero, List.getElem?_cons_succ] at q0 q1 q2 q3 q4 q5 q6
      have x0 := rr.frozen 0
      have x1 := rr.frozen 1
      have x2 := rr.frozen 2
      have x3 := rr.frozen 3
      have x4 := rr.frozen 4
      have x5 := rr.frozen 5
      have x6 := rr.frozen 6
      have zr := rr.lt
      clear rr
      go_wp2
      refine bodyPost_ret (not_results (u := .slice Au nu cu) (d := d) (show Row _ _ _ (dpCs (.slice Au nu cu) d) from HD.out) rfl) rfl ?_
      exact ⟨_, rfl, HG.out, HB.out, HC.out⟩
  · rw [hq, if_pos rfl] at hp2 hX
    have HPw := Lib.hid hp2
    have HX0 := Lib.hid hX
    have htok : TR g w.heap.size (w.heap.size + 1) := ⟨by omega, by omega⟩
    clear hq hp2 hX
    go_upto_region 3 with (fail)
    obtain ⟨x, hxe⟩ : ∃ x, x = F l'.tail := ⟨_, rfl⟩
    have Hxe := Lib.hid hxe
    have hgB : g < w.heap.size + 1 := by omega
    have HXr : Hid (∀ p, x = .error p → X = .error p) := Lib.hid fun p hp => by rw [HX0.out, ← hxe, hp]; rfl
    have HXo : Hid (x = .ok (valT x, leftT x) → 16 < deepOf [valT x] + 1 → X = .error (tk.1, 3)) := Lib.hid fun hp hd => by
      rw [HX0.out, ← hxe]
      conv => lhs; rw [hp]
      rw [thenT_ok]
      unfold opT
      rw [if_pos hd]
    have HXk : Hid (x = .ok (valT x, leftT x) → deepOf [valT x] ≤ 15 → X = .ok (opD wNOT [valT x], leftT x)) := Lib.hid fun hp hd => by
      rw [HX0.out, ← hxe]
      conv => lhs; rw [hp]
      rw [thenT_ok, opT_ok hd]
    have HD16 : Hid (x = .ok (valT x, leftT x) → ∀ d' ∈ [valT x], d'.n ≤ 1000000) := Lib.hid fun hp d' hd' => by
      have := H16.out l'.tail (valT x) (leftT x) (hxe.symm.trans hp)
      simp only [List.mem_cons, List.not_mem_nil, or_false] at hd'
      subst hd'; omega
    have HST : Hid (RegS g t o w.heap.size (w.heap.size + 1) l'.tail (leftT x) zdp (opD wNOT [valT x]) (x = .ok (valT x, leftT x) ∧ deepOf [valT x] ≤ 15) false false w2.drew) := Lib.hid (RegS.keep (W := w2) ⟨HPw.out, fun _ => HRw.out, fun h => by cases h⟩ (Same.refl _ _).drew)
    have HS3 := HSw
    clear hxe
    refine wp_region_full_lit (T := TR g (w.heap.size)) (L := [some (.eq (tokV4 tk)), some (.eq (pV g)), some (.eq (pV g)), some (.eq (.func (.func 143) #[pV g] #[])), some (RuS g (w.heap.size) (w.heap.size + 1) hgB x), some (SlS g (w.heap.size) (w.heap.size + 1) hgB [valT x] (x = .ok (valT x, leftT x))), some (OpS g (w.heap.size) (w.heap.size + 1) hgB (opD wNOT [valT x]) (x = .ok (valT x, leftT x) ∧ deepOf [valT x] ≤ 15)), none]) (fun f _ W => RegS g t o (w.heap.size) (w.heap.size + 1) l'.tail (leftT x) (zdp) (opD wNOT [valT x]) (x = .ok (valT x, leftT x) ∧ deepOf [valT x] ≤ 15) (f 4) (f 7) W) (by kernel_rfl) (by kernel_rfl) (by rfl) rfl ?_ ?_ ?_
    · exact HST.out
    · refine ⟨?_, ?_, ?_, ?_, ?_, ?_, ?_, ?_, trivial⟩
      · intro ac wc f hs hst hni hwt hdn hd hz hf hw K hK
        generalize hU : valF _ ac = U at hst hK
        have e0 : ac.eval (.tmp 3) = (.pointer (some ⟨w.heap.size + 1, 0, none⟩)) := hf 3 rfl
        have m0 : wc.cell? ⟨w.heap.size + 1, 0, none⟩ = some (.int .i64 tk.2.kind) := hs.cell (p := ⟨w.heap.size + 1, 0, none⟩) htok k0
        have m1 : wc.cell? ⟨w.heap.size + 1, 1, none⟩ = some (.int .i64 tk.1) := hs.cell (p := ⟨w.heap.size + 1, 1, none⟩) htok k1
        have m2 : wc.cell? ⟨w.heap.size + 1, 2, none⟩ = some (.string (str tk.2.s)) := hs.cell (p := ⟨w.heap.size + 1, 2, none⟩) htok k2
        have m3 : wc.cell? ⟨w.heap.size + 1, 3, none⟩ = some (.int .i64 tk.2.n) := hs.cell (p := ⟨w.heap.size + 1, 3, none⟩) htok k3
        clear hd hz hf hw
        simp only [Region.wanted, if_true, Oper.wp, execOp, resolve, List.map_toArray, List.map_cons, List.map_nil, Option.map_some, Option.map_none, e0]
        go_simp
        exact hK _ _ (fun _ => rfl) (Same.refl _ _) hst
      · intro ac wc f hs hst hni hwt hdn hd hz hf hw K hK
        generalize hU : valF _ ac = U at hst hK
        have e0 : ac.eval (.tmp 0) = (pV g) := hf 0 rfl
        clear hd hz hf hw
        simp only [Region.wanted, if_true, Oper.wp, execOp, resolve, List.map_toArray, List.map_cons, List.map_nil, Option.map_some, Option.map_none, e0]
        go_simp
        exact hK _ _ (fun _ => rfl) (Same.refl _ _) hst
      · intro ac wc f hs hst hni hwt hdn hd hz hf hw K hK
        generalize hU : valF _ ac = U at hst hK
        have e0 : ac.eval (.tmp 0) = (pV g) := hf 0 rfl
        clear hd hz hf hw
        simp only [Region.wanted, if_true, Oper.wp, execOp, resolve, List.map_toArray, List.map_cons, List.map_nil, Option.map_some, Option.map_none, e0]
        go_simp
        exact hK _ _ (fun _ => rfl) (Same.refl _ _) hst
      · intro ac wc f hs hst hni hwt hdn hd hz hf hw K hK
        generalize hU : valF _ ac = U at hst hK
        have e0 : ac.eval (.tmp 14) = (pV g) := hw 2 rfl
        clear hd hz hf hw
        simp only [Region.wanted, if_true, Oper.wp, execOp, resolve, List.map_toArray, List.map_cons, List.map_nil, Option.map_some, Option.map_none, e0]
        go_simp
        exact hK _ _ (fun _ => rfl) (Same.refl _ _) hst
      · intro ac wc f hs hst hni hwt hdn hd hz hf hw K hK
        generalize hU : valF _ ac = U at hst hK
        have e0 : ac.eval (.tmp 13) = (pV g) := hw 1 rfl
        have e1 : ac.eval (.tmp 15) = (.func (.func 143) #[pV g] #[]) := hw 3 rfl
        have Hdf := Lib.hid (show ac.defers = [] from hd)
        have h9 : f 7 = false := by
          cases h : f 7 with
          | false => rfl
          | true => (have h8 := hdn 7 6 rfl h; have h7 := hdn 6 5 rfl h8; have h6 := hdn 5 4 rfl h7; rw [hni] at h6; cases h6)
        have hps : PS wc g t l'.tail o := by
          have := hst.1
          rw [hni] at this
          exact this
        have hrd := hst.2.1 h9
        clear hd hz hf hw
        simp only [Region.wanted, if_true, Oper.wp, execOp, resolve, List.map_toArray, List.map_cons, List.map_nil, Option.map_some, Option.map_none, e0, e1]
        go_simp
        refine (HR.out l'.tail wc hps).mono ?_
        intro e wd h1
        cases hx : F l'.tail with
        | error p =>
          rw [hx] at h1
          obtain ⟨rfl, hSp⟩ := h1
          have hq : DoP g t o X (DpG w.heap.size) w (.panicked [{ v := failV p.1 p.2, recovered := false }]) wd := by
            rw [HXr.out p (Hxe.out.trans hx)]
            exact DoP.err ⟨rfl, hSp⟩ (HS3.out.trans' hs fun q hq h => ⟨h, by omega⟩) fun _ h => h
          exact ⟨Hdf.out, hq⟩
        | ok q =>
          rw [hx] at h1
          obtain ⟨v', rfl, ⟨u2, rfl, hex2⟩, hp2, hS2⟩ := h1
          have hxx : x = .ok (valT x, leftT x) := by rw [Hxe.out, hx]; rfl
          have hx1 : valT x = q.1 := by rw [Hxe.out, hx]; rfl
          have hx2 : leftT x = q.2 := by rw [Hxe.out, hx]; rfl
          have hzc := hs.size
          refine hK _ _ (fun _ => ⟨u2, by rw [hx1], by rw [hx1]; exact hex2.mono fun k hk (h : wc.heap.size ≤ k) => ⟨by omega, by omega⟩, hxx⟩) (hS2.mono fun k hk h => h.1) ⟨?_, ?_, ?_⟩
          · show PS wd g t (leftT x) o
            rw [hx2]
            exact hp2
          · intro _
            exact hrd.keep hS2 (by omega)
          · intro h
            have h : f 7 = true := h
            rw [h9] at h
            cases h
      · intro ac wc f hs hst hni hwt hdn hd hz hf hw K hK
        generalize hU : valF _ ac = U at hst hK
        have p0 : (RuS g (w.heap.size) (w.heap.size + 1) hgB x : SPT (TR g (w.heap.size))).p (ac.eval (.tmp 16)) wc := hw 4 rfl
        obtain ⟨u0, e0⟩ : ∃ u, ac.eval (.tmp 16) = u := ⟨_, rfl⟩
        have v0 : U 4 = u0 := by rw [← hU]; exact e0
        rw [e0] at p0
        obtain ⟨u2, rfl, hex2, hxx⟩ := p0
        obtain ⟨A2, c2, rfl, -, -⟩ := hex2.toL.form
        have Hxx := Lib.hid hxx
        clear hxx
        have Hex2 := Lib.hid hex2
        clear hex2
        clear hd hz hf hw
        simp only [Region.wanted, if_true, Oper.wp, execOp, resolve, List.map_toArray, List.map_cons, List.map_nil, Option.map_some, Option.map_none, e0]
        go_simp
        have hzc := hs.size
        have hex2 := Hex2.out
        have hxx := Hxx.out
        exact hK _ _ (fun _ => ⟨DpR.one hex2 ⟨by omega, by omega⟩, hxx⟩) ((Same.refl _ _).alloc _) (RegS.keep hst ((Same.refl _ _).alloc _))
      · intro ac wc f hs hst hni hwt hdn hd hz hf hw K hK
        generalize hU : valF _ ac = U at hst hK
        have e0 : ac.eval (.tmp 12) = (tokV4 tk) := hw 0 rfl
        have p1 : (SlS g (w.heap.size) (w.heap.size + 1) hgB [valT x] (x = .ok (valT x, leftT x)) : SPT (TR g (w.heap.size))).p (ac.eval (.tmp 17)) wc := hw 5 rfl
        obtain ⟨u1, e1⟩ : ∃ u, ac.eval (.tmp 17) = u := ⟨_, rfl⟩
        have v1 : U 5 = u1 := by rw [← hU]; exact e1
        rw [e1] at p1
        have Hdf := Lib.hid (show ac.defers = [] from hd)
        have HSB := Lib.hid p1
        clear p1
        clear hd hz hf hw
        simp only [Region.wanted, if_true, Oper.wp, execOp, resolve, List.map_toArray, List.map_cons, List.map_nil, Option.map_some, Option.map_none, e0, e1]
        go_simp
        obtain ⟨hsb, hxx⟩ := HSB.out
        refine (op_any tk wNOT _ [valT x] _ wc hsb (by simp) (HD16.out hxx)).mono ?_
        intro e wd ⟨hA1, hA2, hS2⟩
        have hzc := hs.size
        by_cases hdp : 16 < deepOf [valT x] + 1
        · obtain rfl := hA1 hdp
          have hq : DoP g t o X (DpG w.heap.size) w (.panicked [{ v := failV tk.1 3, recovered := false }]) wd := by
            rw [HXo.out hxx hdp]
            exact DoP.err ⟨rfl, hS2.mono fun _ _ _ => trivial⟩ (HS3.out.trans' hs fun q hq h => ⟨h, by omega⟩) fun _ h => h
          exact ⟨Hdf.out, hq⟩
        · obtain ⟨u3, rfl, hex3⟩ := hA2 hdp
          exact hK _ _ (fun _ => ⟨u3, rfl, hex3.mono fun k hk h => h.elim id fun h => ⟨by omega, by omega⟩, hxx, by omega⟩) (hS2.mono fun _ _ _ => trivial) (RegS.keep hst hS2)
      · intro ac wc f hs hst hni hwt hdn hd hz hf hw K hK
        generalize hU : valF _ ac = U at hst hK
        have e0 : ac.eval (.tmp 2) = (.pointer (some ⟨w.heap.size, 0, none⟩)) := hf 2 rfl
        have p1 : (OpS g (w.heap.size) (w.heap.size + 1) hgB (opD wNOT [valT x]) (x = .ok (valT x, leftT x) ∧ deepOf [valT x] ≤ 15) : SPT (TR g (w.heap.size))).p (ac.eval (.tmp 18)) wc := hw 6 rfl
        obtain ⟨u1, e1⟩ : ∃ u, ac.eval (.tmp 18) = u := ⟨_, rfl⟩
        have v1 : U 6 = u1 := by rw [← hU]; exact e1
        rw [e1] at p1
        obtain ⟨u3, rfl, hex3, hok⟩ := p1
        have Hok := Lib.hid hok
        clear hok
        obtain ⟨A3, c3, rfl, -, -⟩ := hex3.toL.form
        generalize (opD wNOT [valT x]).e.args.length = n3 at *
        have hr_ := hst.2.1 hni
        have m0 := hr_.cell 0
        have m1 := hr_.cell 1
        have m2 := hr_.cell 2
        have m3 := hr_.cell 3
        have m4 := hr_.cell 4
        have m5 := hr_.cell 5
        have m6 := hr_.cell 6
        simp only [dpCs, zdp, List.getElem?_cons_zero, List.getElem?_cons_succ] at m0 m1 m2 m3 m4 m5 m6
        have n0_ := hr_.frozen 0
        have n1_ := hr_.frozen 1
        have n2_ := hr_.frozen 2
        have n3_ := hr_.frozen 3
        have n4_ := hr_.frozen 4
        have n5_ := hr_.frozen 5
        have n6_ := hr_.frozen 6
        have zr := hr_.lt
        clear hd hz hf hw
        simp only [Region.wanted, if_true, Oper.wp, execOp, resolve, List.map_toArray, List.map_cons, List.map_nil, Option.map_some, Option.map_none, e0, e1]
        go_simp
        have hss : Same (fun q => q ≠ w.heap.size) wc (setsW wc (w.heap.size) 0 (dpCs (.slice A3 n3 c3) (opD wNOT [valT x]))) := Same.sets (fun h => h rfl) _ 0 (Same.refl _ _)
        have hA := hst.1.keepB hss (by omega) (by omega) (by omega)
        have hB := hr_.sets (dpCs (.slice A3 n3 c3) (opD wNOT [valT x])) 0
        have hC := hex3.keep (hss.mono (S' := fun q => w.heap.size + 1 ≤ q ∧ q ≠ w.heap.size) fun k _ h => h.2)
        have hD := hss.mono (S' := TR g (w.heap.size)) fun k _ h => h.2
        refine hK undef _ (fun h => (by cases h)) ?_ ⟨?_, ?_, ?_⟩
        · exact hD
        · exact hA
        · exact fun h => (by cases h)
        · exact fun _ => ⟨Hok.out, .slice A3 n3 c3, hB, hC⟩
    · intro vs wR f hvl hvp hsR hst hfR
      rcases vs with _ | ⟨z0, _ | ⟨z1, _ | ⟨z2, _ | ⟨z3, _ | ⟨z4, _ | ⟨z5, _ | ⟨z6, _ | ⟨z7, _ | ⟨zz, zr⟩⟩⟩⟩⟩⟩⟩⟩⟩
      rotate_right 1
      · simp at hvl
      · simp at hvl
      · simp at hvl
      · simp at hvl
      · simp at hvl
      · simp at hvl
      · simp at hvl
      · simp at hvl
      · simp at hvl
      · obtain rfl : z0 = (tokV4 tk) := hvp 0 (by simp)
        obtain rfl : z1 = (pV g) := hvp 1 (by simp)
        obtain rfl : z2 = (pV g) := hvp 2 (by simp)
        obtain rfl : z3 = (.func (.func 143) #[pV g] #[]) := hvp 3 (by simp)
        have hru : (RuS g (w.heap.size) (w.heap.size + 1) hgB x : SPT (TR g (w.heap.size))).p z4 wR := hvp 4 (by simp)
        have hsb : (SlS g (w.heap.size) (w.heap.size + 1) hgB [valT x] (x = .ok (valT x, leftT x)) : SPT (TR g (w.heap.size))).p z5 wR := hvp 5 (by simp)
        have hpo : (OpS g (w.heap.size) (w.heap.size + 1) hgB (opD wNOT [valT x]) (x = .ok (valT x, leftT x) ∧ deepOf [valT x] ≤ 15) : SPT (TR g (w.heap.size))).p z6 wR := hvp 6 (by simp)
        clear hvl hvp
        simp only [putAll, Act.put, List.setIfInBounds_toArray, List.set_cons_succ, List.set_cons_zero, List.take_succ_cons, List.take_zero, List.drop_succ_cons, List.drop_zero]
        clear hru hsb hpo
        have hst := hst
        rw [hfR 4, hfR 7] at hst
        obtain ⟨hpR, -, hnew⟩ := hst
        obtain ⟨⟨hxx, hdo⟩, u3, hrN, hexN⟩ := hnew rfl
        have hpR : PS wR g t (leftT x) o := hpR
        have HSe := Lib.hid (HSw.out.trans' hsR fun q hq h => ⟨h, by omega⟩)
        have HPe := Lib.hid hpR
        have HRe := Lib.hid hrN
        have HEe := Lib.hid (hexN.mono (S' := fun q => w.heap.size ≤ q) fun q _ h => by have := h.1; omega)
        have HXe := Lib.hid (HXk.out hxx hdo)
        clear hpR hnew hxx hdo hrN hexN
        go_wp2
        refine bodyPost_ret (not_results (show Row _ _ _ (dpCs u3 _) from HRe.out) rfl) rfl ?_
        rw [HXe.out]
        exact ⟨_, rfl, ⟨_, rfl, HEe.out⟩, HPe.out, HSe.out⟩
end Go.Proofs.YtdfojghhpdkpfaaGreatDoor
