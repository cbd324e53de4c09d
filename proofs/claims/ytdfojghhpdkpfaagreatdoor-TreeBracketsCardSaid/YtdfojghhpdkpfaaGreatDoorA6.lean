/-
  Words, plain models, laws and walks that the claims of this layer share (joined by shake.py). No condition.
-/
import Derived.Laws.StructEq
import Derived.Test.YtdfojghhpdkpfaaGreatDoorA5
set_option linter.unusedSimpArgs false
set_option linter.unusedVariables false
namespace Go.Proofs.YtdfojghhpdkpfaaGreatDoor
open Go.RowKit
/-- What a thing's own part (behind its cells) keeps. -/
structure OkK {α β : Type} (ok : World → (Nat → Prop) → β → α → Prop) : Prop where
  keep : ∀ {w w' : World} {S : Nat → Prop} {u : β} {x : α}, ok w S u x → Same S w w' → ok w' S u x
  mono : ∀ {w : World} {S S' : Nat → Prop} {u : β} {x : α}, ok w S u x → (∀ k, k < w.heap.size → S k → S' k) → ok w S' u x
/-- A slice of such things. -/
def LsR {α β : Type} (cs : β × α → List Value) (n : Nat) (ok : World → (Nat → Prop) → β → α → Prop) (w : World) (S : Nat → Prop) (v : Value) (l : List α) : Prop :=
  ∃ us : List β, us.length = l.length ∧ RowR cs n w S v (us.zip l) ∧ ∀ (i : Nat) (u : β) (x : α), us[i]? = some u → l[i]? = some x → ok w S u x
/-- Such a slice that the call owns. -/
def OwnL {α β : Type} (cs : β × α → List Value) (n : Nat) (e : TypeId) (ok : World → (Nat → Prop) → β → α → Prop) (w : World) (B : Nat) (v : Value) (l : List α) : Prop :=
  ∃ us : List β, us.length = l.length ∧ OwnR cs n e w B v (us.zip l) ∧ ∀ (i : Nat) (u : β) (x : α), us[i]? = some u → l[i]? = some x → ok w (fun q => B ≤ q ∧ some q ≠ v.ownBlock) u x
section
variable {α β : Type} {cs : β × α → List Value} {n : Nat} {e : TypeId} {ok : World → (Nat → Prop) → β → α → Prop} {w w' : World} {S S' : Nat → Prop} {B : Nat} {v : Value} {l : List α}
theorem LsR.keep (hk : OkK ok) (h : LsR cs n ok w S v l) (hs : Same S w w') : LsR cs n ok w' S v l := by
  obtain ⟨us, h1, h2, h3⟩ := h
  exact ⟨us, h1, h2.keep hs, fun i u x a b => hk.keep (h3 i u x a b) hs⟩
theorem LsR.keepAll (hk : OkK ok) (h : LsR cs n ok w S v l) (hs : Same (fun _ => True) w w') : LsR cs n ok w' S v l := h.keep hk (hs.mono fun _ _ _ => trivial)
theorem LsR.mono (hk : OkK ok) (hn : 0 < n) (h : LsR cs n ok w S v l) (hS : ∀ k, k < w.heap.size → S k → S' k) : LsR cs n ok w S' v l := by
  obtain ⟨us, h1, h2, h3⟩ := h
  exact ⟨us, h1, h2.mono hn hS, fun i u x a b => hk.mono (h3 i u x a b) hS⟩
theorem LsR.nil (w : World) (S : Nat → Prop) : LsR cs n ok w S (.slice none 0 0) [] := ⟨[], rfl, RowR.nil_ w S none 0 (by simp [maxLen]), fun i u x h => by simp at h⟩
theorem LsR.form (h : LsR cs n ok w S v l) : ∃ A c, v = .slice A l.length c ∧ l.length ≤ c ∧ c ≤ maxLen := by
  obtain ⟨us, h1, ⟨A, c, h2, h3, h4, _⟩, _⟩ := h
  have : (us.zip l).length = l.length := by simp [h1]
  rw [this] at h2 h3
  exact ⟨A, c, h2, h3, h4⟩
theorem OwnL.keep (hk : OkK ok) (h : OwnL cs n e ok w B v l) (hs : Same S w w') (hS : ∀ k, B ≤ k → k < w.heap.size → S k) : OwnL cs n e ok w' B v l := by
  obtain ⟨us, h1, h2, h3⟩ := h
  exact ⟨us, h1, OwnR.keep h2 hs hS, fun i u x a b => hk.keep (h3 i u x a b) (hs.mono fun k hk h => hS k h.1 hk)⟩
theorem OwnL.keepAll (hk : OkK ok) (h : OwnL cs n e ok w B v l) (hs : Same (fun _ => True) w w') : OwnL cs n e ok w' B v l := h.keep hk hs fun _ _ _ => trivial
theorem OwnL.nil (w : World) (B : Nat) : OwnL cs n e ok w B (.slice none 0 0) [] := ⟨[], rfl, OwnR.nil w B, fun i u x h => by simp at h⟩
theorem OwnL.form (h : OwnL cs n e ok w B v l) : ∃ A c, v = .slice A l.length c ∧ l.length ≤ c ∧ c ≤ maxLen := by
  obtain ⟨us, h1, h2, _⟩ := h
  obtain ⟨A, c, h3, h4, h5⟩ := OwnR.form h2
  have : (us.zip l).length = l.length := by simp [h1]
  rw [this] at h3 h4
  exact ⟨A, c, h3, h4, h5⟩
theorem OwnL.ls (hk : OkK ok) (hf : ∀ x, (cs x).length = n) (h : OwnL cs n e ok w B v l) : LsR cs n ok w (fun q => B ≤ q) v l := by
  obtain ⟨us, h1, h2, h3⟩ := h
  exact ⟨us, h1, (OwnR.wr h2).row hf, fun i u x a b => hk.mono (h3 i u x a b) fun k _ h => h.1⟩
theorem OwnL.one (hf : ∀ x, (cs x).length = n) {u : β} {x : α} (hk : OkK ok) (hx : ok w (fun q => B ≤ q) u x) (hB : B ≤ w.heap.size) : OwnL cs n e ok (w.alloc (.cells (cs (u, x)).toArray e)) B (.slice (some ⟨w.heap.size, 0, none⟩) 1 1) [x] := by
  have hs := (Same.refl (fun _ => True) w).alloc (.cells (cs (u, x)).toArray e)
  refine ⟨[u], rfl, ⟨by simp [hf], .inr ⟨w.heap.size, 1, (cs (u, x)).toArray, rfl, hB, Row.new w e (cs (u, x)), Nat.le_refl _, by simp [maxLen], by simp [hf], ?_⟩⟩, fun i u' x' h1 h2 => ?_⟩
  · simp only [List.zip_cons_cons, List.zip_nil_right, List.flatMap_cons, List.flatMap_nil, List.append_nil]
    exact List.take_of_length_le (by simp [hf])
  · cases i with
    | zero =>
      simp at h1 h2
      subst h1 h2
      exact hk.keep (hk.mono hx fun k hk h => ⟨h, fun e => by injection e with e; have e : k = w.heap.size := e; omega⟩) (hs.mono fun _ _ _ => trivial)
    | succ i => simp at h1
/-- One more thing behind a slice that the call owns. -/
theorem wpList_appZ {P : Program} {t : TypeId} {bytes : Nat} {z : Value} (T : SlT P t e n bytes z) (hf : ∀ x, (cs x).length = n) (hk : OkK ok) {ops : Array Oper} {rest : List Oper} {o : Oper} {a : Act} {Q : Exit → Act → World → Prop} (hgd : o.guard = none) (s x : Operand)
    (ho : o.op = .call { callee := .builtin .append, args := #[s, x], argTypes := #[t, t] }) (u : β) (y : α) (h1 : ∀ c ∈ cs (u, y), c.oneCell' = true)
    (hs : a.eval s = v) {g : Nat} (hx : a.eval x = .slice (some ⟨g, 0, none⟩) 1 1) (hg : g = w.heap.size) (hown : OwnL cs n e ok w B v l) (hy : ok w (fun q => B ≤ q ∧ some q ≠ v.ownBlock) u y) (hB : B ≤ w.heap.size) (hlen : l.length + 1 ≤ maxLen) (hbytes : (l.length + 1) * bytes ≤ 140737488355328)
    (hK : ∀ v' w', OwnL cs n e ok w' B v' (l ++ [y]) → Same (fun k => some k ≠ v.ownBlock) w w' → (v'.ownBlock = v.ownBlock ∨ v'.ownBlock = some (w.heap.size + 1)) → wpList P ops Q rest (a.put o.dst v') w') : wpList P ops Q (o :: rest) a (w.alloc (.cells (cs (u, y)).toArray e)) := by
  subst hg
  obtain ⟨us, k1, k2, k3⟩ := hown
  have hzl : (us.zip l).length = l.length := by simp [k1]
  have hs1 : Same (fun _ => True) w (w.alloc (.cells (cs (u, y)).toArray e)) := (Same.refl _ _).alloc _
  have hrow := Row.new w e (cs (u, y))
  have hsl := hrow.sl (size := n) (off := 0) (n := 1) (by rw [hf]; omega)
  rw [List.drop_zero, List.take_of_length_le (by rw [hf]; omega)] at hsl
  refine wpList_app T _ hgd s x ho B v (us.zip l).length ((us.zip l).flatMap cs) hs (OwnR.keepAll k2 hs1) _ _ 1 1 (cs (u, y)) hx hsl h1 (by omega) (by rw [hzl]; exact hbytes) (by simp; omega) ?_
  intro v' w' h2 h3 h4
  rw [World.size_alloc] at h4
  have hs3 : Same (fun k => some k ≠ v.ownBlock) w w' := (hs1.mono fun _ _ _ => trivial).trans h3
  have hne : ∀ k, k < w.heap.size → some k ≠ v.ownBlock → some k ≠ v'.ownBlock := by
    intro k hk h e'
    rcases h4 with h4 | h4
    · exact h (e'.trans h4)
    · rw [h4] at e'; injection e' with e'; omega
  refine hK v' w' ⟨us ++ [u], by simp [k1], ?_, fun i u' x' a b => ?_⟩ hs3 h4
  · unfold OwnR
    rw [List.zip_append k1, List.length_append, List.flatMap_append]
    simpa using h2
  · have step : ∀ u'' x'', ok w (fun q => B ≤ q ∧ some q ≠ v.ownBlock) u'' x'' → ok w' (fun q => B ≤ q ∧ some q ≠ v'.ownBlock) u'' x'' := fun u'' x'' h =>
      hk.mono (hk.keep (hk.mono h (S' := fun q => (B ≤ q ∧ some q ≠ v.ownBlock) ∧ some q ≠ v'.ownBlock) fun k hk h => ⟨h, hne k hk h.2⟩) (hs3.mono fun k _ h => h.1.2)) fun k _ h => ⟨h.1.1, h.2⟩
    by_cases hi : i < l.length
    · rw [List.getElem?_append_left (by omega)] at a b
      exact step _ _ (k3 i u' x' a b)
    · rw [List.getElem?_append_right (by omega)] at a b
      rw [k1] at a
      cases hj : i - l.length with
      | zero => rw [hj] at a b; simp at a b; subst a b; exact step _ _ hy
      | succ j => rw [hj] at a; simp at a
end
def itCs (p : Value × Itm) : List Value := .int .i64 p.2.kind :: exCs p.1 p.2.e
def itOk (w : World) (S : Nat → Prop) (u : Value) (x : Itm) : Prop := ExR w S u x.e
def rwCs (p : Value × List Ex) : List Value := [p.1]
def rwOk (w : World) (S : Nat → Prop) (u : Value) (x : List Ex) : Prop := ExL w S u x
def asCs (p : Value × Asn) : List Value := .string (str p.2.name) :: exCs p.1 p.2.e
def asOk (w : World) (S : Nat → Prop) (u : Value) (x : Asn) : Prop := ExR w S u x.e
def exCsP (p : Value × Ex) : List Value := exCs p.1 p.2
theorem exK : OkK ExR := ⟨fun h hs => h.keep hs, fun h hS => h.mono hS⟩
theorem itK : OkK itOk := ⟨fun h hs => ExR.keep h hs, fun h hS => ExR.mono h hS⟩
theorem rwK : OkK rwOk := ⟨fun h hs => ExL.keep h hs, fun h hS => ExL.mono h hS⟩
theorem asK : OkK asOk := ⟨fun h hs => ExR.keep h hs, fun h hS => ExR.mono h hS⟩
theorem ls_exL {w : World} {S : Nat → Prop} {v : Value} {l : List Ex} : LsR exCsP 6 ExR w S v l ↔ ExL w S v l := by
  constructor
  · rintro ⟨us, h1, ⟨A, c, h2, h3, h4, h5⟩, h6⟩
    have hz : (us.zip l).length = l.length := by simp [h1]
    rw [hz] at h2 h3 h5
    exact ⟨us, A, c, h2, h1, h3, h4, h5, h6⟩
  · rintro ⟨us, A, c, h2, h1, h3, h4, h5, h6⟩
    have hz : (us.zip l).length = l.length := by simp [h1]
    exact ⟨us, h1, ⟨A, c, by rw [hz]; exact h2, by rw [hz]; exact h3, h4, by rw [hz]; exact h5⟩, h6⟩
/-- The slices that a statement holds. -/
structure SU where
  items : Value
  rows : Value
  sets : Value
  cond : Value
def SU.zero : SU := ⟨.slice none 0 0, .slice none 0 0, .slice none 0 0, .slice none 0 0⟩
def stCs (u : SU) (s : Stm) : List Value := [.int .i64 s.kind, .string (str s.table), u.items, u.rows, u.sets, .bool s.filt, .int .i64 s.cond.kind, .string (str s.cond.s), .int .i64 s.cond.v.kind, .int .i64 s.cond.v.n, .string (str s.cond.v.s), u.cond, .string (str s.order), .bool s.down, .int .i64 s.limit]
abbrev stV (u : SU) (s : Stm) : Value := .agg #[.int .i64 s.kind, .string (str s.table), u.items, u.rows, u.sets, .bool s.filt, .int .i64 s.cond.kind, .string (str s.cond.s), .int .i64 s.cond.v.kind, .int .i64 s.cond.v.n, .string (str s.cond.v.s), u.cond, .string (str s.order), .bool s.down, .int .i64 s.limit]
def stCsP (p : SU × Stm) : List Value := stCs p.1 p.2
/-- What a statement's slices hold. -/
def StR (w : World) (S : Nat → Prop) (u : SU) (s : Stm) : Prop := LsR itCs 7 itOk w S u.items s.items ∧ LsR rwCs 1 rwOk w S u.rows s.rows ∧ LsR asCs 7 asOk w S u.sets s.sets ∧ ExR w S u.cond s.cond
theorem stK : OkK StR := ⟨fun h hs => ⟨h.1.keep itK hs, h.2.1.keep rwK hs, h.2.2.1.keep asK hs, h.2.2.2.keep hs⟩, fun h hS => ⟨h.1.mono itK (by omega) hS, h.2.1.mono rwK (by omega) hS, h.2.2.1.mono asK (by omega) hS, h.2.2.2.mono hS⟩⟩
theorem TIt : SlT Tryz.prog 40 63 7 88 (.agg #[.int .i64 0, .int .i64 0, .string ⟨#[]⟩, .int .i64 0, .int .i64 0, .string ⟨#[]⟩, .slice none 0 0]) := ⟨by kernel_rfl, by kernel_rfl, rfl, by omega⟩
theorem TRw : SlT Tryz.prog 41 32 1 24 (.slice none 0 0) := ⟨by kernel_rfl, by kernel_rfl, rfl, by omega⟩
theorem TAs : SlT Tryz.prog 42 65 7 96 (.agg #[.string ⟨#[]⟩, .int .i64 0, .string ⟨#[]⟩, .int .i64 0, .int .i64 0, .string ⟨#[]⟩, .slice none 0 0]) := ⟨by kernel_rfl, by kernel_rfl, rfl, by omega⟩
theorem TSt : SlT Tryz.prog 23 44 15 216 (.agg #[.int .i64 0, .string ⟨#[]⟩, .slice none 0 0, .slice none 0 0, .slice none 0 0, .bool false, .int .i64 0, .string ⟨#[]⟩, .int .i64 0, .int .i64 0, .string ⟨#[]⟩, .slice none 0 0, .string ⟨#[]⟩, .bool false, .int .i64 0]) := ⟨by kernel_rfl, by kernel_rfl, rfl, by omega⟩
/-- What a part of the parser that writes only there (S: what stays) does. -/
def DoQ {α : Type} (S : Nat → Prop) (g t o : Nat) (x : PR α) (good : α → World → Value → Prop) (w : World) (e : Ending) (w' : World) : Prop := match x with
  | .error p => e = .panicked [{ v := failV p.1 p.2, recovered := false }] ∧ Same S w w'
  | .ok (a, l') => ∃ v, e = .returned v ∧ good a w' v ∧ PS w' g t l' o ∧ Same S w w'
theorem DoQ.of {α : Type} {g t o : Nat} {x : PR α} {good : α → World → Value → Prop} {w w' : World} {e : Ending} (h : DoP g t o x good w e w') : DoQ (fun q => q ≠ g) g t o x good w e w' := h
theorem must_at (g t : Nat) (l : List PT) (o : Nat) (ss : List (List UInt8)) (w : World) (h : PS w g t l o) (hn : ss.length ≤ maxLen := by simp [maxLen]) :
    Calls Tryz.prog 40 #[pV g, .slice (some ⟨w.heap.size, 0, none⟩) ss.length ss.length] (w.alloc (.cells (strCs ss).toArray 9)) (DoP g t o (mustT ss l) (fun _ _ v => v = .tuple #[]) w) := by
  have hS := (Same.refl (fun _ => True) w).alloc (.cells (strCs ss).toArray 9)
  refine (must_any g t l o ss _ _ (h.keep hS) (StrR.new w g h.lt ss hn)).mono ?_
  intro e w' hd
  have hS := hS.mono (S' := fun q => q ≠ g) fun _ _ _ => trivial
  cases hx : mustT ss l with
  | error p => rw [hx] at hd; exact ⟨hd.1, hS.trans hd.2⟩
  | ok q => obtain ⟨a, l'⟩ := q; rw [hx] at hd; obtain ⟨v, h1, h2, h3, h4⟩ := hd; exact ⟨v, h1, h2, h3, hS.trans h4⟩
theorem begins_at (g t : Nat) (l : List PT) (o : Nat) (ss : List (List UInt8)) (w : World) (h : PS w g t l o) (hn : ss.length ≤ maxLen := by simp [maxLen]) :
    Calls Tryz.prog 38 #[pV g, .slice (some ⟨w.heap.size, 0, none⟩) ss.length ss.length] (w.alloc (.cells (strCs ss).toArray 9)) fun e w' => e = .returned (.bool (beginsT ss l)) ∧ Same (fun _ => True) w w' := by
  have hS := (Same.refl (fun _ => True) w).alloc (.cells (strCs ss).toArray 9)
  refine (begins_any g t l o ss _ _ _ (h.keep hS) (StrR.new w g h.lt ss hn)).mono ?_
  rintro e w' ⟨h1, h2⟩
  exact ⟨h1, hS.trans h2⟩
def zex : List Value := [.int .i64 0, .string ⟨#[]⟩, .int .i64 0, .int .i64 0, .string ⟨#[]⟩, .slice none 0 0]
/-- A result that is written whole. -/
theorem fin_cs {wa : World} {g t o k : Nat} {e : TypeId} {l' : List PT} {cs cs0 : List Value} (h : PS wa g t l' o) (hg : g < k) (ht : t < k) (hm : 1 < k) (hr : Row wa k e cs0) :
    Row (setsW wa k 0 cs) k e (setsL cs0 0 cs) ∧ PS (setsW wa k 0 cs) g t l' o ∧ Same (fun q => q ≠ k) wa (setsW wa k 0 cs) := by
  have hss : Same (fun q => q ≠ k) wa (setsW wa k 0 cs) := Same.sets (fun h => h rfl) _ 0 (Same.refl _ _)
  exact ⟨hr.sets cs 0, h.keepB hss (by omega) (by omega) (by omega), hss⟩
@[go_sem] theorem deep_e (w : World) (u : Value) (d : Dp) : (Instr.field 155 (dpV u d) 0).run Tryz.prog w = .ok (exV u d.e) w := by
  simp [Instr.field, run_underlying Tryz.underlying155, part, isAgg, run_underlying Tryz.underlying34, asAgg]
def ExG (B : Nat) (e : Ex) (w : World) (v : Value) : Prop := ∃ u, v = exV u e ∧ ExR w (fun q => B ≤ q) u e
theorem expr_results {W : World} {k : Nat} {u : Value} {e : Ex} (R : Row W k 34 (exCs u e)) {tmps : Array Value} (h1 : tmps.getD 2 undef = .pointer (some ⟨k, 0, none⟩)) :
    (results Tryz.f113 tmps).run Tryz.prog W = .ok (exV u e) W := by
  have d0 : W.cell? ⟨k, 0, none⟩ = some (.int .i64 e.kind) := R.cell 0
  have d1 : W.cell? ⟨k, 1, none⟩ = some (.string (str e.s)) := R.cell 1
  have d2 : W.cell? ⟨k, 2, none⟩ = some (.int .i64 e.v.kind) := R.cell 2
  have d3 : W.cell? ⟨k, 3, none⟩ = some (.int .i64 e.v.n) := R.cell 3
  have d4 : W.cell? ⟨k, 4, none⟩ = some (.string (str e.v.s)) := R.cell 4
  have d5 : W.cell? ⟨k, 5, none⟩ = some (u) := R.cell 5
  simp at h1
  simp [results, Tryz.results113, h1, go_sem, d0, d1, d2, d3, d4, d5]
set_option maxRecDepth 100000 in
set_option maxHeartbeats 2000000 in
theorem expr_any (g t : Nat) (l : List PT) (w : World) (h : PS w g t l 0) : Calls Tryz.prog 113 #[pV g] w (DoP g t 0 (exprT l) (ExG w.heap.size) w) := by
  have HL3 := Lib.hid h.lt3
  have hR : RuleC g t 0 (.func (.func 129) #[pV g] #[]) (ruleT 200 .or) := rules_any g t 200 0 rfl .or
  have HR := Lib.hid hR
  obtain ⟨X, hX⟩ : ∃ X, X = exprT l := ⟨_, rfl⟩
  rw [← hX]
  unfold exprT at hX
  have HX := Lib.hid hX
  have hS0 := (Same.refl (fun _ => True) w).alloc (.cells zex.toArray 34)
  have r0 := Row.new w 34 zex
  have hz0 : (w.alloc (.cells zex.toArray 34)).heap.size = w.heap.size + 1 := by simp
  have hp0 := h.keep hS0
  clear h hR hX
  have hmf : ∀ (fn : Fn) (first cap : Array Value) (w : World), (Instr.makeFunc fn first cap).run Tryz.prog w = .ok (.func fn first cap) w := fun _ _ _ _ => rfl
  go_enter Tryz.func113, Tryz.ntmps113
  go_wp2_with (go_at_call 128; refine stopAt ?_)
  unfold Hid
  simp only [zex] at hS0 r0 hz0 hp0
  revert hS0 r0 hz0 hp0
  generalize w.alloc _ = w0
  intro hS0 r0 hz0 hp0
  refine (HR.out l w0 hp0).mono ?_
  intro e w1 h1
  cases hx : ruleT 200 .or l with
  | error p =>
    rw [hx] at h1
    obtain ⟨rfl, hS1⟩ := h1
    have hq : DoP g t 0 X (ExG w.heap.size) w (.panicked [{ v := failV p.1 p.2, recovered := false }]) w1 := by
      rw [HX.out, hx]
      exact DoP.err ⟨rfl, hS1⟩ hS0
    exact ⟨rfl, hq⟩
  | ok q =>
    obtain ⟨d, l2⟩ := q
    rw [hx] at h1
    obtain ⟨v, rfl, ⟨u, rfl, hex⟩, hp1, hS1⟩ := h1
    obtain ⟨Au, cu, rfl, -, -⟩ := hex.toL.form
    have hX := HX.out
    rw [hx, thenT_ok] at hX
    have HX := Lib.hid hX
    generalize d.e.args.length = nu at *
    have hz1 := hS1.size
    obtain ⟨l3, l4, l5⟩ := HL3.out
    have r1 := r0.keep hS1 (by omega)
    obtain ⟨hD, hB, hC⟩ := fin_cs (cs := exCs (.slice Au nu cu) d.e) hp1 l3 l4 l5 r1
    have HD := Lib.hid hD
    have HB := Lib.hid hB
    have HE : Hid (ExR (setsW w1 w.heap.size 0 (exCs (.slice Au nu cu) d.e)) (fun q => w.heap.size ≤ q) (.slice Au nu cu) d.e) := Lib.hid ((hex.keep (hC.mono fun q _ (h : w0.heap.size ≤ q) => by omega)).mono fun q _ (h : w0.heap.size ≤ q) => by omega)
    have HS : Hid (Same (fun q => q ≠ g) w (setsW w1 w.heap.size 0 (exCs (.slice Au nu cu) d.e))) := Lib.hid (Same.sets' (Nat.le_refl _) _ 0 ((hS0.mono (S' := fun q => q ≠ g) fun _ _ _ => trivial).trans hS1))
    have q0 := r1.cell 0
    have q1 := r1.cell 1
    have q2 := r1.cell 2
    have q3 := r1.cell 3
    have q4 := r1.cell 4
    have q5 := r1.cell 5
    simp only [List.getElem?_cons_zero, List.getElem?_cons_succ] at q0 q1 q2 q3 q4 q5
    have x0 := r1.frozen 0
    have x1 := r1.frozen 1
    have x2 := r1.frozen 2
    have x3 := r1.frozen 3
    have x4 := r1.frozen 4
    have x5 := r1.frozen 5
    have zr := r1.lt
    clear hX hx hex hp1 hS0 hS1 r0 r1 hp0 hD hB hC
    go_wp2
    refine bodyPost_ret (expr_results (u := .slice Au nu cu) (e := d.e) (show Row _ _ _ (exCs (.slice Au nu cu) d.e) from HD.out) rfl) rfl ?_
    rw [HX.out]
    exact ⟨_, rfl, ⟨_, rfl, HE.out⟩, HB.out, HS.out⟩
theorem no_k {a : Nat} {b : Nat} (h : ¬ a = b) : ((a : Int) == (b : Int)) = false := by simpa using fun h' : (a : Int) = b => h (by omega)
set_option maxRecDepth 100000 in
set_option maxHeartbeats 2000000 in
theorem leads_any (g t : Nat) (l : List PT) (o : Nat) (w : World) (h : PS w g t l o) : Calls Tryz.prog 112 #[pV g] w fun e w' => e = .returned (.bool (leadsT l)) ∧ Same (fun _ => True) w w' := by
  have H := Lib.hid h
  obtain ⟨X, hX⟩ : ∃ X, X = leadsT l := ⟨_, rfl⟩
  rw [← hX]
  unfold leadsT at hX
  by_cases hk2 : (hdT l).2.kind = 2
  · rw [hk2] at hX
    have HX : Hid (X = true) := Lib.hid (by simpa using hX)
    clear h hX
    obtain ⟨off, c, hrow, hc, hm, hpos, t0, t1, t2, t3⟩ := H.out.open_
    unfold maxLen at hm
    have b0 := hrow.cell 0
    simp only [List.getElem?_cons_zero] at b0
    have hl0 : (0 : Int) < (l.length : Int) := by omega
    clear hrow t1 t2 t3
    rw [hk2] at t0
    clear hk2
    go_enter Tryz.func112, Tryz.ntmps112
    go_wp2
    go_ret
    exact ⟨by rw [HX.out]; rfl, Same.refl _ _⟩
  · by_cases hk3 : (hdT l).2.kind = 3
    · rw [hk3] at hX
      have HX : Hid (X = true) := Lib.hid (by simpa using hX)
      clear h hX
      obtain ⟨off, c, hrow, hc, hm, hpos, t0, t1, t2, t3⟩ := H.out.open_
      unfold maxLen at hm
      have b0 := hrow.cell 0
      simp only [List.getElem?_cons_zero] at b0
      have hl0 : (0 : Int) < (l.length : Int) := by omega
      clear hrow t1 t2 t3
      rw [hk3] at t0
      clear hk3 hk2
      go_enter Tryz.func112, Tryz.ntmps112
      go_wp2
      go_ret
      exact ⟨by rw [HX.out]; rfl, Same.refl _ _⟩
    · rw [decide_eq_false hk2, decide_eq_false hk3, Bool.false_or, Bool.false_or] at hX
      have HX := Lib.hid hX
      have e2 : (((hdT l).2.kind : Int) == 2) = false := no_k hk2
      have e3 : (((hdT l).2.kind : Int) == 3) = false := no_k hk3
      clear h hX hk2 hk3
      obtain ⟨off, c, hrow, hc, hm, hpos, t0, t1, t2, t3⟩ := H.out.open_
      unfold maxLen at hm
      have b0 := hrow.cell 0
      simp only [List.getElem?_cons_zero] at b0
      have hl0 : (0 : Int) < (l.length : Int) := by omega
      clear hrow t1 t2 t3
      generalize (hdT l).2.kind = kd at t0 e2 e3
      go_enter Tryz.func112, Tryz.ntmps112
      go_wp2_with (go_at_call 88; refine stopAt ?_)
      unfold Hid
      refine (named_any g t l o w H.out).mono ?_
      rintro e w1 ⟨rfl, hS1⟩
      have HS1 := Lib.hid hS1
      have hp1 := H.out.keep hS1
      cases hn : namedT l
      · have hX := HX.out
        rw [hn, Bool.false_or] at hX
        have HX := Lib.hid hX
        clear hX hn hS1
        go_wp2_with (go_at_call 38; refine stopAt ?_)
        unfold Hid
        refine (begins_at g t l o [wNOT, [45], [40], wTRUE, wFALSE, wNULL] w1 hp1).mono ?_
        rintro e w2 ⟨rfl, hS2⟩
        rw [← HX.out]
        have HS2 := Lib.hid hS2
        clear hS2 hp1
        cases X
        · go_wp2
          go_ret
          exact ⟨rfl, HS1.out.trans HS2.out⟩
        · go_wp2
          go_ret
          exact ⟨rfl, HS1.out.trans HS2.out⟩
      · have hX := HX.out
        rw [hn, Bool.true_or] at hX
        have HX := Lib.hid hX
        clear hX hn hS1 hp1
        go_wp2
        go_ret
        exact ⟨by rw [HX.out]; rfl, HS1.out⟩
theorem str_is {s x : List UInt8} (h : s = x) : (s == x) = true := by subst h; simp
theorem str_no {s x : List UInt8} (h : ¬ s = x) : (s == x) = false := by simpa using h
set_option maxHeartbeats 1000000 in
theorem args_0 (w : World) : Calls Tryz.prog 101 #[.string (str [78, 79, 84])] w fun e w' => e = .returned (.int .i64 1) ∧ w' = w := by
  go_enter Tryz.func101, Tryz.ntmps101
  go_wp2
  go_ret
  exact ⟨rfl, rfl⟩
set_option maxHeartbeats 1000000 in
theorem args_1 (w : World) : Calls Tryz.prog 101 #[.string (str [73, 83, 78, 85, 76, 76])] w fun e w' => e = .returned (.int .i64 1) ∧ w' = w := by
  go_enter Tryz.func101, Tryz.ntmps101
  go_wp2
  go_ret
  exact ⟨rfl, rfl⟩
set_option maxHeartbeats 1000000 in
theorem args_2 (w : World) : Calls Tryz.prog 101 #[.string (str [78, 79, 84, 78, 85, 76, 76])] w fun e w' => e = .returned (.int .i64 1) ∧ w' = w := by
  go_enter Tryz.func101, Tryz.ntmps101
  go_wp2
  go_ret
  exact ⟨rfl, rfl⟩
set_option maxHeartbeats 1000000 in
theorem args_3 (w : World) : Calls Tryz.prog 101 #[.string (str [78, 69, 71])] w fun e w' => e = .returned (.int .i64 1) ∧ w' = w := by
  go_enter Tryz.func101, Tryz.ntmps101
  go_wp2
  go_ret
  exact ⟨rfl, rfl⟩
set_option maxHeartbeats 1000000 in
theorem args_4 (w : World) : Calls Tryz.prog 101 #[.string (str [79, 82])] w fun e w' => e = .returned (.int .i64 2) ∧ w' = w := by
  go_enter Tryz.func101, Tryz.ntmps101
  go_wp2
  go_ret
  exact ⟨rfl, rfl⟩
set_option maxHeartbeats 1000000 in
theorem args_5 (w : World) : Calls Tryz.prog 101 #[.string (str [65, 78, 68])] w fun e w' => e = .returned (.int .i64 2) ∧ w' = w := by
  go_enter Tryz.func101, Tryz.ntmps101
  go_wp2
  go_ret
  exact ⟨rfl, rfl⟩
set_option maxHeartbeats 1000000 in
theorem args_6 (w : World) : Calls Tryz.prog 101 #[.string (str [61])] w fun e w' => e = .returned (.int .i64 2) ∧ w' = w := by
  go_enter Tryz.func101, Tryz.ntmps101
  go_wp2
  go_ret
  exact ⟨rfl, rfl⟩
set_option maxHeartbeats 1000000 in
theorem args_7 (w : World) : Calls Tryz.prog 101 #[.string (str [60, 62])] w fun e w' => e = .returned (.int .i64 2) ∧ w' = w := by
  go_enter Tryz.func101, Tryz.ntmps101
  go_wp2
  go_ret
  exact ⟨rfl, rfl⟩
set_option maxHeartbeats 1000000 in
theorem args_8 (w : World) : Calls Tryz.prog 101 #[.string (str [60])] w fun e w' => e = .returned (.int .i64 2) ∧ w' = w := by
  go_enter Tryz.func101, Tryz.ntmps101
  go_wp2
  go_ret
  exact ⟨rfl, rfl⟩
set_option maxHeartbeats 1000000 in
theorem args_9 (w : World) : Calls Tryz.prog 101 #[.string (str [60, 61])] w fun e w' => e = .returned (.int .i64 2) ∧ w' = w := by
  go_enter Tryz.func101, Tryz.ntmps101
  go_wp2
  go_ret
  exact ⟨rfl, rfl⟩
set_option maxHeartbeats 1000000 in
theorem args_10 (w : World) : Calls Tryz.prog 101 #[.string (str [62])] w fun e w' => e = .returned (.int .i64 2) ∧ w' = w := by
  go_enter Tryz.func101, Tryz.ntmps101
  go_wp2
  go_ret
  exact ⟨rfl, rfl⟩
set_option maxHeartbeats 1000000 in
theorem args_11 (w : World) : Calls Tryz.prog 101 #[.string (str [62, 61])] w fun e w' => e = .returned (.int .i64 2) ∧ w' = w := by
  go_enter Tryz.func101, Tryz.ntmps101
  go_wp2
  go_ret
  exact ⟨rfl, rfl⟩
set_option maxHeartbeats 1000000 in
theorem args_12 (w : World) : Calls Tryz.prog 101 #[.string (str [43])] w fun e w' => e = .returned (.int .i64 2) ∧ w' = w := by
  go_enter Tryz.func101, Tryz.ntmps101
  go_wp2
  go_ret
  exact ⟨rfl, rfl⟩
set_option maxHeartbeats 1000000 in
theorem args_13 (w : World) : Calls Tryz.prog 101 #[.string (str [45])] w fun e w' => e = .returned (.int .i64 2) ∧ w' = w := by
  go_enter Tryz.func101, Tryz.ntmps101
  go_wp2
  go_ret
  exact ⟨rfl, rfl⟩
set_option maxHeartbeats 1000000 in
theorem args_14 (w : World) : Calls Tryz.prog 101 #[.string (str [42])] w fun e w' => e = .returned (.int .i64 2) ∧ w' = w := by
  go_enter Tryz.func101, Tryz.ntmps101
  go_wp2
  go_ret
  exact ⟨rfl, rfl⟩
set_option maxHeartbeats 1000000 in
theorem args_15 (w : World) : Calls Tryz.prog 101 #[.string (str [47])] w fun e w' => e = .returned (.int .i64 2) ∧ w' = w := by
  go_enter Tryz.func101, Tryz.ntmps101
  go_wp2
  go_ret
  exact ⟨rfl, rfl⟩
set_option maxHeartbeats 1000000 in
theorem args_16 (w : World) : Calls Tryz.prog 101 #[.string (str [37])] w fun e w' => e = .returned (.int .i64 2) ∧ w' = w := by
  go_enter Tryz.func101, Tryz.ntmps101
  go_wp2
  go_ret
  exact ⟨rfl, rfl⟩
set_option maxHeartbeats 2000000 in
theorem args_none (s : List UInt8) (w : World) (h0 : ¬ s = [78, 79, 84]) (h1 : ¬ s = [73, 83, 78, 85, 76, 76]) (h2 : ¬ s = [78, 79, 84, 78, 85, 76, 76]) (h3 : ¬ s = [78, 69, 71]) (h4 : ¬ s = [79, 82]) (h5 : ¬ s = [65, 78, 68]) (h6 : ¬ s = [61]) (h7 : ¬ s = [60, 62]) (h8 : ¬ s = [60]) (h9 : ¬ s = [60, 61]) (h10 : ¬ s = [62]) (h11 : ¬ s = [62, 61]) (h12 : ¬ s = [43]) (h13 : ¬ s = [45]) (h14 : ¬ s = [42]) (h15 : ¬ s = [47]) (h16 : ¬ s = [37]) : Calls Tryz.prog 101 #[.string (str s)] w fun e w' => e = .returned (.int .i64 (-1)) ∧ w' = w := by
  have e0 := str_no h0
  have e1 := str_no h1
  have e2 := str_no h2
  have e3 := str_no h3
  have e4 := str_no h4
  have e5 := str_no h5
  have e6 := str_no h6
  have e7 := str_no h7
  have e8 := str_no h8
  have e9 := str_no h9
  have e10 := str_no h10
  have e11 := str_no h11
  have e12 := str_no h12
  have e13 := str_no h13
  have e14 := str_no h14
  have e15 := str_no h15
  have e16 := str_no h16
  go_enter Tryz.func101, Tryz.ntmps101
  go_wp2
  go_ret
  exact ⟨rfl, rfl⟩
theorem args_any (s : List UInt8) (w : World) : Calls Tryz.prog 101 #[.string (str s)] w fun e w' => e = .returned (.int .i64 (argsN s)) ∧ w' = w := by
  by_cases h0 : s = [78, 79, 84]
  · subst h0; exact args_0 w
  by_cases h1 : s = [73, 83, 78, 85, 76, 76]
  · subst h1; exact args_1 w
  by_cases h2 : s = [78, 79, 84, 78, 85, 76, 76]
  · subst h2; exact args_2 w
  by_cases h3 : s = [78, 69, 71]
  · subst h3; exact args_3 w
  by_cases h4 : s = [79, 82]
  · subst h4; exact args_4 w
  by_cases h5 : s = [65, 78, 68]
  · subst h5; exact args_5 w
  by_cases h6 : s = [61]
  · subst h6; exact args_6 w
  by_cases h7 : s = [60, 62]
  · subst h7; exact args_7 w
  by_cases h8 : s = [60]
  · subst h8; exact args_8 w
  by_cases h9 : s = [60, 61]
  · subst h9; exact args_9 w
  by_cases h10 : s = [62]
  · subst h10; exact args_10 w
  by_cases h11 : s = [62, 61]
  · subst h11; exact args_11 w
  by_cases h12 : s = [43]
  · subst h12; exact args_12 w
  by_cases h13 : s = [45]
  · subst h13; exact args_13 w
  by_cases h14 : s = [42]
  · subst h14; exact args_14 w
  by_cases h15 : s = [47]
  · subst h15; exact args_15 w
  by_cases h16 : s = [37]
  · subst h16; exact args_16 w
  have e : argsN s = -1 := by
    unfold argsN
    rw [if_neg (by simp only [wNOT, wISNULL, wNOTNULL, wNEG]; simp [*]), if_neg (by simp only [wOR, wAND]; simp [*])]
  rw [e]
  exact args_none s w h0 h1 h2 h3 h4 h5 h6 h7 h8 h9 h10 h11 h12 h13 h14 h15 h16
theorem eqV (a b : Val) (w : World) : (binOp .eql 31 (.agg #[.int .i64 a.kind, .int .i64 a.n, .string (str a.s)]) (.agg #[.int .i64 b.kind, .int .i64 b.n, .string (str b.s)])).run Tryz.prog w = .ok (.bool (decide (a = b))) w := by
  have hg : Tryz.prog.stoodInHeld 31 = false := by kernel_rfl
  rw [run_eql_struct]
  simp [go_sem, hg, Tryz.underlying31, Tryz.underlying3, Tryz.underlying2, Tryz.underlying9]
  have he : (a = b) ↔ (a.kind = b.kind ∧ a.n = b.n ∧ a.s = b.s) := by
    constructor
    · intro h; subst h; exact ⟨rfl, rfl, rfl⟩
    · obtain ⟨x1, x2, x3⟩ := a
      obtain ⟨y1, y2, y3⟩ := b
      rintro ⟨h1, h2, h3⟩
      dsimp only at h1 h2 h3
      subst h1 h2 h3; rfl
  by_cases h1 : a.kind = b.kind
  · by_cases h2 : a.n = b.n
    · by_cases h3 : a.s = b.s
      · simp [h1, h2, h3, he]
      · simp [h1, h2, h3, he]
    · simp [h1, h2, he]
  · simp [h1, he]
theorem neV (a b : Val) (w : World) : (binOp .neq 31 (.agg #[.int .i64 a.kind, .int .i64 a.n, .string (str a.s)]) (.agg #[.int .i64 b.kind, .int .i64 b.n, .string (str b.s)])).run Tryz.prog w = .ok (.bool (!decide (a = b))) w := by
  have := eqV a b w
  simp only [binOp, Sem.run_bind] at this ⊢
  cases h : Sem.run Tryz.prog (Op.equal 31 (.agg #[.int .i64 a.kind, .int .i64 a.n, .string (str a.s)]) (.agg #[.int .i64 b.kind, .int .i64 b.n, .string (str b.s)])) w <;> rw [h] at this <;> simp_all [Result.andThen]
theorem mayEs_cons (a : Ex) (l : List Ex) (n : Nat) : mayEs (a :: l) n = (mayE a n && mayEs l n) := by rw [mayEs]
set_option maxRecDepth 100000 in
set_option maxHeartbeats 8000000 in
theorem mayx_any : ∀ (e : Ex) (n : Nat) (u : Value) (w : World), n ≤ 16 → ExR w (fun _ => True) u e → Mx w → Calls Tryz.prog 58 #[exV u e, .int .i64 (n : Int)] w (BoolP (mayE e n) w) := by
  apply Ex.ind
  intro k s v l ih n u w hn hr hm
  obtain ⟨A, c, rfl, hc1, hc2⟩ := hr.toL.form
  have hl : ExL w (fun _ => True) (.slice A l.length c) l := hr.toL
  have hc1 : l.length ≤ c := hc1
  show Calls Tryz.prog 58 #[.agg #[.int .i64 k, .string (str s), .int .i64 v.kind, .int .i64 v.n, .string (str v.s), .slice A l.length c], .int .i64 (n : Int)] w (BoolP (mayE (.mk k s v l) n) w)
  unfold maxLen at hc2
  obtain ⟨X, hX⟩ : ∃ X, X = mayE (.mk k s v l) n := ⟨_, rfl⟩
  rw [← hX]
  rw [mayE] at hX
  have HX := Lib.hid hX
  have hA := (Same.refl (fun _ => True) w).alloc (.cells #[.int .i64 k, .string (str s), .int .i64 v.kind, .int .i64 v.n, .string (str v.s), .slice A l.length c] 34)
  have hrow := Row.new w 34 [.int .i64 k, .string (str s), .int .i64 v.kind, .int .i64 v.n, .string (str v.s), .slice A l.length c]
  have hl1 := hl.keepAll hA
  have hm1 := hm.keep hA
  have hlc : (l.length : Int) ≤ (c : Int) := by omega
  clear hX hr hm hl
  go_enter Tryz.func58, Tryz.ntmps58
  go_upto_region 1 with (fail)
  revert hA hrow hl1 hm1
  generalize w.alloc _ = w1
  intro hA hrow hl1 hm1
  have HL := Lib.hid hl1
  have HM := Lib.hid hm1
  have HS := Lib.hid hA
  have c0 := hrow.cell 0
  have c1 := hrow.cell 1
  have c2 := hrow.cell 2
  have c3 := hrow.cell 3
  have c4 := hrow.cell 4
  have c5 := hrow.cell 5
  simp only [List.getElem?_cons_zero, List.getElem?_cons_succ] at c0 c1 c2 c3 c4 c5
  have HROW := Lib.hid hrow
  clear hA hl1 hm1 hrow
  by_cases h0 : n = 0
  · have e0 : ((n : Int) == 0) = true := by rw [h0]; rfl
    have HB : Hid (false = X) := Lib.hid (by rw [HX.out, if_pos h0])
    clear h0
    go_wp2
    go_ret
    exact ⟨ret_bool HB.out, HS.out⟩
  have e0 : ((n : Int) == 0) = false := no_k h0
  have hX := HX.out
  rw [if_neg h0] at hX
  have HX := Lib.hid hX
  have hn1 : 1 ≤ n := by omega
  clear h0 hX
  by_cases h1 : k = 1
  · have e1 : (k == 1) = true := by rw [h1]; rfl
    have hX := HX.out
    rw [if_pos h1] at hX
    have HX := Lib.hid hX
    clear h1 hX
    by_cases hs : s = []
    · by_cases hl0 : l.length = 0
      · have e3 : ((l.length : Int) == 0) = true := by rw [hl0]; rfl
        subst hs
        have HX2 : Hid ((mayV v && decide (0 ≤ v.n)) = X) := Lib.hid (by rw [HX.out, hl0]; simp)
        clear hl0
        go_wp2_with (go_at_call 100; refine stopAt ?_)
        unfold Hid
        refine (exMay_any v w1).mono ?_
        rintro e w2 ⟨rfl, hS⟩
        have HS := Lib.hid (HS.out.trans hS)
        have k3 := hS.cell (p := ⟨w.heap.size, 3, none⟩) trivial c3
        clear hS
        cases hv : mayV v
        · have HB : Hid (false = X) := Lib.hid (by rw [← HX2.out, hv]; rfl)
          clear hv
          go_wp2
          go_ret
          exact ⟨ret_bool HB.out, HS.out⟩
        · have HB : Hid (decide (0 ≤ v.n) = X) := Lib.hid (by rw [← HX2.out, hv]; rfl)
          clear hv
          go_wp2
          go_ret
          exact ⟨ret_bool HB.out, HS.out⟩
      · have e3 : ((l.length : Int) == 0) = false := no_k hl0
        subst hs
        have HB : Hid (false = X) := Lib.hid (by rw [HX.out, decide_eq_false hl0]; simp)
        clear hl0
        go_wp2
        go_ret
        exact ⟨ret_bool HB.out, HS.out⟩
    · have e2 := str_no hs
      have HB : Hid (false = X) := Lib.hid (by rw [HX.out, decide_eq_false hs]; simp)
      go_wp2
      go_ret
      exact ⟨ret_bool HB.out, HS.out⟩
  have e1 : (k == 1) = false := by simpa using h1
  have hX := HX.out
  rw [if_neg h1] at hX
  have HX := Lib.hid hX
  clear h1 hX
  by_cases h2 : k = 2
  · have e2 : (k == 2) = true := by rw [h2]; rfl
    have hX := HX.out
    rw [if_pos h2] at hX
    have HX := Lib.hid hX
    clear h2 hX
    by_cases hv : v = .zero
    · have hez : ∀ w, (binOp .eql 31 (.agg #[.int .i64 v.kind, .int .i64 v.n, .string (str v.s)]) (.agg #[.int .i64 0, .int .i64 0, .string ⟨#[]⟩])).run Tryz.prog w = .ok (.bool true) w := fun w => by
        have := eqV v .zero w
        rw [decide_eq_true hv] at this
        exact this
      by_cases hl0 : l.length = 0
      · have e3 : ((l.length : Int) == 0) = true := by rw [hl0]; rfl
        have HB : Hid (wordF s = X) := Lib.hid (by rw [HX.out, hl0, decide_eq_true hv]; simp)
        have hw := lexword_all (str s) w1 HM.out (b := X) HB.out
        clear hl0 hv
        go_wp2_with (go_at_call 57; refine stopAt ?_)
        unfold Hid
        refine hw.mono ?_
        rintro e w2 ⟨rfl, hS⟩
        have HS := Lib.hid (HS.out.trans hS)
        clear hS hw
        go_wp2
        go_ret
        exact ⟨rfl, HS.out⟩
      · have e3 : ((l.length : Int) == 0) = false := no_k hl0
        have HB : Hid (false = X) := Lib.hid (by rw [HX.out, decide_eq_false hl0]; simp)
        clear hl0 hv
        go_wp2
        go_ret
        exact ⟨ret_bool HB.out, HS.out⟩
    · have hez : ∀ w, (binOp .eql 31 (.agg #[.int .i64 v.kind, .int .i64 v.n, .string (str v.s)]) (.agg #[.int .i64 0, .int .i64 0, .string ⟨#[]⟩])).run Tryz.prog w = .ok (.bool false) w := fun w => by
        have := eqV v .zero w
        rw [decide_eq_false hv] at this
        exact this
      have HB : Hid (false = X) := Lib.hid (by rw [HX.out, decide_eq_false hv]; simp)
      clear hv
      go_wp2
      go_ret
      exact ⟨ret_bool HB.out, HS.out⟩
  have e2 : (k == 2) = false := by simpa using h2
  have hX := HX.out
  rw [if_neg h2] at hX
  have HX := Lib.hid hX
  clear h2 hX
  go_upto_region 7 with (fail)
  by_cases h3 : k = 3
  · have e3n : (k != 3) = false := by rw [h3]; rfl
    by_cases hv : v = .zero
    · have hez : ∀ w, (binOp .neq 31 (.agg #[.int .i64 v.kind, .int .i64 v.n, .string (str v.s)]) (.agg #[.int .i64 0, .int .i64 0, .string ⟨#[]⟩])).run Tryz.prog w = .ok (.bool false) w := fun w => by
        have := neV v .zero w
        rw [decide_eq_true hv] at this
        exact this
      by_cases hN : (l.length : Int) = argsN s
      · have e4n : ((l.length : Int) != argsN s) = false := by rw [hN]; simp
        have HX2 : Hid (X = mayEs l (n - 1)) := Lib.hid (by rw [HX.out, decide_eq_true h3, decide_eq_true hv, decide_eq_true hN]; simp)
        clear h3 hv hN
        refine wp_region_eq_lit (vs := [(.pointer (some ⟨w.heap.size, 0, none⟩)), (.int .i64 k), (.bool false), (.bool false), (.pointer (some ⟨w.heap.size, 2, none⟩)), (.agg #[.int .i64 v.kind, .int .i64 v.n, .string (str v.s)]), (.agg #[.int .i64 0, .int .i64 0, .string ⟨#[]⟩]), (.bool false), (.bool false), (.bool false), (.pointer (some ⟨w.heap.size, 5, none⟩)), (.slice A l.length c), (.int .i64 (l.length : Int)), (.pointer (some ⟨w.heap.size, 1, none⟩)), (.string (str s)), (.int .i64 (argsN s)), (.bool false), (.bool false), (.bool false)]) (by kernel_rfl) (by kernel_rfl) rfl rfl ?_ ?_
        · refine ⟨?_, ?_, ?_, ?_, ?_, ?_, ?_, ?_, ?_, ?_, ?_, ?_, ?_, ?_, ?_, ?_, ?_, ?_, ?_, trivial⟩
          · intro ac wc hs hd hz hf hw K hK
            have e0 : ac.eval (.tmp 2) = (.pointer (some ⟨w.heap.size, 0, none⟩)) := hf 2 rfl
            clear hd hz hf hw
            simp only [Region.wanted, if_true, Oper.wp, execOp, resolve, List.map_toArray, List.map_cons, List.map_nil, Option.map_some, Option.map_none, e0]
            go_simp
            exact hK _ _ rfl (Same.refl _ _)
          · intro ac wc hs hd hz hf hw K hK
            have e0 : ac.eval (.tmp 54) = (.pointer (some ⟨w.heap.size, 0, none⟩)) := hw 0 rfl
            have m0 : wc.cell? ⟨w.heap.size, 0, none⟩ = some (.int .i64 k) := hs.cell (p := ⟨w.heap.size, 0, none⟩) trivial c0
            clear hd hz hf hw
            simp only [Region.wanted, if_true, Oper.wp, execOp, resolve, List.map_toArray, List.map_cons, List.map_nil, Option.map_some, Option.map_none, e0]
            go_simp
            exact hK _ _ rfl (Same.refl _ _)
          · intro ac wc hs hd hz hf hw K hK
            have e0 : ac.eval (.tmp 55) = (.int .i64 k) := hw 1 rfl
            clear hd hz hf hw
            simp only [Region.wanted, if_true, Oper.wp, execOp, resolve, List.map_toArray, List.map_cons, List.map_nil, Option.map_some, Option.map_none, e0]
            go_simp
            exact hK _ _ rfl (Same.refl _ _)
          · intro ac wc hs hd hz hf hw K hK
            have e0 : ac.eval (.tmp 56) = (.bool false) := hw 2 rfl
            clear hd hz hf hw
            simp only [Region.wanted, if_true, Oper.wp, execOp, resolve, List.map_toArray, List.map_cons, List.map_nil, Option.map_some, Option.map_none, e0]
            go_simp
            exact hK _ _ rfl (Same.refl _ _)
          · intro ac wc hs hd hz hf hw K hK
            have eg : ac.eval (.tmp 57) = .bool false := hw 3 rfl
            refine run_wanted (j := 3) (d := 57) (b := false) rfl rfl hz (of_decide_eq_true rfl) eg ?_
            clear eg
            have e0 : ac.eval (.tmp 2) = (.pointer (some ⟨w.heap.size, 0, none⟩)) := hf 2 rfl
            clear hd hz hf hw
            simp only [Oper.wp, execOp, resolve, List.map_toArray, List.map_cons, List.map_nil, Option.map_some, Option.map_none, e0]
            go_simp
            exact hK _ _ rfl (Same.refl _ _)
          · intro ac wc hs hd hz hf hw K hK
            have eg : ac.eval (.tmp 57) = .bool false := hw 3 rfl
            refine run_wanted (j := 3) (d := 57) (b := false) rfl rfl hz (of_decide_eq_true rfl) eg ?_
            clear eg
            have e0 : ac.eval (.tmp 58) = (.pointer (some ⟨w.heap.size, 2, none⟩)) := hw 4 rfl
            have m0 : wc.cell? ⟨w.heap.size, 2, none⟩ = some (.int .i64 v.kind) := hs.cell (p := ⟨w.heap.size, 2, none⟩) trivial c2
            have m1 : wc.cell? ⟨w.heap.size, 3, none⟩ = some (.int .i64 v.n) := hs.cell (p := ⟨w.heap.size, 3, none⟩) trivial c3
            have m2 : wc.cell? ⟨w.heap.size, 4, none⟩ = some (.string (str v.s)) := hs.cell (p := ⟨w.heap.size, 4, none⟩) trivial c4
            clear hd hz hf hw
            simp only [Oper.wp, execOp, resolve, List.map_toArray, List.map_cons, List.map_nil, Option.map_some, Option.map_none, e0]
            go_simp
            exact hK _ _ rfl (Same.refl _ _)
          · intro ac wc hs hd hz hf hw K hK
            have eg : ac.eval (.tmp 57) = .bool false := hw 3 rfl
            refine run_wanted (j := 3) (d := 57) (b := false) rfl rfl hz (of_decide_eq_true rfl) eg ?_
            clear eg
            clear hd hz hf hw
            simp only [Oper.wp, execOp, resolve, List.map_toArray, List.map_cons, List.map_nil, Option.map_some, Option.map_none]
            go_simp
            exact hK _ _ rfl (Same.refl _ _)
          · intro ac wc hs hd hz hf hw K hK
            have eg : ac.eval (.tmp 57) = .bool false := hw 3 rfl
            refine run_wanted (j := 3) (d := 57) (b := false) rfl rfl hz (of_decide_eq_true rfl) eg ?_
            clear eg
            have e0 : ac.eval (.tmp 59) = (.agg #[.int .i64 v.kind, .int .i64 v.n, .string (str v.s)]) := hw 5 rfl
            have e1 : ac.eval (.tmp 60) = (.agg #[.int .i64 0, .int .i64 0, .string ⟨#[]⟩]) := hw 6 rfl
            clear hd hz hf hw
            simp only [Oper.wp, execOp, resolve, List.map_toArray, List.map_cons, List.map_nil, Option.map_some, Option.map_none, e0, e1]
            go_simp
            exact hK _ _ rfl (Same.refl _ _)
          · intro ac wc hs hd hz hf hw K hK
            have e0 : ac.eval (.tmp 57) = (.bool false) := hw 3 rfl
            have e1 : ac.eval (.tmp 61) = (.bool false) := hw 7 rfl
            clear hd hz hf hw
            simp only [Region.wanted, if_true, Oper.wp, execOp, resolve, List.map_toArray, List.map_cons, List.map_nil, Option.map_some, Option.map_none, e0, e1]
            go_simp
            exact hK _ _ rfl (Same.refl _ _)
          · intro ac wc hs hd hz hf hw K hK
            have e0 : ac.eval (.tmp 62) = (.bool false) := hw 8 rfl
            clear hd hz hf hw
            simp only [Region.wanted, if_true, Oper.wp, execOp, resolve, List.map_toArray, List.map_cons, List.map_nil, Option.map_some, Option.map_none, e0]
            go_simp
            exact hK _ _ rfl (Same.refl _ _)
          · intro ac wc hs hd hz hf hw K hK
            have eg : ac.eval (.tmp 63) = .bool false := hw 9 rfl
            refine run_wanted (j := 9) (d := 63) (b := false) rfl rfl hz (of_decide_eq_true rfl) eg ?_
            clear eg
            have e0 : ac.eval (.tmp 2) = (.pointer (some ⟨w.heap.size, 0, none⟩)) := hf 2 rfl
            clear hd hz hf hw
            simp only [Oper.wp, execOp, resolve, List.map_toArray, List.map_cons, List.map_nil, Option.map_some, Option.map_none, e0]
            go_simp
            exact hK _ _ rfl (Same.refl _ _)
          · intro ac wc hs hd hz hf hw K hK
            have eg : ac.eval (.tmp 63) = .bool false := hw 9 rfl
            refine run_wanted (j := 9) (d := 63) (b := false) rfl rfl hz (of_decide_eq_true rfl) eg ?_
            clear eg
            have e0 : ac.eval (.tmp 64) = (.pointer (some ⟨w.heap.size, 5, none⟩)) := hw 10 rfl
            have m0 : wc.cell? ⟨w.heap.size, 5, none⟩ = some (.slice A l.length c) := hs.cell (p := ⟨w.heap.size, 5, none⟩) trivial c5
            clear hd hz hf hw
            simp only [Oper.wp, execOp, resolve, List.map_toArray, List.map_cons, List.map_nil, Option.map_some, Option.map_none, e0]
            go_simp
            exact hK _ _ rfl (Same.refl _ _)
          · intro ac wc hs hd hz hf hw K hK
            have eg : ac.eval (.tmp 63) = .bool false := hw 9 rfl
            refine run_wanted (j := 9) (d := 63) (b := false) rfl rfl hz (of_decide_eq_true rfl) eg ?_
            clear eg
            have e0 : ac.eval (.tmp 65) = (.slice A l.length c) := hw 11 rfl
            clear hd hz hf hw
            simp only [Oper.wp, execOp, resolve, List.map_toArray, List.map_cons, List.map_nil, Option.map_some, Option.map_none, e0]
            go_simp
            exact hK _ _ rfl (Same.refl _ _)
          · intro ac wc hs hd hz hf hw K hK
            have eg : ac.eval (.tmp 63) = .bool false := hw 9 rfl
            refine run_wanted (j := 9) (d := 63) (b := false) rfl rfl hz (of_decide_eq_true rfl) eg ?_
            clear eg
            have e0 : ac.eval (.tmp 2) = (.pointer (some ⟨w.heap.size, 0, none⟩)) := hf 2 rfl
            clear hd hz hf hw
            simp only [Oper.wp, execOp, resolve, List.map_toArray, List.map_cons, List.map_nil, Option.map_some, Option.map_none, e0]
            go_simp
            exact hK _ _ rfl (Same.refl _ _)
          · intro ac wc hs hd hz hf hw K hK
            have eg : ac.eval (.tmp 63) = .bool false := hw 9 rfl
            refine run_wanted (j := 9) (d := 63) (b := false) rfl rfl hz (of_decide_eq_true rfl) eg ?_
            clear eg
            have e0 : ac.eval (.tmp 67) = (.pointer (some ⟨w.heap.size, 1, none⟩)) := hw 13 rfl
            have m0 : wc.cell? ⟨w.heap.size, 1, none⟩ = some (.string (str s)) := hs.cell (p := ⟨w.heap.size, 1, none⟩) trivial c1
            clear hd hz hf hw
            simp only [Oper.wp, execOp, resolve, List.map_toArray, List.map_cons, List.map_nil, Option.map_some, Option.map_none, e0]
            go_simp
            exact hK _ _ rfl (Same.refl _ _)
          · intro ac wc hs hd hz hf hw K hK
            have eg : ac.eval (.tmp 63) = .bool false := hw 9 rfl
            refine run_wanted (j := 9) (d := 63) (b := false) rfl rfl hz (of_decide_eq_true rfl) eg ?_
            clear eg
            have e0 : ac.eval (.tmp 68) = (.string (str s)) := hw 14 rfl
            clear hd hz hf hw
            simp only [Oper.wp, execOp, resolve, List.map_toArray, List.map_cons, List.map_nil, Option.map_some, Option.map_none, e0]
            go_simp
            refine (args_any s wc).mono ?_
            rintro e wd ⟨rfl, rfl⟩
            exact hK _ _ rfl (Same.refl _ _)
          · intro ac wc hs hd hz hf hw K hK
            have eg : ac.eval (.tmp 63) = .bool false := hw 9 rfl
            refine run_wanted (j := 9) (d := 63) (b := false) rfl rfl hz (of_decide_eq_true rfl) eg ?_
            clear eg
            have e0 : ac.eval (.tmp 66) = (.int .i64 (l.length : Int)) := hw 12 rfl
            have e1 : ac.eval (.tmp 69) = (.int .i64 (argsN s)) := hw 15 rfl
            clear hd hz hf hw
            simp only [Oper.wp, execOp, resolve, List.map_toArray, List.map_cons, List.map_nil, Option.map_some, Option.map_none, e0, e1]
            go_simp
            exact hK _ _ rfl (Same.refl _ _)
          · intro ac wc hs hd hz hf hw K hK
            have e0 : ac.eval (.tmp 63) = (.bool false) := hw 9 rfl
            have e1 : ac.eval (.tmp 70) = (.bool false) := hw 16 rfl
            clear hd hz hf hw
            simp only [Region.wanted, if_true, Oper.wp, execOp, resolve, List.map_toArray, List.map_cons, List.map_nil, Option.map_some, Option.map_none, e0, e1]
            go_simp
            exact hK _ _ rfl (Same.refl _ _)
          · intro ac wc hs hd hz hf hw K hK
            have e0 : ac.eval (.tmp 71) = (.bool false) := hw 17 rfl
            clear hd hz hf hw
            simp only [Region.wanted, if_true, Oper.wp, execOp, resolve, List.map_toArray, List.map_cons, List.map_nil, Option.map_some, Option.map_none, e0]
            go_simp
            exact hK _ _ rfl (Same.refl _ _)
        · intro wR hsR
          simp only [putAll, Act.put, List.setIfInBounds_toArray, List.set_cons_succ, List.set_cons_zero]
          have HS := Lib.hid (HS.out.trans hsR)
          have HL := Lib.hid (HL.out.keepAll hsR)
          have HM := Lib.hid (HM.out.keep hsR)
          have HROW := Lib.hid (HROW.out.keep hsR trivial)
          have k5 := hsR.cell (p := ⟨w.heap.size, 5, none⟩) trivial c5
          clear c0 c1 c2 c3 c4 c5 hsR
          go_wp2
          go_loopw [75] (fun i wr => ∃ q : Nat, i = .int .i64 (q : Int) ∧ q ≤ l.length ∧ X = mayEs (l.drop q) (n - 1) ∧ Same (fun _ => True) wR wr) (fun i _ => l.length - (intOf i).toNat)
          case atStart => exact ⟨0, rfl, Nat.zero_le _, HX2.out, Same.refl _ _⟩
          case round =>
            obtain ⟨q, rfl, hq, hx, hS⟩ := hrel
            have x1 : (0 : Int) ≤ (q : Int) := by omega
            have HS2 := Lib.hid hS
            have HL2 := Lib.hid (HL.out.keepAll hS)
            have HM2 := Lib.hid (HM.out.keep hS)
            clear hS
            by_cases hql : q < l.length
            · have x2 : (q : Int) < (l.length : Int) := by omega
              obtain ⟨ad, uq, rfl, -, hlq, d0, d1, d2, d3, d4, d5⟩ := ExL.cells HL2.out hql
              obtain ⟨Aq, cq, rfl, -, -⟩ := hlq.form
              have hd : l.drop q = l[q] :: l.drop (q + 1) := List.drop_eq_getElem_cons hql
              rw [hd, mayEs_cons] at hx
              have HXq := Lib.hid hx
              have hmem : l[q] ∈ l := List.getElem_mem hql
              have hq0 := (Same.refl (fun _ => True) wr).alloc (.cells #[.int .i64 l[q].kind, .string (str l[q].s), .int .i64 l[q].v.kind, .int .i64 l[q].v.n, .string (str l[q].v.s), .slice Aq l[q].args.length cq] 34)
              have hi := ih l[q] hmem (n - 1) (.slice Aq l[q].args.length cq) (wr.alloc (.cells #[.int .i64 l[q].kind, .string (str l[q].s), .int .i64 l[q].v.kind, .int .i64 l[q].v.n, .string (str l[q].v.s), .slice Aq l[q].args.length cq] 34)) (by omega) ((ExR.iff _ _).2 (hlq.keepAll hq0)) (HM2.out.keep hq0)
              have hn2 : ((n - 1 : Nat) : Int) = (n : Int) - 1 := by omega
              rw [hn2] at hi
              have HQ0 := Lib.hid hq0
              clear hx hd hmem hlq hq0
              go_wp2_with (go_at_call 58; refine stopAt ?_)
              unfold Hid
              refine hi.mono ?_
              rintro e w5 ⟨rfl, hS⟩
              have HS5 := Lib.hid ((HS2.out.trans HQ0.out).trans hS)
              clear hS hi
              cases hb : mayE l[q] (n - 1)
              · have HB : Hid (false = X) := Lib.hid (by rw [HXq.out, hb]; rfl)
                clear hb
                go_wp2
                go_ret
                exact ⟨ret_bool HB.out, HS.out.trans HS5.out⟩
              · have HXn : Hid (X = mayEs (l.drop (q + 1)) (n - 1)) := Lib.hid (by rw [HXq.out, hb]; rfl)
                clear hb
                go_wp2
                go_roundw
                case rel => exact ⟨q + 1, by go_num, by omega, HXn.out, HS5.out⟩
                case measure => simp [intOf]; omega
            · obtain rfl : q = l.length := by omega
              rw [List.drop_length] at hx
              have HB : Hid (true = X) := Lib.hid (by rw [hx]; rfl)
              clear hx
              go_wp2
              go_ret
              exact ⟨ret_bool HB.out, HS.out.trans HS2.out⟩
      · have e4n : ((l.length : Int) != argsN s) = true := by simpa using hN
        have HB : Hid (false = X) := Lib.hid (by rw [HX.out, decide_eq_false hN]; simp)
        clear h3 hv hN
        refine wp_region_eq_lit (vs := [(.pointer (some ⟨w.heap.size, 0, none⟩)), (.int .i64 k), (.bool false), (.bool false), (.pointer (some ⟨w.heap.size, 2, none⟩)), (.agg #[.int .i64 v.kind, .int .i64 v.n, .string (str v.s)]), (.agg #[.int .i64 0, .int .i64 0, .string ⟨#[]⟩]), (.bool false), (.bool false), (.bool false), (.pointer (some ⟨w.heap.size, 5, none⟩)), (.slice A l.length c), (.int .i64 (l.length : Int)), (.pointer (some ⟨w.heap.size, 1, none⟩)), (.string (str s)), (.int .i64 (argsN s)), (.bool true), (.bool true), (.bool true)]) (by kernel_rfl) (by kernel_rfl) rfl rfl ?_ ?_
        · refine ⟨?_, ?_, ?_, ?_, ?_, ?_, ?_, ?_, ?_, ?_, ?_, ?_, ?_, ?_, ?_, ?_, ?_, ?_, ?_, trivial⟩
          · intro ac wc hs hd hz hf hw K hK
            have e0 : ac.eval (.tmp 2) = (.pointer (some ⟨w.heap.size, 0, none⟩)) := hf 2 rfl
            clear hd hz hf hw
            simp only [Region.wanted, if_true, Oper.wp, execOp, resolve, List.map_toArray, List.map_cons, List.map_nil, Option.map_some, Option.map_none, e0]
            go_simp
            exact hK _ _ rfl (Same.refl _ _)
          · intro ac wc hs hd hz hf hw K hK
            have e0 : ac.eval (.tmp 54) = (.pointer (some ⟨w.heap.size, 0, none⟩)) := hw 0 rfl
            have m0 : wc.cell? ⟨w.heap.size, 0, none⟩ = some (.int .i64 k) := hs.cell (p := ⟨w.heap.size, 0, none⟩) trivial c0
            clear hd hz hf hw
            simp only [Region.wanted, if_true, Oper.wp, execOp, resolve, List.map_toArray, List.map_cons, List.map_nil, Option.map_some, Option.map_none, e0]
            go_simp
            exact hK _ _ rfl (Same.refl _ _)
          · intro ac wc hs hd hz hf hw K hK
            have e0 : ac.eval (.tmp 55) = (.int .i64 k) := hw 1 rfl
            clear hd hz hf hw
            simp only [Region.wanted, if_true, Oper.wp, execOp, resolve, List.map_toArray, List.map_cons, List.map_nil, Option.map_some, Option.map_none, e0]
            go_simp
            exact hK _ _ rfl (Same.refl _ _)
          · intro ac wc hs hd hz hf hw K hK
            have e0 : ac.eval (.tmp 56) = (.bool false) := hw 2 rfl
            clear hd hz hf hw
            simp only [Region.wanted, if_true, Oper.wp, execOp, resolve, List.map_toArray, List.map_cons, List.map_nil, Option.map_some, Option.map_none, e0]
            go_simp
            exact hK _ _ rfl (Same.refl _ _)
          · intro ac wc hs hd hz hf hw K hK
            have eg : ac.eval (.tmp 57) = .bool false := hw 3 rfl
            refine run_wanted (j := 3) (d := 57) (b := false) rfl rfl hz (of_decide_eq_true rfl) eg ?_
            clear eg
            have e0 : ac.eval (.tmp 2) = (.pointer (some ⟨w.heap.size, 0, none⟩)) := hf 2 rfl
            clear hd hz hf hw
            simp only [Oper.wp, execOp, resolve, List.map_toArray, List.map_cons, List.map_nil, Option.map_some, Option.map_none, e0]
            go_simp
            exact hK _ _ rfl (Same.refl _ _)
          · intro ac wc hs hd hz hf hw K hK
            have eg : ac.eval (.tmp 57) = .bool false := hw 3 rfl
            refine run_wanted (j := 3) (d := 57) (b := false) rfl rfl hz (of_decide_eq_true rfl) eg ?_
            clear eg
            have e0 : ac.eval (.tmp 58) = (.pointer (some ⟨w.heap.size, 2, none⟩)) := hw 4 rfl
            have m0 : wc.cell? ⟨w.heap.size, 2, none⟩ = some (.int .i64 v.kind) := hs.cell (p := ⟨w.heap.size, 2, none⟩) trivial c2
            have m1 : wc.cell? ⟨w.heap.size, 3, none⟩ = some (.int .i64 v.n) := hs.cell (p := ⟨w.heap.size, 3, none⟩) trivial c3
            have m2 : wc.cell? ⟨w.heap.size, 4, none⟩ = some (.string (str v.s)) := hs.cell (p := ⟨w.heap.size, 4, none⟩) trivial c4
            clear hd hz hf hw
            simp only [Oper.wp, execOp, resolve, List.map_toArray, List.map_cons, List.map_nil, Option.map_some, Option.map_none, e0]
            go_simp
            exact hK _ _ rfl (Same.refl _ _)
          · intro ac wc hs hd hz hf hw K hK
            have eg : ac.eval (.tmp 57) = .bool false := hw 3 rfl
            refine run_wanted (j := 3) (d := 57) (b := false) rfl rfl hz (of_decide_eq_true rfl) eg ?_
            clear eg
            clear hd hz hf hw
            simp only [Oper.wp, execOp, resolve, List.map_toArray, List.map_cons, List.map_nil, Option.map_some, Option.map_none]
            go_simp
            exact hK _ _ rfl (Same.refl _ _)
          · intro ac wc hs hd hz hf hw K hK
            have eg : ac.eval (.tmp 57) = .bool false := hw 3 rfl
            refine run_wanted (j := 3) (d := 57) (b := false) rfl rfl hz (of_decide_eq_true rfl) eg ?_
            clear eg
            have e0 : ac.eval (.tmp 59) = (.agg #[.int .i64 v.kind, .int .i64 v.n, .string (str v.s)]) := hw 5 rfl
            have e1 : ac.eval (.tmp 60) = (.agg #[.int .i64 0, .int .i64 0, .string ⟨#[]⟩]) := hw 6 rfl
            clear hd hz hf hw
            simp only [Oper.wp, execOp, resolve, List.map_toArray, List.map_cons, List.map_nil, Option.map_some, Option.map_none, e0, e1]
            go_simp
            exact hK _ _ rfl (Same.refl _ _)
          · intro ac wc hs hd hz hf hw K hK
            have e0 : ac.eval (.tmp 57) = (.bool false) := hw 3 rfl
            have e1 : ac.eval (.tmp 61) = (.bool false) := hw 7 rfl
            clear hd hz hf hw
            simp only [Region.wanted, if_true, Oper.wp, execOp, resolve, List.map_toArray, List.map_cons, List.map_nil, Option.map_some, Option.map_none, e0, e1]
            go_simp
            exact hK _ _ rfl (Same.refl _ _)
          · intro ac wc hs hd hz hf hw K hK
            have e0 : ac.eval (.tmp 62) = (.bool false) := hw 8 rfl
            clear hd hz hf hw
            simp only [Region.wanted, if_true, Oper.wp, execOp, resolve, List.map_toArray, List.map_cons, List.map_nil, Option.map_some, Option.map_none, e0]
            go_simp
            exact hK _ _ rfl (Same.refl _ _)
          · intro ac wc hs hd hz hf hw K hK
            have eg : ac.eval (.tmp 63) = .bool false := hw 9 rfl
            refine run_wanted (j := 9) (d := 63) (b := false) rfl rfl hz (of_decide_eq_true rfl) eg ?_
            clear eg
            have e0 : ac.eval (.tmp 2) = (.pointer (some ⟨w.heap.size, 0, none⟩)) := hf 2 rfl
            clear hd hz hf hw
            simp only [Oper.wp, execOp, resolve, List.map_toArray, List.map_cons, List.map_nil, Option.map_some, Option.map_none, e0]
            go_simp
            exact hK _ _ rfl (Same.refl _ _)
          · intro ac wc hs hd hz hf hw K hK
            have eg : ac.eval (.tmp 63) = .bool false := hw 9 rfl
            refine run_wanted (j := 9) (d := 63) (b := false) rfl rfl hz (of_decide_eq_true rfl) eg ?_
            clear eg
            have e0 : ac.eval (.tmp 64) = (.pointer (some ⟨w.heap.size, 5, none⟩)) := hw 10 rfl
            have m0 : wc.cell? ⟨w.heap.size, 5, none⟩ = some (.slice A l.length c) := hs.cell (p := ⟨w.heap.size, 5, none⟩) trivial c5
            clear hd hz hf hw
            simp only [Oper.wp, execOp, resolve, List.map_toArray, List.map_cons, List.map_nil, Option.map_some, Option.map_none, e0]
            go_simp
            exact hK _ _ rfl (Same.refl _ _)
          · intro ac wc hs hd hz hf hw K hK
            have eg : ac.eval (.tmp 63) = .bool false := hw 9 rfl
            refine run_wanted (j := 9) (d := 63) (b := false) rfl rfl hz (of_decide_eq_true rfl) eg ?_
            clear eg
            have e0 : ac.eval (.tmp 65) = (.slice A l.length c) := hw 11 rfl
            clear hd hz hf hw
            simp only [Oper.wp, execOp, resolve, List.map_toArray, List.map_cons, List.map_nil, Option.map_some, Option.map_none, e0]
            go_simp
            exact hK _ _ rfl (Same.refl _ _)
          · intro ac wc hs hd hz hf hw K hK
            have eg : ac.eval (.tmp 63) = .bool false := hw 9 rfl
            refine run_wanted (j := 9) (d := 63) (b := false) rfl rfl hz (of_decide_eq_true rfl) eg ?_
            clear eg
            have e0 : ac.eval (.tmp 2) = (.pointer (some ⟨w.heap.size, 0, none⟩)) := hf 2 rfl
            clear hd hz hf hw
            simp only [Oper.wp, execOp, resolve, List.map_toArray, List.map_cons, List.map_nil, Option.map_some, Option.map_none, e0]
            go_simp
            exact hK _ _ rfl (Same.refl _ _)
          · intro ac wc hs hd hz hf hw K hK
            have eg : ac.eval (.tmp 63) = .bool false := hw 9 rfl
            refine run_wanted (j := 9) (d := 63) (b := false) rfl rfl hz (of_decide_eq_true rfl) eg ?_
            clear eg
            have e0 : ac.eval (.tmp 67) = (.pointer (some ⟨w.heap.size, 1, none⟩)) := hw 13 rfl
            have m0 : wc.cell? ⟨w.heap.size, 1, none⟩ = some (.string (str s)) := hs.cell (p := ⟨w.heap.size, 1, none⟩) trivial c1
            clear hd hz hf hw
            simp only [Oper.wp, execOp, resolve, List.map_toArray, List.map_cons, List.map_nil, Option.map_some, Option.map_none, e0]
            go_simp
            exact hK _ _ rfl (Same.refl _ _)
          · intro ac wc hs hd hz hf hw K hK
            have eg : ac.eval (.tmp 63) = .bool false := hw 9 rfl
            refine run_wanted (j := 9) (d := 63) (b := false) rfl rfl hz (of_decide_eq_true rfl) eg ?_
            clear eg
            have e0 : ac.eval (.tmp 68) = (.string (str s)) := hw 14 rfl
            clear hd hz hf hw
            simp only [Oper.wp, execOp, resolve, List.map_toArray, List.map_cons, List.map_nil, Option.map_some, Option.map_none, e0]
            go_simp
            refine (args_any s wc).mono ?_
            rintro e wd ⟨rfl, rfl⟩
            exact hK _ _ rfl (Same.refl _ _)
          · intro ac wc hs hd hz hf hw K hK
            have eg : ac.eval (.tmp 63) = .bool false := hw 9 rfl
            refine run_wanted (j := 9) (d := 63) (b := false) rfl rfl hz (of_decide_eq_true rfl) eg ?_
            clear eg
            have e0 : ac.eval (.tmp 66) = (.int .i64 (l.length : Int)) := hw 12 rfl
            have e1 : ac.eval (.tmp 69) = (.int .i64 (argsN s)) := hw 15 rfl
            clear hd hz hf hw
            simp only [Oper.wp, execOp, resolve, List.map_toArray, List.map_cons, List.map_nil, Option.map_some, Option.map_none, e0, e1]
            go_simp
            exact hK _ _ rfl (Same.refl _ _)
          · intro ac wc hs hd hz hf hw K hK
            have e0 : ac.eval (.tmp 63) = (.bool false) := hw 9 rfl
            have e1 : ac.eval (.tmp 70) = (.bool true) := hw 16 rfl
            clear hd hz hf hw
            simp only [Region.wanted, if_true, Oper.wp, execOp, resolve, List.map_toArray, List.map_cons, List.map_nil, Option.map_some, Option.map_none, e0, e1]
            go_simp
            exact hK _ _ rfl (Same.refl _ _)
          · intro ac wc hs hd hz hf hw K hK
            have e0 : ac.eval (.tmp 71) = (.bool true) := hw 17 rfl
            clear hd hz hf hw
            simp only [Region.wanted, if_true, Oper.wp, execOp, resolve, List.map_toArray, List.map_cons, List.map_nil, Option.map_some, Option.map_none, e0]
            go_simp
            exact hK _ _ rfl (Same.refl _ _)
        · intro wR hsR
          simp only [putAll, Act.put, List.setIfInBounds_toArray, List.set_cons_succ, List.set_cons_zero]
          go_wp2
          go_ret
          exact ⟨ret_bool HB.out, (HS.out.trans hsR)⟩
    · have hez : ∀ w, (binOp .neq 31 (.agg #[.int .i64 v.kind, .int .i64 v.n, .string (str v.s)]) (.agg #[.int .i64 0, .int .i64 0, .string ⟨#[]⟩])).run Tryz.prog w = .ok (.bool true) w := fun w => by
        have := neV v .zero w
        rw [decide_eq_false hv] at this
        exact this
      have HB : Hid (false = X) := Lib.hid (by rw [HX.out, decide_eq_false hv]; simp)
      clear h3 hv
      refine wp_region_eq_lit (vs := [(.pointer (some ⟨w.heap.size, 0, none⟩)), (.int .i64 k), (.bool false), (.bool false), (.pointer (some ⟨w.heap.size, 2, none⟩)), (.agg #[.int .i64 v.kind, .int .i64 v.n, .string (str v.s)]), (.agg #[.int .i64 0, .int .i64 0, .string ⟨#[]⟩]), (.bool true), (.bool true), (.bool true), undef, undef, undef, undef, undef, undef, undef, (.bool true), (.bool true)]) (by kernel_rfl) (by kernel_rfl) rfl rfl ?_ ?_
      · refine ⟨?_, ?_, ?_, ?_, ?_, ?_, ?_, ?_, ?_, ?_, ?_, ?_, ?_, ?_, ?_, ?_, ?_, ?_, ?_, trivial⟩
        · intro ac wc hs hd hz hf hw K hK
          have e0 : ac.eval (.tmp 2) = (.pointer (some ⟨w.heap.size, 0, none⟩)) := hf 2 rfl
          clear hd hz hf hw
          simp only [Region.wanted, if_true, Oper.wp, execOp, resolve, List.map_toArray, List.map_cons, List.map_nil, Option.map_some, Option.map_none, e0]
          go_simp
          exact hK _ _ rfl (Same.refl _ _)
        · intro ac wc hs hd hz hf hw K hK
          have e0 : ac.eval (.tmp 54) = (.pointer (some ⟨w.heap.size, 0, none⟩)) := hw 0 rfl
          have m0 : wc.cell? ⟨w.heap.size, 0, none⟩ = some (.int .i64 k) := hs.cell (p := ⟨w.heap.size, 0, none⟩) trivial c0
          clear hd hz hf hw
          simp only [Region.wanted, if_true, Oper.wp, execOp, resolve, List.map_toArray, List.map_cons, List.map_nil, Option.map_some, Option.map_none, e0]
          go_simp
          exact hK _ _ rfl (Same.refl _ _)
        · intro ac wc hs hd hz hf hw K hK
          have e0 : ac.eval (.tmp 55) = (.int .i64 k) := hw 1 rfl
          clear hd hz hf hw
          simp only [Region.wanted, if_true, Oper.wp, execOp, resolve, List.map_toArray, List.map_cons, List.map_nil, Option.map_some, Option.map_none, e0]
          go_simp
          exact hK _ _ rfl (Same.refl _ _)
        · intro ac wc hs hd hz hf hw K hK
          have e0 : ac.eval (.tmp 56) = (.bool false) := hw 2 rfl
          clear hd hz hf hw
          simp only [Region.wanted, if_true, Oper.wp, execOp, resolve, List.map_toArray, List.map_cons, List.map_nil, Option.map_some, Option.map_none, e0]
          go_simp
          exact hK _ _ rfl (Same.refl _ _)
        · intro ac wc hs hd hz hf hw K hK
          have eg : ac.eval (.tmp 57) = .bool false := hw 3 rfl
          refine run_wanted (j := 3) (d := 57) (b := false) rfl rfl hz (of_decide_eq_true rfl) eg ?_
          clear eg
          have e0 : ac.eval (.tmp 2) = (.pointer (some ⟨w.heap.size, 0, none⟩)) := hf 2 rfl
          clear hd hz hf hw
          simp only [Oper.wp, execOp, resolve, List.map_toArray, List.map_cons, List.map_nil, Option.map_some, Option.map_none, e0]
          go_simp
          exact hK _ _ rfl (Same.refl _ _)
        · intro ac wc hs hd hz hf hw K hK
          have eg : ac.eval (.tmp 57) = .bool false := hw 3 rfl
          refine run_wanted (j := 3) (d := 57) (b := false) rfl rfl hz (of_decide_eq_true rfl) eg ?_
          clear eg
          have e0 : ac.eval (.tmp 58) = (.pointer (some ⟨w.heap.size, 2, none⟩)) := hw 4 rfl
          have m0 : wc.cell? ⟨w.heap.size, 2, none⟩ = some (.int .i64 v.kind) := hs.cell (p := ⟨w.heap.size, 2, none⟩) trivial c2
          have m1 : wc.cell? ⟨w.heap.size, 3, none⟩ = some (.int .i64 v.n) := hs.cell (p := ⟨w.heap.size, 3, none⟩) trivial c3
          have m2 : wc.cell? ⟨w.heap.size, 4, none⟩ = some (.string (str v.s)) := hs.cell (p := ⟨w.heap.size, 4, none⟩) trivial c4
          clear hd hz hf hw
          simp only [Oper.wp, execOp, resolve, List.map_toArray, List.map_cons, List.map_nil, Option.map_some, Option.map_none, e0]
          go_simp
          exact hK _ _ rfl (Same.refl _ _)
        · intro ac wc hs hd hz hf hw K hK
          have eg : ac.eval (.tmp 57) = .bool false := hw 3 rfl
          refine run_wanted (j := 3) (d := 57) (b := false) rfl rfl hz (of_decide_eq_true rfl) eg ?_
          clear eg
          clear hd hz hf hw
          simp only [Oper.wp, execOp, resolve, List.map_toArray, List.map_cons, List.map_nil, Option.map_some, Option.map_none]
          go_simp
          exact hK _ _ rfl (Same.refl _ _)
        · intro ac wc hs hd hz hf hw K hK
          have eg : ac.eval (.tmp 57) = .bool false := hw 3 rfl
          refine run_wanted (j := 3) (d := 57) (b := false) rfl rfl hz (of_decide_eq_true rfl) eg ?_
          clear eg
          have e0 : ac.eval (.tmp 59) = (.agg #[.int .i64 v.kind, .int .i64 v.n, .string (str v.s)]) := hw 5 rfl
          have e1 : ac.eval (.tmp 60) = (.agg #[.int .i64 0, .int .i64 0, .string ⟨#[]⟩]) := hw 6 rfl
          clear hd hz hf hw
          simp only [Oper.wp, execOp, resolve, List.map_toArray, List.map_cons, List.map_nil, Option.map_some, Option.map_none, e0, e1]
          go_simp
          exact hK _ _ rfl (Same.refl _ _)
        · intro ac wc hs hd hz hf hw K hK
          have e0 : ac.eval (.tmp 57) = (.bool false) := hw 3 rfl
          have e1 : ac.eval (.tmp 61) = (.bool true) := hw 7 rfl
          clear hd hz hf hw
          simp only [Region.wanted, if_true, Oper.wp, execOp, resolve, List.map_toArray, List.map_cons, List.map_nil, Option.map_some, Option.map_none, e0, e1]
          go_simp
          exact hK _ _ rfl (Same.refl _ _)
        · intro ac wc hs hd hz hf hw K hK
          have e0 : ac.eval (.tmp 62) = (.bool true) := hw 8 rfl
          clear hd hz hf hw
          simp only [Region.wanted, if_true, Oper.wp, execOp, resolve, List.map_toArray, List.map_cons, List.map_nil, Option.map_some, Option.map_none, e0]
          go_simp
          exact hK _ _ rfl (Same.refl _ _)
        · intro ac wc hs hd hz hf hw K hK
          have eg : ac.eval (.tmp 63) = .bool true := hw 9 rfl
          refine skip_wanted (j := 9) (d := 63) (b := true) rfl rfl hz (of_decide_eq_true rfl) eg ?_
          clear eg
          exact hK _ _ rfl (Same.refl _ _)
        · intro ac wc hs hd hz hf hw K hK
          have eg : ac.eval (.tmp 63) = .bool true := hw 9 rfl
          refine skip_wanted (j := 9) (d := 63) (b := true) rfl rfl hz (of_decide_eq_true rfl) eg ?_
          clear eg
          exact hK _ _ rfl (Same.refl _ _)
        · intro ac wc hs hd hz hf hw K hK
          have eg : ac.eval (.tmp 63) = .bool true := hw 9 rfl
          refine skip_wanted (j := 9) (d := 63) (b := true) rfl rfl hz (of_decide_eq_true rfl) eg ?_
          clear eg
          exact hK _ _ rfl (Same.refl _ _)
        · intro ac wc hs hd hz hf hw K hK
          have eg : ac.eval (.tmp 63) = .bool true := hw 9 rfl
          refine skip_wanted (j := 9) (d := 63) (b := true) rfl rfl hz (of_decide_eq_true rfl) eg ?_
          clear eg
          exact hK _ _ rfl (Same.refl _ _)
        · intro ac wc hs hd hz hf hw K hK
          have eg : ac.eval (.tmp 63) = .bool true := hw 9 rfl
          refine skip_wanted (j := 9) (d := 63) (b := true) rfl rfl hz (of_decide_eq_true rfl) eg ?_
          clear eg
          exact hK _ _ rfl (Same.refl _ _)
        · intro ac wc hs hd hz hf hw K hK
          have eg : ac.eval (.tmp 63) = .bool true := hw 9 rfl
          refine skip_wanted (j := 9) (d := 63) (b := true) rfl rfl hz (of_decide_eq_true rfl) eg ?_
          clear eg
          exact hK _ _ rfl (Same.refl _ _)
        · intro ac wc hs hd hz hf hw K hK
          have eg : ac.eval (.tmp 63) = .bool true := hw 9 rfl
          refine skip_wanted (j := 9) (d := 63) (b := true) rfl rfl hz (of_decide_eq_true rfl) eg ?_
          clear eg
          exact hK _ _ rfl (Same.refl _ _)
        · intro ac wc hs hd hz hf hw K hK
          have e0 : ac.eval (.tmp 63) = (.bool true) := hw 9 rfl
          have e1 : ac.eval (.tmp 70) = undef := hw 16 rfl
          clear hd hz hf hw
          simp only [Region.wanted, if_true, Oper.wp, execOp, resolve, List.map_toArray, List.map_cons, List.map_nil, Option.map_some, Option.map_none, e0, e1]
          go_simp
          exact hK _ _ rfl (Same.refl _ _)
        · intro ac wc hs hd hz hf hw K hK
          have e0 : ac.eval (.tmp 71) = (.bool true) := hw 17 rfl
          clear hd hz hf hw
          simp only [Region.wanted, if_true, Oper.wp, execOp, resolve, List.map_toArray, List.map_cons, List.map_nil, Option.map_some, Option.map_none, e0]
          go_simp
          exact hK _ _ rfl (Same.refl _ _)
      · intro wR hsR
        simp only [putAll, Act.put, List.setIfInBounds_toArray, List.set_cons_succ, List.set_cons_zero]
        go_wp2
        go_ret
        exact ⟨ret_bool HB.out, (HS.out.trans hsR)⟩
  · have e3n : (k != 3) = true := by simpa using h3
    have HB : Hid (false = X) := Lib.hid (by rw [HX.out, decide_eq_false h3]; simp)
    clear h3
    refine wp_region_eq_lit (vs := [(.pointer (some ⟨w.heap.size, 0, none⟩)), (.int .i64 k), (.bool true), (.bool true), undef, undef, undef, undef, (.bool true), (.bool true), undef, undef, undef, undef, undef, undef, undef, (.bool true), (.bool true)]) (by kernel_rfl) (by kernel_rfl) rfl rfl ?_ ?_
    · refine ⟨?_, ?_, ?_, ?_, ?_, ?_, ?_, ?_, ?_, ?_, ?_, ?_, ?_, ?_, ?_, ?_, ?_, ?_, ?_, trivial⟩
      · intro ac wc hs hd hz hf hw K hK
        have e0 : ac.eval (.tmp 2) = (.pointer (some ⟨w.heap.size, 0, none⟩)) := hf 2 rfl
        clear hd hz hf hw
        simp only [Region.wanted, if_true, Oper.wp, execOp, resolve, List.map_toArray, List.map_cons, List.map_nil, Option.map_some, Option.map_none, e0]
        go_simp
        exact hK _ _ rfl (Same.refl _ _)
      · intro ac wc hs hd hz hf hw K hK
        have e0 : ac.eval (.tmp 54) = (.pointer (some ⟨w.heap.size, 0, none⟩)) := hw 0 rfl
        have m0 : wc.cell? ⟨w.heap.size, 0, none⟩ = some (.int .i64 k) := hs.cell (p := ⟨w.heap.size, 0, none⟩) trivial c0
        clear hd hz hf hw
        simp only [Region.wanted, if_true, Oper.wp, execOp, resolve, List.map_toArray, List.map_cons, List.map_nil, Option.map_some, Option.map_none, e0]
        go_simp
        exact hK _ _ rfl (Same.refl _ _)
      · intro ac wc hs hd hz hf hw K hK
        have e0 : ac.eval (.tmp 55) = (.int .i64 k) := hw 1 rfl
        clear hd hz hf hw
        simp only [Region.wanted, if_true, Oper.wp, execOp, resolve, List.map_toArray, List.map_cons, List.map_nil, Option.map_some, Option.map_none, e0]
        go_simp
        exact hK _ _ rfl (Same.refl _ _)
      · intro ac wc hs hd hz hf hw K hK
        have e0 : ac.eval (.tmp 56) = (.bool true) := hw 2 rfl
        clear hd hz hf hw
        simp only [Region.wanted, if_true, Oper.wp, execOp, resolve, List.map_toArray, List.map_cons, List.map_nil, Option.map_some, Option.map_none, e0]
        go_simp
        exact hK _ _ rfl (Same.refl _ _)
      · intro ac wc hs hd hz hf hw K hK
        have eg : ac.eval (.tmp 57) = .bool true := hw 3 rfl
        refine skip_wanted (j := 3) (d := 57) (b := true) rfl rfl hz (of_decide_eq_true rfl) eg ?_
        clear eg
        exact hK _ _ rfl (Same.refl _ _)
      · intro ac wc hs hd hz hf hw K hK
        have eg : ac.eval (.tmp 57) = .bool true := hw 3 rfl
        refine skip_wanted (j := 3) (d := 57) (b := true) rfl rfl hz (of_decide_eq_true rfl) eg ?_
        clear eg
        exact hK _ _ rfl (Same.refl _ _)
      · intro ac wc hs hd hz hf hw K hK
        have eg : ac.eval (.tmp 57) = .bool true := hw 3 rfl
        refine skip_wanted (j := 3) (d := 57) (b := true) rfl rfl hz (of_decide_eq_true rfl) eg ?_
        clear eg
        exact hK _ _ rfl (Same.refl _ _)
      · intro ac wc hs hd hz hf hw K hK
        have eg : ac.eval (.tmp 57) = .bool true := hw 3 rfl
        refine skip_wanted (j := 3) (d := 57) (b := true) rfl rfl hz (of_decide_eq_true rfl) eg ?_
        clear eg
        exact hK _ _ rfl (Same.refl _ _)
      · intro ac wc hs hd hz hf hw K hK
        have e0 : ac.eval (.tmp 57) = (.bool true) := hw 3 rfl
        have e1 : ac.eval (.tmp 61) = undef := hw 7 rfl
        clear hd hz hf hw
        simp only [Region.wanted, if_true, Oper.wp, execOp, resolve, List.map_toArray, List.map_cons, List.map_nil, Option.map_some, Option.map_none, e0, e1]
        go_simp
        exact hK _ _ rfl (Same.refl _ _)
      · intro ac wc hs hd hz hf hw K hK
        have e0 : ac.eval (.tmp 62) = (.bool true) := hw 8 rfl
        clear hd hz hf hw
        simp only [Region.wanted, if_true, Oper.wp, execOp, resolve, List.map_toArray, List.map_cons, List.map_nil, Option.map_some, Option.map_none, e0]
        go_simp
        exact hK _ _ rfl (Same.refl _ _)
      · intro ac wc hs hd hz hf hw K hK
        have eg : ac.eval (.tmp 63) = .bool true := hw 9 rfl
        refine skip_wanted (j := 9) (d := 63) (b := true) rfl rfl hz (of_decide_eq_true rfl) eg ?_
        clear eg
        exact hK _ _ rfl (Same.refl _ _)
      · intro ac wc hs hd hz hf hw K hK
        have eg : ac.eval (.tmp 63) = .bool true := hw 9 rfl
        refine skip_wanted (j := 9) (d := 63) (b := true) rfl rfl hz (of_decide_eq_true rfl) eg ?_
        clear eg
        exact hK _ _ rfl (Same.refl _ _)
      · intro ac wc hs hd hz hf hw K hK
        have eg : ac.eval (.tmp 63) = .bool true := hw 9 rfl
        refine skip_wanted (j := 9) (d := 63) (b := true) rfl rfl hz (of_decide_eq_true rfl) eg ?_
        clear eg
        exact hK _ _ rfl (Same.refl _ _)
      · intro ac wc hs hd hz hf hw K hK
        have eg : ac.eval (.tmp 63) = .bool true := hw 9 rfl
        refine skip_wanted (j := 9) (d := 63) (b := true) rfl rfl hz (of_decide_eq_true rfl) eg ?_
        clear eg
        exact hK _ _ rfl (Same.refl _ _)
      · intro ac wc hs hd hz hf hw K hK
        have eg : ac.eval (.tmp 63) = .bool true := hw 9 rfl
        refine skip_wanted (j := 9) (d := 63) (b := true) rfl rfl hz (of_decide_eq_true rfl) eg ?_
        clear eg
        exact hK _ _ rfl (Same.refl _ _)
      · intro ac wc hs hd hz hf hw K hK
        have eg : ac.eval (.tmp 63) = .bool true := hw 9 rfl
        refine skip_wanted (j := 9) (d := 63) (b := true) rfl rfl hz (of_decide_eq_true rfl) eg ?_
        clear eg
        exact hK _ _ rfl (Same.refl _ _)
      · intro ac wc hs hd hz hf hw K hK
        have eg : ac.eval (.tmp 63) = .bool true := hw 9 rfl
        refine skip_wanted (j := 9) (d := 63) (b := true) rfl rfl hz (of_decide_eq_true rfl) eg ?_
        clear eg
        exact hK _ _ rfl (Same.refl _ _)
      · intro ac wc hs hd hz hf hw K hK
        have e0 : ac.eval (.tmp 63) = (.bool true) := hw 9 rfl
        have e1 : ac.eval (.tmp 70) = undef := hw 16 rfl
        clear hd hz hf hw
        simp only [Region.wanted, if_true, Oper.wp, execOp, resolve, List.map_toArray, List.map_cons, List.map_nil, Option.map_some, Option.map_none, e0, e1]
        go_simp
        exact hK _ _ rfl (Same.refl _ _)
      · intro ac wc hs hd hz hf hw K hK
        have e0 : ac.eval (.tmp 71) = (.bool true) := hw 17 rfl
        clear hd hz hf hw
        simp only [Region.wanted, if_true, Oper.wp, execOp, resolve, List.map_toArray, List.map_cons, List.map_nil, Option.map_some, Option.map_none, e0]
        go_simp
        exact hK _ _ rfl (Same.refl _ _)
    · intro wR hsR
      simp only [putAll, Act.put, List.setIfInBounds_toArray, List.set_cons_succ, List.set_cons_zero]
      go_wp2
      go_ret
      exact ⟨ret_bool HB.out, (HS.out.trans hsR)⟩
section
variable {P : Program} {t e : TypeId} {n bytes : Nat} {z : Value} {α β : Type} {cs : β × α → List Value} {ok : World → (Nat → Prop) → β → α → Prop}
theorem run_appZ (T : SlT P t e n bytes z) (hf : ∀ x, (cs x).length = n) (hk : OkK ok) (w : World) (ty : TypeId) (B : Nat) (v : Value) (l : List α) (hown : OwnL cs n e ok w B v l) (u : β) (y : α) (h1 : ∀ c ∈ cs (u, y), c.oneCell' = true)
    (b : Nat) (hrow : Row w b e (cs (u, y))) (hy : ok w (fun q => B ≤ q ∧ some q ≠ v.ownBlock) u y) (hB : B ≤ w.heap.size) (hlen : l.length + 1 ≤ 1000001) (hb : bytes ≤ 1000) :
    ∃ v' w', (Builtin.append_ #[t, t] ty #[v, .slice (some ⟨b, 0, none⟩) 1 1]).run P w = .ok v' w' ∧ OwnL cs n e ok w' B v' (l ++ [y]) ∧ Same (fun k => some k ≠ v.ownBlock) w w' := by
  obtain ⟨us, k1, k2, k3⟩ := hown
  have hzl : (us.zip l).length = l.length := by simp [k1]
  obtain ⟨i, hi, hz, h4, h5⟩ := info_parts T.info
  have hbb : ((us.zip l).length + 1) * bytes ≤ 140737488355328 := by rw [hzl]; exact Nat.le_trans (Nat.mul_le_mul hlen hb) (by decide)
  obtain ⟨v', w', hrun, h2, h3, _, h6⟩ := run_append_own_at (P := P) w B t ty e i z n bytes T.und hi hz h4 h5 T.zs T.pos v (us.zip l).length ((us.zip l).flatMap cs) k2 ⟨b, 0, none⟩ 1 1 (cs (u, y)) (by rw [hf]; omega)
    (fun j c hc => by rw [add_none, Nat.zero_add, hrow.cell]; exact hc) h1 (by rw [hzl]; simp only [maxLen]; omega) hbb hB
  have hs3 : Same (fun k => some k ≠ v.ownBlock) w w' := Same.ofGrown h3
  have hne : ∀ k, k < w.heap.size → some k ≠ v.ownBlock → some k ≠ v'.ownBlock := by
    intro k hk h e'
    rcases h6 with h6 | h6
    · exact h (e'.trans h6)
    · rw [h6] at e'; injection e' with e'; omega
  refine ⟨v', w', hrun, ⟨us ++ [u], by simp [k1], ?_, fun i u' x' a b => ?_⟩, hs3⟩
  · unfold OwnR
    rw [List.zip_append k1, List.length_append, List.flatMap_append]
    simpa using h2
  · have step : ∀ u'' x'', ok w (fun q => B ≤ q ∧ some q ≠ v.ownBlock) u'' x'' → ok w' (fun q => B ≤ q ∧ some q ≠ v'.ownBlock) u'' x'' := fun u'' x'' h =>
      hk.mono (hk.keep (hk.mono h (S' := fun q => (B ≤ q ∧ some q ≠ v.ownBlock) ∧ some q ≠ v'.ownBlock) fun k hk h => ⟨h, hne k hk h.2⟩) (hs3.mono fun k _ h => h.1.2)) fun k _ h => ⟨h.1.1, h.2⟩
    by_cases hi : i < l.length
    · rw [List.getElem?_append_left (by omega)] at a b
      exact step _ _ (k3 i u' x' a b)
    · rw [List.getElem?_append_right (by omega)] at a b
      rw [k1] at a
      cases hj : i - l.length with
      | zero => rw [hj] at a b; simp at a b; subst a b; exact step _ _ hy
      | succ j => rw [hj] at a; simp at a
theorem step_appZ (T : SlT P t e n bytes z) (hf : ∀ x, (cs x).length = n) (hk : OkK ok) {w : World} {ops : Array Oper} {o : Oper} {a : Act} {K : Act → World → Prop} {Q : Exit → Act → World → Prop} {E : Prop} (hgd : o.guard = none) (s x : Operand)
    (ho : o.op = .call { callee := .builtin .append, args := #[s, x], argTypes := #[t, t] }) {B : Nat} {v : Value} {l : List α} (hown : OwnL cs n e ok w B v l) (u : β) (y : α) (h1 : ∀ c ∈ cs (u, y), c.oneCell' = true)
    {b : Nat} (hs : a.eval s = v) (hx : a.eval x = .slice (some ⟨b, 0, none⟩) 1 1) (hrow : Row w b e (cs (u, y))) (hy : ok w (fun q => B ≤ q ∧ some q ≠ v.ownBlock) u y) (hB : B ≤ w.heap.size) (hlen : l.length + 1 ≤ 1000001) (hb : bytes ≤ 1000)
    (h : ∀ v' w', OwnL cs n e ok w' B v' (l ++ [y]) → Same (fun k => some k ≠ v.ownBlock) w w' → K (a.put o.dst v') w') : if Region.wanted o (yielded ops a.tmps) = true then Oper.wp P o a w K Q else E := by
  obtain ⟨v', w', hrun, h2, h3⟩ := run_appZ T hf hk w o.type B v l hown u y h1 b hrow hy hB hlen hb
  have hw : Region.wanted o (yielded ops a.tmps) = true := by simp [Region.wanted, hgd]
  rw [if_pos hw]
  unfold Oper.wp execOp
  simp only [ho, resolve, invoke, builtin, Sem.run_bind, Sem.run_pure, Result.andThen_ok, List.map_toArray, List.map_cons, List.map_nil, hs, hx, hrun]
  exact h v' w' h2 h3
end
theorem OwnL.ge {α β : Type} {cs : β × α → List Value} {n : Nat} {e : TypeId} {ok : World → (Nat → Prop) → β → α → Prop} {w : World} {B : Nat} {v : Value} {l : List α} (h : OwnL cs n e ok w B v l) {k : Nat} (hk : some k = v.ownBlock) : B ≤ k ∧ k < w.heap.size := by
  obtain ⟨us, _, h2, _⟩ := h
  exact OwnR.lt_ h2 hk.symm
abbrev TA (g G : Nat) (v : Value) : Nat → Prop := fun q => q ≠ g ∧ q ≠ G ∧ some q ≠ v.ownBlock
abbrev SA (G : Nat) (v : Value) : Nat → Prop := fun q => G + 1 ≤ q ∧ some q ≠ v.ownBlock
section
variable {α β : Type} {cs : β × α → List Value} {n : Nat} {e : TypeId} {ok : World → (Nat → Prop) → β → α → Prop}
theorem sa_ta {g G : Nat} {v : Value} (hg : g < G) {w w' : World} (h : Same (TA g G v) w w') : Same (SA G v) w w' := h.mono fun q _ h => ⟨by have := h.1; omega, by have := h.1; omega, h.2⟩
/-- The thing that was read, as a value. -/
def RuA (hk : OkK ok) (g G : Nat) (v : Value) (hg : g < G) (val : β → Value) (y : α) (xok : Prop) : SPT (TA g G v) :=
  ⟨fun vv w => ∃ u, vv = val u ∧ ok w (SA G v) u y ∧ xok, fun _ _ _ ⟨u, h1, h2, h3⟩ hs => ⟨u, h1, hk.keep h2 (sa_ta hg hs), h3⟩⟩
/-- It, in a row of one. -/
def BsA (cs : β × α → List Value) (e : TypeId) (hk : OkK ok) (g G : Nat) (v : Value) (hg : g < G) (y : α) (xok : Prop) : SPT (TA g G v) :=
  ⟨fun vv w => ∃ b u, vv = .slice (some ⟨b, 0, none⟩) 1 1 ∧ Row w b e (cs (u, y)) ∧ SA G v b ∧ ok w (SA G v) u y ∧ xok, fun _ _ _ ⟨b, u, h1, h2, h3, h4, h5⟩ hs => ⟨b, u, h1, h2.keep (sa_ta hg hs) h3, h3, hk.keep h4 (sa_ta hg hs), h5⟩⟩
/-- The longer slice's form. -/
def ApA (g G : Nat) (v : Value) (m : Nat) (xok : Prop) : SPT (TA g G v) := ⟨fun vv _ => (∃ A c, vv = .slice A m c) ∧ xok, fun _ _ _ h _ => h⟩
/-- What the world is like, by which of read (fc), append (fa) and store (fs) are done; U: the longer slice. -/
def AppS (cs : β × α → List Value) (n : Nat) (e : TypeId) (ok : World → (Nat → Prop) → β → α → Prop) (g t o G : Nat) (sty : TypeId) (v : Value) (l : List α) (y : α) (CS : Value → List Value) (lN l0 : List PT) (fc fa fs : Bool) (U : Value) (W : World) : Prop :=
  PS W g t (cond fc lN l0) o ∧ (fs = false → Row W G sty (CS v)) ∧ (fa = false → OwnL cs n e ok W (G + 1) v l) ∧ (fa = true → OwnL cs n e ok W (G + 1) U (l ++ [y])) ∧ (fs = true → Row W G sty (CS U))
variable {g t o G : Nat} {sty : TypeId} {v : Value} {l : List α} {y : α} {CS : Value → List Value} {lN l0 : List PT} {fc fa fs : Bool} {U : Value} {W W' : World}
theorem AppS.keep (hk : OkK ok) (h : AppS cs n e ok g t o G sty v l y CS lN l0 fc fa fs U W) (hs : Same (fun _ => True) W W') : AppS cs n e ok g t o G sty v l y CS lN l0 fc fa fs U W' :=
  ⟨h.1.keep hs, fun a => (h.2.1 a).keep hs trivial, fun a => (h.2.2.1 a).keepAll hk hs, fun a => (h.2.2.2.1 a).keepAll hk hs, fun a => (h.2.2.2.2 a).keep hs trivial⟩
theorem AppS.call (hk : OkK ok) (hg : g < G) (h : AppS cs n e ok g t o G sty v l y CS lN l0 false false false U W) (hp : PS W' g t lN o) (hs : Same (fun q => q ≠ g) W W') {U' : Value} : AppS cs n e ok g t o G sty v l y CS lN l0 true false false U' W' :=
  ⟨hp, fun a => (h.2.1 a).keep hs (by omega), fun a => (h.2.2.1 a).keep hk hs fun k h _ => by omega, fun a => (by cases a), fun a => (by cases a)⟩
theorem AppS.app (hl : g < G ∧ t < G ∧ 1 < G) (h : AppS cs n e ok g t o G sty v l y CS lN l0 true false false U W) {v' : Value} (ho : OwnL cs n e ok W' (G + 1) v' (l ++ [y])) (hs : Same (fun k => some k ≠ v.ownBlock) W W') : AppS cs n e ok g t o G sty v l y CS lN l0 true true false v' W' := by
  have hne : ∀ k, k ≤ G → some k ≠ v.ownBlock := fun k h1 h2 => by have := (h.2.2.1 rfl).ge h2; omega
  exact ⟨h.1.keepB hs (hne g (by omega)) (hne t (by omega)) (hne _ (by omega)), fun a => (h.2.1 a).keep hs (hne G (Nat.le_refl _)), fun a => (by cases a), fun _ => ho, fun a => (by cases a)⟩
theorem AppS.store (hk : OkK ok) (hl : g < G ∧ t < G ∧ 1 < G) (h : AppS cs n e ok g t o G sty v l y CS lN l0 true true false U W) (off : Nat) (hcs : (CS v).set off U = CS U) : AppS cs n e ok g t o G sty v l y CS lN l0 true true true U (W.setCell ⟨G, off, none⟩ U) ∧ Same (TA g G v) W (W.setCell ⟨G, off, none⟩ U) := by
  have hs : Same (fun q => q ≠ G) W (W.setCell ⟨G, off, none⟩ U) := (Same.refl _ _).setCell (fun _ h => h rfl) _
  exact ⟨⟨h.1.keepB hs (by omega) (by omega) (by omega), fun a => (by cases a), fun a => (by cases a), fun _ => (h.2.2.2.1 rfl).keep hk hs fun k h _ => by omega, fun _ => hcs ▸ (h.2.1 rfl).set_ off U⟩, hs.mono fun _ _ h => h.2.1⟩
end
def WhG (gs : Nat) (u : SU) (s : Stm) (w : World) (v : Value) : Prop := v = .tuple #[] ∧ ∃ uc, Row w gs 44 (stCs { u with cond := uc } s) ∧ ExR w (fun q => gs < q) uc s.cond
set_option maxRecDepth 100000 in
set_option maxHeartbeats 2000000 in
theorem where_any (g t gs : Nat) (u : SU) (s : Stm) (l : List PT) (w : World) (h : PS w g t l 0) (hr : Row w gs 44 (stCs u s)) (hg : g < gs ∧ t < gs ∧ 1 < gs) (hu : u.cond = .slice none 0 0) (hc : s.cond = .zero) (hf : s.filt = false) :
    Calls Tryz.prog 89 #[pV g, pV gs] w (DoQ (fun q => q ≠ g ∧ q ≠ gs) g t 0 (whereT s l) (WhG gs u) w) := by
  obtain ⟨X, hX⟩ : ∃ X, X = whereT s l := ⟨_, rfl⟩
  rw [← hX]
  unfold whereT at hX
  obtain ⟨kd, tb, its, rws, sts, ft, cd, od, dn, lm⟩ := s
  obtain ⟨ui, ur, us, uc⟩ := u
  simp only at hu hc hf
  subst hu hc hf
  simp only [stCs] at hr
  have HX := Lib.hid hX
  have HP := Lib.hid h
  have HR := Lib.hid hr
  have HS : Hid (Same (fun q => q ≠ g ∧ q ≠ gs) w w) := Lib.hid (Same.refl _ _)
  have hgw := hr.lt
  obtain ⟨g1, g2, g3⟩ := hg
  clear h hr hX
  go_enter Tryz.func89, Tryz.ntmps89
  go_wp2_with (go_at_call 37; refine stopAt ?_)
  unfold Hid
  refine (take_any g t l 0 wWHERE _ HP.out).mono ?_
  rintro e w1 ⟨rfl, hp, hS⟩
  have hSz := hS.size
  have HR := Lib.hid (HR.out.keep hS (by omega))
  have HS := Lib.hid (HS.out.trans (hS.mono fun q _ h => h.1))
  clear hS
  cases hq : isT wWHERE l
  · rw [hq, if_neg (by simp)] at hp
    have hX := HX.out
    rw [hq, if_neg (by simp)] at hX
    have HX := Lib.hid hX
    have HP := Lib.hid hp
    clear hX hq hp
    have hr := HR.out
    have c5 := hr.cell 5
    simp only [List.getElem?_cons_zero, List.getElem?_cons_succ] at c5
    have f5 := hr.frozen 5
    have zr := hr.lt
    have hS5 : Same (fun q => q ≠ gs) w1 (w1.setCell ⟨gs, 5, none⟩ (.bool false)) := (Same.refl _ _).setCell (fun _ h => h rfl) _
    have hR5 : Row (w1.setCell ⟨gs, 5, none⟩ (.bool false)) gs 44 [.int .i64 kd, .string (str tb), ui, ur, us, .bool false, .int .i64 Ex.zero.kind, .string (str Ex.zero.s), .int .i64 Ex.zero.v.kind, .int .i64 Ex.zero.v.n, .string (str Ex.zero.v.s), .slice none 0 0, .string (str od), .bool dn, .int .i64 lm] := HR.out.set_ 5 (.bool false)
    have hP5 := HP.out.keepB hS5 (by omega) (by omega) (by omega)
    have hSS := HS.out.trans (hS5.mono fun q _ h => h.2)
    have HR := Lib.hid hR5
    have HP := Lib.hid hP5
    have HS := Lib.hid hSS
    clear hS5 hR5 hP5 hSS hr
    go_wp2
    go_end0
    rw [HX.out]
    exact ⟨_, rfl, ⟨rfl, .slice none 0 0, HR.out, ExR.lf _ _ _ _ _⟩, HP.out, HS.out⟩
  · rw [hq, if_pos rfl] at hp
    have hX := HX.out
    rw [hq, if_pos rfl] at hX
    have HX := Lib.hid hX
    have HP := Lib.hid hp
    clear hX hq hp
    have hr := HR.out
    have c5 := hr.cell 5
    simp only [List.getElem?_cons_zero, List.getElem?_cons_succ] at c5
    have f5 := hr.frozen 5
    have zr := hr.lt
    have hs5 := size_set w1 ⟨gs, 5, none⟩ (.bool true)
    have hS5 : Same (fun q => q ≠ gs) w1 (w1.setCell ⟨gs, 5, none⟩ (.bool true)) := (Same.refl _ _).setCell (fun _ h => h rfl) _
    have hR5 : Row (w1.setCell ⟨gs, 5, none⟩ (.bool true)) gs 44 [.int .i64 kd, .string (str tb), ui, ur, us, .bool true, .int .i64 Ex.zero.kind, .string (str Ex.zero.s), .int .i64 Ex.zero.v.kind, .int .i64 Ex.zero.v.n, .string (str Ex.zero.v.s), .slice none 0 0, .string (str od), .bool dn, .int .i64 lm] := HR.out.set_ 5 (.bool true)
    have hP5 := HP.out.keepB hS5 (by omega) (by omega) (by omega)
    have hSS := HS.out.trans (hS5.mono fun q _ h => h.2)
    have HR := Lib.hid hR5
    have HP := Lib.hid hP5
    have HS := Lib.hid hSS
    clear hS5 hR5 hP5 hSS hr
    go_wp2_with (go_at_call 113; refine stopAt ?_)
    unfold Hid
    revert hs5 HR HP HS
    generalize w1.setCell _ _ = w2
    intro hs5 HR HP HS
    refine (expr_any g t l.tail w2 HP.out).mono ?_
    intro e w3 hR_
    cases hx : exprT l.tail with
    | error p =>
      rw [hx] at hR_
      obtain ⟨rfl, hE⟩ := hR_
      have hq : DoQ (fun q => q ≠ g ∧ q ≠ gs) g t 0 X (WhG gs ⟨ui, ur, us, .slice none 0 0⟩) w (.panicked [{ v := failV p.1 p.2, recovered := false }]) w3 := by
        rw [HX.out, hx]
        exact ⟨rfl, HS.out.trans (hE.mono fun q _ h => h.1)⟩
      exact ⟨rfl, hq⟩
    | ok q =>
      obtain ⟨e, l2⟩ := q
      rw [hx] at hR_
      obtain ⟨v, rfl, ⟨ue, rfl, hex⟩, hp, hS⟩ := hR_
      have hX := HX.out
      rw [hx, thenT_ok] at hX
      have HX := Lib.hid hX
      clear hX hx
      have hSz := hS.size
      have HR := Lib.hid (HR.out.keep hS (by omega))
      have HS := Lib.hid (HS.out.trans (hS.mono fun q _ h => h.1))
      have HP := Lib.hid hp
      clear hp hS
      have HEX := Lib.hid hex
      clear hex
      obtain ⟨Au, cu, rfl, -, -⟩ := HEX.out.toL.form
      generalize e.args.length = nu at *
      have hr := HR.out
      have c6 := hr.cell 6
      have c7 := hr.cell 7
      have c8 := hr.cell 8
      have c9 := hr.cell 9
      have c10 := hr.cell 10
      have c11 := hr.cell 11
      simp only [List.getElem?_cons_zero, List.getElem?_cons_succ] at c6 c7 c8 c9 c10 c11
      have f6 := hr.frozen 6
      have f7 := hr.frozen 7
      have f8 := hr.frozen 8
      have f9 := hr.frozen 9
      have f10 := hr.frozen 10
      have f11 := hr.frozen 11
      have zr2 := hr.lt
      have hS6 : Same (fun q => q ≠ gs) w3 (setsW w3 gs 6 (exCs (.slice Au nu cu) e)) := Same.sets (fun h => h rfl) _ 6 (Same.refl _ _)
      have hR6 := hr.sets (exCs (.slice Au nu cu) e) 6
      have hP6 := HP.out.keepB hS6 (by omega) (by omega) (by omega)
      have hSS := HS.out.trans (hS6.mono fun q _ h => h.2)
      have hE6 := (HEX.out.keep (hS6.mono fun q _ (h : w2.heap.size ≤ q) => by omega)).mono (S' := fun q => gs < q) fun q _ (h : w2.heap.size ≤ q) => by omega
      have HR := Lib.hid hR6
      have HP := Lib.hid hP6
      have HS := Lib.hid hSS
      have HE := Lib.hid hE6
      clear hS6 hR6 hP6 hSS hE6 hr
      go_wp2
      go_end0
      rw [HX.out]
      exact ⟨_, rfl, ⟨rfl, _, HR.out, HE.out⟩, HP.out, HS.out⟩
end Go.Proofs.YtdfojghhpdkpfaaGreatDoor
