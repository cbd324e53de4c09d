/-
  Words, plain models, laws and walks that the claims of this layer share (joined by shake.py). No condition.
-/
import Derived.Orders
import Derived.StillTail
import Derived.Test.YtdfojghhpdkpfaaGreatDoorA2
set_option linter.unusedSimpArgs false
set_option linter.unusedVariables false
namespace Go.Proofs.YtdfojghhpdkpfaaGreatDoor
open Go.RowKit
def tW (s : List UInt8) : Tok := ⟨1, s, 0⟩
def tS (s : List UInt8) : Tok := ⟨4, s, 0⟩
def isK (s : List UInt8) (t : Tok) : Bool := (decide (t.kind = 1) || decide (t.kind = 4)) && decide (t.s = s)
def beginsK (ss : List (List UInt8)) (t : Tok) : Bool := ss.any fun s => isK s t
theorem isT_K (s : List UInt8) (l : List PT) : isT s l = isK s (hdT l).2 := id rfl
theorem begins_K (ss : List (List UInt8)) (l : List PT) : beginsT ss l = beginsK ss (hdT l).2 := id rfl
def aft : Rl → Tok → Bool
  | .unary, _ => true
  | .prod, t => !beginsK [[42], [47], [37]] t
  | .sum, t => !beginsK [[42], [47], [37]] t && !beginsK [[43], [45]] t
  | .cmp, t => !beginsK [[42], [47], [37]] t && !beginsK [[43], [45]] t && !beginsK cmpsT t && !isK wIS t
  | .not, t => !beginsK [[42], [47], [37]] t && !beginsK [[43], [45]] t && !beginsK cmpsT t && !isK wIS t
  | .and, t => !beginsK [[42], [47], [37]] t && !beginsK [[43], [45]] t && !beginsK cmpsT t && !isK wIS t && !beginsK [wAND] t
  | .or, t => !beginsK [[42], [47], [37]] t && !beginsK [[43], [45]] t && !beginsK cmpsT t && !isK wIS t && !beginsK [wAND] t && !beginsK [wOR] t
theorem chain_stop {f : List PT → PR Dp} {signs : List (List UInt8)} {l : List PT} (h : beginsK signs (hdT l).2 = false) (k : Nat) (d : Dp) : chainT f signs k d l = .ok (d, l) := by
  cases k with
  | zero => rfl
  | succ k => unfold chainT; rw [begins_K, h]; rfl
theorem rule_not (n : Nat) (l : List PT) : ruleT (n + 1) .not l = if isT wNOT l then thenT (ruleT n .not l.tail) fun d l1 => opT (hdT l).1 wNOT [d] l1 else ruleT n .cmp l := rfl
theorem rule_cmp (n : Nat) (l : List PT) : ruleT (n + 1) .cmp l = thenT (ruleT n .sum l) fun d l1 =>
    if beginsT cmpsT l1 then thenT (ruleT n .sum l1.tail) fun d2 l2 => opT (hdT l1).1 (hdT l1).2.s [d, d2] l2
    else if isT wIS l1 then
      if isT wNOT l1.tail then thenT (mustT [wNULL] l1.tail.tail) fun _ l2 => opT (hdT l1).1 wNOTNULL [d] l2
      else thenT (mustT [wNULL] l1.tail) fun _ l2 => opT (hdT l1).1 wISNULL [d] l2
    else .ok (d, l1) := rfl
/-- With so many rules to open, these tokens are read by rule r as d, whatever follows that may. -/
def Rd (k : Nat) (r : Rl) (ts : List Tok) (d : Dp) : Prop :=
  ∀ n, k ≤ n → ∀ (T R : List PT), T.map (·.2) = ts → aft r (hdT R).2 = true → ruleT n r (T ++ R) = .ok (d, R)
def NotNot (ts : List Tok) : Prop := ∃ t r, ts = t :: r ∧ isK wNOT t = false
section
variable {k : Nat} {ts ta tb : List Tok} {d da db : Dp}
theorem Rd.mono {k' : Nat} {r : Rl} (h : Rd k r ts d) (hk : k ≤ k') : Rd k' r ts d := fun n hn => h n (by omega)
theorem run_read {f : List PT → PR Dp} {signs : List (List UInt8)} {l R : List PT} (h : f l = .ok (d, R)) (hs : beginsK signs (hdT R).2 = false) : runT f signs l = .ok (d, R) := by
  unfold runT
  rw [h, thenT_ok]
  exact chain_stop hs _ _
theorem Rd.prod (h : Rd k .unary ts d) : Rd (k + 1) .prod ts d := by
  intro n hn T R hT hR
  obtain ⟨n, rfl⟩ : ∃ m, n = m + 1 := ⟨n - 1, by omega⟩
  exact run_read (h n (by omega) T R hT rfl) (by simpa [aft] using hR)
theorem Rd.sum (h : Rd k .prod ts d) : Rd (k + 1) .sum ts d := by
  intro n hn T R hT hR
  obtain ⟨n, rfl⟩ : ∃ m, n = m + 1 := ⟨n - 1, by omega⟩
  simp only [aft, Bool.and_eq_true, Bool.not_eq_true'] at hR
  exact run_read (h n (by omega) T R hT (by simp [aft, hR])) hR.2
theorem Rd.cmp (h : Rd k .sum ts d) : Rd (k + 1) .cmp ts d := by
  intro n hn T R hT hR
  obtain ⟨n, rfl⟩ : ∃ m, n = m + 1 := ⟨n - 1, by omega⟩
  simp only [aft, Bool.and_eq_true, Bool.not_eq_true'] at hR
  rw [rule_cmp, h n (by omega) T R hT (by simp [aft, hR]), thenT_ok, begins_K, isT_K, hR.1.2, hR.2]
  rfl
theorem head_of (hT : NotNot ts) {T R : List PT} (h : T.map (·.2) = ts) : isT wNOT (T ++ R) = false := by
  obtain ⟨t, r, e, h2⟩ := hT
  cases T with
  | nil => rw [e] at h; cases h
  | cons x T =>
    rw [e] at h
    injection h with h1 h3
    rw [isT_K, List.cons_append, hdT_cons, show x.2 = t from h1]
    exact h2
theorem Rd.not (h : Rd k .cmp ts d) (hN : NotNot ts) : Rd (k + 1) .not ts d := by
  intro n hn T R hT hR
  obtain ⟨n, rfl⟩ : ∃ m, n = m + 1 := ⟨n - 1, by omega⟩
  rw [rule_not, head_of hN hT]
  exact h n (by omega) T R hT hR
theorem Rd.and (h : Rd k .not ts d) : Rd (k + 1) .and ts d := by
  intro n hn T R hT hR
  obtain ⟨n, rfl⟩ : ∃ m, n = m + 1 := ⟨n - 1, by omega⟩
  simp only [aft, Bool.and_eq_true, Bool.not_eq_true'] at hR
  exact run_read (h n (by omega) T R hT (by simp [aft, hR])) hR.2
theorem Rd.or (h : Rd k .and ts d) : Rd (k + 1) .or ts d := by
  intro n hn T R hT hR
  obtain ⟨n, rfl⟩ : ∃ m, n = m + 1 := ⟨n - 1, by omega⟩
  simp only [aft, Bool.and_eq_true, Bool.not_eq_true'] at hR
  exact run_read (h n (by omega) T R hT (by simp [aft, hR])) hR.2
theorem map_app {T : List PT} {a b : List Tok} (h : T.map (·.2) = a ++ b) : ∃ A B, T = A ++ B ∧ A.map (·.2) = a ∧ B.map (·.2) = b := by
  refine ⟨T.take a.length, T.drop a.length, (List.take_append_drop _ _).symm, ?_, ?_⟩
  · rw [List.map_take, h, List.take_left]
  · rw [List.map_drop, h, List.drop_left]
theorem map_cons {T : List PT} {t : Tok} {b : List Tok} (h : T.map (·.2) = t :: b) : ∃ p B, T = (p, t) :: B ∧ B.map (·.2) = b := by
  cases T with
  | nil => cases h
  | cons x T =>
    injection h with h1 h2
    exact ⟨x.1, T, by rw [← h1], h2⟩
theorem map_nil {T : List PT} (h : T.map (·.2) = []) : T = [] := List.map_eq_nil_iff.1 h
/-- One more operator. -/
def opD (s : List UInt8) (args : List Dp) : Dp := ⟨.mk 3 s .zero (args.map (·.e)), deepOf args + 1⟩
theorem opT_ok {pl : Nat} {s : List UInt8} {args : List Dp} {l : List PT} (h : deepOf args ≤ 15) : opT pl s args l = .ok (opD s args, l) := by
  unfold opT
  rw [if_neg (by omega)]
  rfl
theorem Rd.rel {t : Tok} (ht : beginsK cmpsT t = true) (hq : aft .sum t = true) (ha : Rd k .sum ta da) (hb : Rd k .sum tb db) (hd : deepOf [da, db] ≤ 15) : Rd (k + 1) .cmp (ta ++ t :: tb) (opD t.s [da, db]) := by
  intro n hn T R hT hR
  obtain ⟨n, rfl⟩ : ∃ m, n = m + 1 := ⟨n - 1, by omega⟩
  obtain ⟨A, B, rfl, hA, hB⟩ := map_app hT
  obtain ⟨p, B, rfl, hB1x⟩ := map_cons hB
  simp only [aft, Bool.and_eq_true, Bool.not_eq_true'] at hR
  rw [List.append_assoc, List.cons_append]
  rw [rule_cmp, ha n (by omega) A _ hA (by rw [hdT_cons]; exact hq), thenT_ok, begins_K, hdT_cons, if_pos ht, List.tail_cons, hb n (by omega) B R hB1x (by simp [aft, hR]), thenT_ok]
  exact opT_ok hd
end
def setsL : List Value → Nat → List Value → List Value
  | L, _, [] => L
  | L, k, v :: vs => setsL (L.set k v) (k + 1) vs
def setsW : World → Nat → Nat → List Value → World
  | w, _, _, [] => w
  | w, g, k, v :: vs => setsW (w.setCell ⟨g, k, none⟩ v) g (k + 1) vs
theorem Row.sets {g : Nat} {e : TypeId} : ∀ (vs : List Value) {w : World} {L : List Value} (k : Nat), Row w g e L → Row (setsW w g k vs) g e (setsL L k vs)
  | [], _, _, _, h => h
  | v :: vs, w, L, k, h => Row.sets vs (k + 1) (h.set_ k v)
theorem Same.sets {S : Nat → Prop} {g : Nat} (hg : ¬ S g) : ∀ (vs : List Value) {w w' : World} (k : Nat), Same S w w' → Same S w (setsW w' g k vs)
  | [], _, _, _, h => h
  | v :: vs, w, w', k, h => Same.sets hg vs (k + 1) (h.setCell (p := ⟨g, k, none⟩) (fun _ => hg) v)
theorem Same.sets' {S : Nat → Prop} {g : Nat} {w : World} (hg : w.heap.size ≤ g) : ∀ (vs : List Value) {w' : World} (k : Nat), Same S w w' → Same S w (setsW w' g k vs)
  | [], _, _, h => h
  | v :: vs, _, k, h => Same.sets' hg vs (k + 1) (h.setCell (p := ⟨g, k, none⟩) (fun hp => by have hp : g < w.heap.size := hp; omega) v)
def exP (p : Value × Ex) : List Value := exCs p.1 p.2
theorem exP_len (p : Value × Ex) : (exP p).length = 6 := rfl
theorem exP_one (p : Value × Ex) (hu : p.1.oneCell' = true) : ∀ u ∈ exP p, u.oneCell' = true := by
  intro u h
  simp only [exP, exCs, List.mem_cons, List.not_mem_nil, or_false] at h
  rcases h with rfl | rfl | rfl | rfl | rfl | rfl <;> first | rfl | exact hu
theorem TEx : SlT Tryz.prog 32 34 6 80 (.agg #[.int .i64 0, .string ⟨#[]⟩, .int .i64 0, .int .i64 0, .string ⟨#[]⟩, .slice none 0 0]) := ⟨by kernel_rfl, by kernel_rfl, rfl, by omega⟩
def dpCs (u : Value) (d : Dp) : List Value := [.int .i64 d.e.kind, .string (str d.e.s), .int .i64 d.e.v.kind, .int .i64 d.e.v.n, .string (str d.e.v.s), u, .int .i64 d.n]
abbrev dpV (u : Value) (d : Dp) : Value := .agg #[.int .i64 d.e.kind, .string (str d.e.s), .int .i64 d.e.v.kind, .int .i64 d.e.v.n, .string (str d.e.v.s), u, .int .i64 d.n]
def dpP (p : Value × Dp) : List Value := dpCs p.1 p.2
theorem dpP_len (p : Value × Dp) : (dpP p).length = 7 := rfl
/-- A slice of expressions with their depths. -/
def DpR (w : World) (S : Nat → Prop) (v : Value) (ds : List Dp) : Prop :=
  ∃ us : List Value, us.length = ds.length ∧ RowR dpP 7 w S v (us.zip ds) ∧ ∀ (i : Nat) (u : Value) (d : Dp), us[i]? = some u → ds[i]? = some d → ExR w S u d.e
abbrev tokV4 (t : PT) : Value := .agg #[.int .i64 t.2.kind, .int .i64 t.1, .string (str t.2.s), .int .i64 t.2.n]
theorem DpR.keepAll {w w' : World} {S : Nat → Prop} {v : Value} {ds : List Dp} (h : DpR w S v ds) (hs : Same (fun _ => True) w w') : DpR w' S v ds := by
  obtain ⟨us, h1, h2, h3⟩ := h
  exact ⟨us, h1, RowR.keepAll h2 hs, fun i u d a b => (h3 i u d a b).keepAll hs⟩
/-- One struct behind a row that the call owns. -/
theorem wpList_appE {α : Type} {f : α → List Value} {n : Nat} {e : TypeId} {P : Program} {t : TypeId} {bytes : Nat} {z : Value} (T : SlT P t e n bytes z) (hf : ∀ x, (f x).length = n) {w : World} {ops : Array Oper} {rest : List Oper} {o : Oper} {a : Act} {Q : Exit → Act → World → Prop} (hgd : o.guard = none) (s x : Operand)
    (ho : o.op = .call { callee := .builtin .append, args := #[s, x], argTypes := #[t, t] }) {B : Nat} {v : Value} {l : List α} (c : α) (h1 : ∀ u ∈ f c, u.oneCell' = true)
    (hs : a.eval s = v) {g : Nat} (hx : a.eval x = .slice (some ⟨g, 0, none⟩) 1 1) (hg : g = w.heap.size) (hown : OwnR f n e w B v l) (hB : B ≤ w.heap.size) (hlen : l.length + 1 ≤ maxLen) (hbytes : (l.length + 1) * bytes ≤ 140737488355328)
    (hK : ∀ v' w', OwnR f n e w' B v' (l ++ [c]) → Same (fun k => some k ≠ v.ownBlock) w w' → wpList P ops Q rest (a.put o.dst v') w') : wpList P ops Q (o :: rest) a (w.alloc (.cells (f c).toArray e)) := by
  subst hg
  have hs1 : Same (fun _ => True) w (w.alloc (.cells (f c).toArray e)) := (Same.refl _ _).alloc _
  have hrow := Row.new w e (f c)
  have hsl := hrow.sl (size := n) (off := 0) (n := 1) (by rw [hf]; omega)
  rw [List.drop_zero, List.take_of_length_le (by rw [hf]; omega)] at hsl
  refine wpList_app T _ hgd s x ho B v l.length (l.flatMap f) hs (hown.keepAll hs1) _ _ 1 1 (f c) hx hsl h1 hlen hbytes (by simp; omega) ?_
  intro v' w' h2 h3 h4
  refine hK v' w' ?_ ((hs1.mono fun _ _ _ => trivial).trans h3)
  unfold OwnR
  rw [List.length_append, List.flatMap_append]
  simpa using h2
theorem deepOf_app (l : List Dp) (d : Dp) : deepOf (l ++ [d]) = max (deepOf l) d.n := by
  induction l with
  | nil => simp [deepOf]
  | cons a l ih => simp only [List.cons_append, deepOf, ih]; omega
theorem deepOf_le {N : Nat} : ∀ (l : List Dp), (∀ d ∈ l, d.n ≤ N) → deepOf l ≤ N
  | [], _ => Nat.zero_le _
  | a :: l, h => by
    have h1 := h a (by simp)
    have h2 := deepOf_le l fun d hd => h d (by simp [hd])
    simp only [deepOf]
    omega
theorem ExR.one {w : World} {S : Nat → Prop} {u : Value} {e : Ex} (h : ExR w S u e) : u.oneCell' = true := by
  obtain ⟨A, c, rfl, _⟩ := h.toL.form
  rfl
theorem op_results {W : World} {k : Nat} {u : Value} {d : Dp} (R : Row W k 155 (dpCs u d)) {tmps : Array Value} (h1 : tmps.getD 6 undef = .pointer (some ⟨k, 0, none⟩)) :
    (results Tryz.f142 tmps).run Tryz.prog W = .ok (dpV u d) W := by
  have d0 : W.cell? ⟨k, 0, none⟩ = some (.int .i64 d.e.kind) := R.cell 0
  have d1 : W.cell? ⟨k, 1, none⟩ = some (.string (str d.e.s)) := R.cell 1
  have d2 : W.cell? ⟨k, 2, none⟩ = some (.int .i64 d.e.v.kind) := R.cell 2
  have d3 : W.cell? ⟨k, 3, none⟩ = some (.int .i64 d.e.v.n) := R.cell 3
  have d4 : W.cell? ⟨k, 4, none⟩ = some (.string (str d.e.v.s)) := R.cell 4
  have d5 : W.cell? ⟨k, 5, none⟩ = some u := R.cell 5
  have d6 : W.cell? ⟨k, 6, none⟩ = some (.int .i64 d.n) := R.cell 6
  simp at h1
  simp [results, Tryz.results142, h1, go_sem, d0, d1, d2, d3, d4, d5, d6]
def OpP (S : Nat → Prop) (t : PT) (s : List UInt8) (ds : List Dp) (w : World) (e : Ending) (w' : World) : Prop :=
  (16 < deepOf ds + 1 → e = .panicked [{ v := failV t.1 3, recovered := false }]) ∧ (¬ 16 < deepOf ds + 1 → ∃ u, e = .returned (dpV u (opD s ds)) ∧ ExR w' (fun q => S q ∨ w.heap.size ≤ q) u (opD s ds).e) ∧ Same (fun _ => True) w w'
set_option maxRecDepth 100000 in
set_option maxHeartbeats 4000000 in
theorem op_any (t : PT) (s : List UInt8) (v : Value) (ds : List Dp) (S : Nat → Prop) (w : World) (hv : DpR w S v ds) (hn : ds.length ≤ 1000) (hd : ∀ d ∈ ds, d.n ≤ 1000000) :
    Calls Tryz.prog 142 #[tokV4 t, .string (str s), v] w (OpP S t s ds w) := by
  obtain ⟨us, hul, hrow, hex⟩ := hv
  obtain ⟨A, c, rfl, hc, hm, -⟩ := id hrow
  unfold maxLen at hm
  have hzl : (us.zip ds).length = ds.length := by simp [hul]
  rw [hzl] at hc hrow ⊢
  have Hrow := Lib.hid hrow
  have Hex := Lib.hid hex
  have Hd := Lib.hid hd
  have Hul := Lib.hid hul
  have Hzl := Lib.hid hzl
  clear hrow hex hd hul hzl
  have r0 := ((Row.new w 75 (tokCs t)).keep ((Same.refl (fun _ => True) _).alloc (.cells (dpCs (.slice none 0 0) ⟨.zero, 0⟩).toArray 155)) trivial).keep ((Same.refl (fun _ => True) _).alloc (.cells (dpCs (.slice none 0 0) ⟨.mk 3 s .zero [], 0⟩).toArray 155)) trivial
  have r1 := (Row.new (w.alloc (.cells (tokCs t).toArray 75)) 155 (dpCs (.slice none 0 0) ⟨.zero, 0⟩)).keep ((Same.refl (fun _ => True) _).alloc (.cells (dpCs (.slice none 0 0) ⟨.mk 3 s .zero [], 0⟩).toArray 155)) trivial
  have r2 := Row.new ((w.alloc (.cells (tokCs t).toArray 75)).alloc (.cells (dpCs (.slice none 0 0) ⟨.zero, 0⟩).toArray 155)) 155 (dpCs (.slice none 0 0) ⟨.mk 3 s .zero [], 0⟩)
  have hS0 := (((Same.refl (fun _ => True) w).alloc (.cells (tokCs t).toArray 75)).alloc (.cells (dpCs (.slice none 0 0) ⟨.zero, 0⟩).toArray 155)).alloc (.cells (dpCs (.slice none 0 0) ⟨.mk 3 s .zero [], 0⟩).toArray 155)
  have hsz : (((w.alloc (.cells (tokCs t).toArray 75)).alloc (.cells (dpCs (.slice none 0 0) ⟨.zero, 0⟩).toArray 155)).alloc (.cells (dpCs (.slice none 0 0) ⟨.mk 3 s .zero [], 0⟩).toArray 155)).heap.size = w.heap.size + 3 := by simp
  rw [World.size_alloc] at r1
  rw [World.size_alloc, World.size_alloc] at r2
  go_enter Tryz.func142, Tryz.ntmps142
  go_wp2
  simp only [tokCs, dpCs, Ex.kind, Ex.s, Ex.v, Ex.zero, Val.zero, show str [] = ⟨#[]⟩ from rfl, show ((0 : Nat) : Int) = 0 from rfl] at r0 r1 r2 hS0 hsz
  revert r0 r1 r2 hS0 hsz
  generalize hw3 : ((w.alloc _).alloc _).alloc _ = w3
  intro r0 r1 r2 hS0 hsz
  clear hw3
  have R0 := Lib.hid r0
  have R1 := Lib.hid r1
  have R2 := Lib.hid r2
  have HS0 := Lib.hid hS0
  clear r0 r1 r2 hS0
  go_loopw [15] (fun i wr => ∃ (k : Nat) (va : Value), i = .int .i64 k ∧ k ≤ ds.length ∧ Row wr (w.heap.size + 2) 155 [.int .i64 3, .string (str s), .int .i64 0, .int .i64 0, .string ⟨#[]⟩, va, .int .i64 (deepOf (ds.take k))] ∧ OwnR exP 6 34 wr (w.heap.size + 3) va ((us.zip (ds.map (·.e))).take k) ∧ Same (fun q => q < w.heap.size + 2) w3 wr) (fun i _ => ds.length - (intOf i).toNat)
  case atStart => exact ⟨0, _, rfl, Nat.zero_le _, R2.out, OwnR.nil _ _, Same.refl _ _⟩
  case round =>
    obtain ⟨k, va, rfl, hk, hr, ho, hS⟩ := hrel
    have HS := Lib.hid hS
    have HR := Lib.hid hr
    have HO := Lib.hid ho
    have x1 : (0 : Int) ≤ (k : Int) := by omega
    have zw := hr.lt
    have hS3 := HS0.out.trans' hS fun q hq _ => by omega
    have HS3 := Lib.hid hS3
    by_cases hkl : k < ds.length
    · have hku : k < us.length := by rw [Hul.out]; exact hkl
      obtain ⟨ad, c', hv1, -, -, -, hcs⟩ := RowR.at_ (RowR.keepAll Hrow.out hS3) dpP_len (i := k) (by rw [Hzl.out]; exact hkl)
      rw [Hzl.out] at hv1
      injection hv1 with hv1 _ hv3
      subst hv1 hv3
      have hz : (us.zip ds)[k]'(by rw [Hzl.out]; exact hkl) = (us[k], ds[k]) := by simp
      rw [hz] at hcs
      have hex := (Hex.out k us[k] ds[k] (List.getElem?_eq_getElem hku) (List.getElem?_eq_getElem hkl))
      have hone := hex.one
      have hdn := Hd.out ds[k] (List.getElem_mem hkl)
      have hdk : deepOf (ds.take (k + 1)) = max (deepOf (ds.take k)) ds[k].n := by rw [List.take_succ_eq_append_getElem hkl, deepOf_app]
      have hzk : (us.zip (ds.map (·.e))).take (k + 1) = (us.zip (ds.map (·.e))).take k ++ [(us[k], ds[k].e)] := by
        rw [List.take_succ_eq_append_getElem (by simp [Hul.out, hkl])]
        simp
      have Hdk := Lib.hid hdk
      have Hzk := Lib.hid hzk
      have Hone := Lib.hid hone
      generalize hdd : ds[k] = d at *
      generalize huu : us[k] = u at *
      obtain ⟨Au, cu, hu, -, -⟩ := hex.toL.form
      generalize d.e.args.length = nu at hu
      clear hex
      subst hu
      have c0 := hcs 0 (by omega)
      have c1 := hcs 1 (by omega)
      have c2 := hcs 2 (by omega)
      have c3 := hcs 3 (by omega)
      have c4 := hcs 4 (by omega)
      have c5 := hcs 5 (by omega)
      have c6 := hcs 6 (by omega)
      rw [addr_add _ _ (by omega)] at c1 c2 c3 c4 c5 c6
      simp only [add_zero, dpP, dpCs, List.getElem?_cons_zero, List.getElem?_cons_succ] at c0 c1 c2 c3 c4 c5 c6
      have zad : (ad.add (k * 7)).block < wr.heap.size := World.block_lt_of_cell? wr _ c0
      have p0 := hr.cell 0
      have p1 := hr.cell 1
      have p2 := hr.cell 2
      have p3 := hr.cell 3
      have p4 := hr.cell 4
      have p5 := hr.cell 5
      have p6 := hr.cell 6
      simp only [List.getElem?_cons_zero, List.getElem?_cons_succ] at p0 p1 p2 p3 p4 p5 p6
      have f5 := hr.frozen 5
      have f6 := hr.frozen 6
      have x2 : (k : Int) < (ds.length : Int) := by omega
      clear hcs hz hr ho hS hS3 hone hdk hzk hdd huu
      go_wp2_with (at_builtin; refine stopAt ?_)
      unfold Hid
      have hnr := Row.new wr 155 (dpCs (.slice Au nu cu) d)
      have hS4 := (Same.refl (fun _ => True) wr).alloc (.cells (dpCs (.slice Au nu cu) d).toArray 155)
      have hz4 : (wr.alloc (.cells (dpCs (.slice Au nu cu) d).toArray 155)).heap.size = wr.heap.size + 1 := by simp
      simp only [dpCs] at hnr hS4 hz4
      revert hnr hS4 hz4
      generalize wr.alloc _ = w4
      intro hnr hS4 hz4
      have hr4 := HR.out.keep hS4 trivial
      have ho4 := OwnR.keepAll HO.out hS4
      clear c0 c1 c2 c3 c4 c5 c6 p0 p1 p2 p3 p4 p5 p6 zad f5 f6
      refine wpList_appE TEx exP_len rfl (.tmp 21) (.tmp 24) rfl (f := exP) (B := w.heap.size + 3) (v := va) (l := (us.zip (ds.map (·.e))).take k) (.slice Au nu cu, d.e) (exP_one _ rfl) rfl rfl (by rw [hz4]) ho4 (by omega) (by simp only [List.length_take, maxLen]; omega) (by simp only [List.length_take]; omega) ?_
      intro v' w5 ho5 hS5
      have ho5 : OwnR exP 6 34 w5 (w.heap.size + 3) v' ((us.zip (ds.map (·.e))).take (k + 1)) := by rw [Hzk.out]; exact ho5
      have hne : ∀ q, va.ownBlock = some q → w.heap.size + 3 ≤ q ∧ q < wr.heap.size := fun q hq => HO.out.lt_ hq
      have hr5 := hr4.keep hS5 (fun e => by have := hne _ e.symm; omega)
      have hnr5 := hnr.keep hS5 (fun e => by have := hne _ e.symm; omega)
      have hS5' : Same (fun q => q < w.heap.size + 2) w3 w5 := HS.out.trans ((hS4.mono fun _ _ _ => trivial).trans (hS5.mono fun q _ hq e => by have := hne _ e.symm; omega))
      obtain ⟨A5, c5', hv5, -, hm5⟩ := ho5.form
      generalize (List.take (k + 1) (us.zip (ds.map (·.e)))).length = n5 at hv5
      subst hv5
      have p5 := hr5.cell 5
      have p6 := hr5.cell 6
      have q6 := hnr5.cell 6
      simp only [List.getElem?_cons_zero, List.getElem?_cons_succ] at p5 p6 q6
      have f5 := hr5.frozen 5
      have f6 := hr5.frozen 6
      have zr5 := hr5.lt
      have HR5 := Lib.hid hr5
      have HO5 := Lib.hid ho5
      have HS5 := Lib.hid hS5'
      clear hnr hS4 hr4 ho4 ho5 hne hr5 hnr5 hS5 hS5'
      have he : (max (deepOf (ds.take k) : Int) (d.n : Int)) = ((deepOf (ds.take (k + 1)) : Nat) : Int) := by rw [Hdk.out]; omega
      have He := Lib.hid he
      clear he
      go_wp2
      go_roundw
      case rel =>
        refine ⟨k + 1, .slice A5 n5 c5', by go_num, by omega, ?_, OwnR.keep HO5.out (((Same.refl (fun q => q ≠ w.heap.size + 2) w5).setCell (p := ⟨w.heap.size + 2, 5, none⟩) (fun _ h => h rfl) _).setCell (p := ⟨w.heap.size + 2, 6, none⟩) (fun _ h => h rfl) _) (fun q hq _ => by omega), (HS5.out.setCell (p := ⟨w.heap.size + 2, 5, none⟩) (fun _ (h : w.heap.size + 2 < w.heap.size + 2) => by omega) _).setCell (p := ⟨w.heap.size + 2, 6, none⟩) (fun _ (h : w.heap.size + 2 < w.heap.size + 2) => by omega) _⟩
        have := (HR5.out.set_ 5 (.slice A5 n5 c5')).set_ 6 (.int .i64 (max (deepOf (ds.take k) : Int) (d.n : Int)))
        rw [He.out] at this ⊢
        exact this
      case measure => simp [intOf]; omega
    · obtain rfl : k = ds.length := by omega
      rw [List.take_length] at hr
      have hlz : (us.zip (ds.map (·.e))).length = ds.length := by simp [Hul.out]
      rw [List.take_of_length_le (by omega)] at ho
      have hrt := R0.out.keep hS (by omega)
      have hrr := R1.out.keep hS (by omega)
      have t1 := hrt.cell 1
      simp only [List.getElem?_cons_zero, List.getElem?_cons_succ] at t1
      obtain ⟨A5, c5', hv5, hcv5, hm5⟩ := ho.form
      rw [hlz] at hv5 hcv5
      subst hv5
      have hxl : ExL wr (fun q => (S q ∧ q < w.heap.size) ∨ w.heap.size + 3 ≤ q) (.slice A5 ds.length c5') (ds.map (·.e)) := by
        obtain ⟨A', c', h1, h2, h3, h4⟩ := (OwnR.wr ho).row exP_len
        rw [hlz] at h1 h2 h4
        injection h1 with h1 _ h5
        subst h1 h5
        refine ⟨us, A5, c5', by simp, by simp [Hul.out], by simpa using hcv5, hm5, ?_, fun i u e hu he => ?_⟩
        · rw [List.length_map]; exact h4.mono (fun _ _ h => .inr h)
        · obtain ⟨d, hd, rfl⟩ : ∃ d, ds[i]? = some d ∧ d.e = e := by simpa using he
          exact ((Hex.out i u d hu hd).mono (S' := fun q => (S q ∧ q < w.heap.size) ∨ w.heap.size + 3 ≤ q) fun q hq h => .inl ⟨h, hq⟩).keepAll hS3
      have Hxl := Lib.hid hxl
      have HRR := Lib.hid hrr
      have hdn : deepOf ds ≤ 1000000 := deepOf_le ds Hd.out
      have p0 := hr.cell 0
      have p1 := hr.cell 1
      have p2 := hr.cell 2
      have p3 := hr.cell 3
      have p4 := hr.cell 4
      have p5 := hr.cell 5
      have p6 := hr.cell 6
      simp only [List.getElem?_cons_zero, List.getElem?_cons_succ] at p0 p1 p2 p3 p4 p5 p6
      have f6 := hr.frozen 6
      have q0 := hrr.cell 0
      have q1 := hrr.cell 1
      have q2 := hrr.cell 2
      have q3 := hrr.cell 3
      have q4 := hrr.cell 4
      have q5 := hrr.cell 5
      have q6 := hrr.cell 6
      simp only [List.getElem?_cons_zero, List.getElem?_cons_succ] at q0 q1 q2 q3 q4 q5 q6
      have g0 := hrr.frozen 0
      have g1 := hrr.frozen 1
      have g2 := hrr.frozen 2
      have g3 := hrr.frozen 3
      have g4 := hrr.frozen 4
      have g5 := hrr.frozen 5
      have g6 := hrr.frozen 6
      clear hr ho hrt hrr hxl hS hS3 hlz
      by_cases hdp : 16 < deepOf ds + 1
      · have hdp1 : (16 : Int) < (deepOf ds : Int) + 1 := by omega
        go_wp2
        exact ⟨rfl, fun _ => rfl, fun h => absurd hdp h, HS3.out.setCell (p := ⟨w.heap.size + 2, 6, none⟩) (fun h => absurd h (by show ¬ w.heap.size + 2 < w.heap.size; omega)) _⟩
      · have hdp1 : ¬ (16 : Int) < (deepOf ds : Int) + 1 := by omega
        go_wp2
        have hrf := HRR.out.keep ((Same.refl (fun q => q ≠ w.heap.size + 2) wr).setCell (p := ⟨w.heap.size + 2, 6, none⟩) (fun _ h => h rfl) (.int .i64 ((deepOf ds : Int) + 1))) (by omega)
        have hrg := hrf.sets (dpCs (.slice A5 ds.length c5') (opD s ds)) 0
        have hsg : Same (fun _ => True) w (setsW (wr.setCell ⟨w.heap.size + 2, 6, none⟩ (.int .i64 ((deepOf ds : Int) + 1))) (w.heap.size + 1) 0 (dpCs (.slice A5 ds.length c5') (opD s ds))) := Same.sets' (by omega) _ 0 (HS3.out.setCell (fun h => absurd h (by show ¬ w.heap.size + 2 < w.heap.size; omega)) _)
        have hkx := Same.sets (S := fun q => (S q ∧ q < w.heap.size) ∨ w.heap.size + 3 ≤ q) (g := w.heap.size + 1) (fun h => by rcases h with h | h; exact absurd h.2 (by omega); omega) (dpCs (.slice A5 ds.length c5') (opD s ds)) 0 ((Same.refl (fun q => (S q ∧ q < w.heap.size) ∨ w.heap.size + 3 ≤ q) wr).setCell (p := ⟨w.heap.size + 2, 6, none⟩) (fun _ (h : (S (w.heap.size + 2) ∧ w.heap.size + 2 < w.heap.size) ∨ w.heap.size + 3 ≤ w.heap.size + 2) => by omega) (.int .i64 ((deepOf ds : Int) + 1)))
        have hxf := ((Hxl.out.keep hkx).mono (S' := fun q => S q ∨ w.heap.size ≤ q) fun q _ h => h.elim (fun h => .inl h.1) fun h => .inr (by omega)).toR 3 s .zero
        exact bodyPost_ret (op_results (u := .slice A5 ds.length c5') (d := opD s ds) (show Row _ _ _ (dpCs (.slice A5 ds.length c5') (opD s ds)) from hrg) rfl) rfl ⟨fun h => absurd h hdp, fun _ => ⟨_, rfl, hxf⟩, hsg⟩
end Go.Proofs.YtdfojghhpdkpfaaGreatDoor
namespace Go.Proofs.YtdfojghhpdkpfaaGreatDoor
/-- Does o wait for operation j? -/
def waits (o : Oper) (j : Nat) : Bool := o.after.toList.any fun e => e.on == j && Region.binds .any e
/-- The slot of operation j. -/
def slotOf (ops : Array Oper) (j : Nat) : Nat := ((ops[j]?).bind (·.dst)).getD 0
/-- Whoever writes slot d waits for operation i. -/
def freeAt (ops : Array Oper) (i d : Nat) : Bool := ops.toList.all fun o => !(o.dst == some d) || waits o i
/-- Each edge leads back; each operation has a slot of its own. -/
def plainB (ops : Array Oper) : Bool :=
  (List.range ops.size).all fun i => ((ops[i]?).map fun o => o.after.all (fun e => decide (e.on < i) || !Region.binds .any e) && o.dst.isSome && (List.range i).all fun j => slotOf ops j != slotOf ops i).getD false
structure RegInv (ops : Array Oper) (φ : Nat → Value → World → Prop) (a0 : Act) (w0 : World) (listed : Array Bool) (a : Act) (w : World) : Prop where
  defers : a.defers = a0.defers
  size : a.tmps.size = a0.tmps.size
  same : Same (fun _ => True) w0 w
  kept : ∀ d, (∀ j o, ops[j]? = some o → listed.getD j true = true → o.dst ≠ some d) → a.tmps[d]? = a0.tmps[d]?
  done : ∀ j, j < ops.size → listed.getD j true = true → φ j (a.tmps.getD (slotOf ops j) undef) w
  down : ∀ j o e, ops[j]? = some o → listed.getD j true = true → e ∈ o.after → Region.binds .any e = true → listed.getD e.on true = true
theorem getD_put (a : Act) (d k : Nat) (v : Value) (h : d < a.tmps.size) : (a.put (some d) v).tmps.getD k undef = if d = k then v else a.tmps.getD k undef := by
  simp only [Act.put, Array.getD_eq_getD_getElem?, Array.getElem?_setIfInBounds]
  split
  · rename_i e; subst e; simp [h]
  · rfl
theorem getD_two {l : Array Bool} {j : Nat} (h : l.getD j false = true) : l.getD j true = true := by
  simp only [Array.getD_eq_getD_getElem?] at h ⊢
  cases hj : l[j]? with
  | none => rw [hj] at h; cases h
  | some b => rw [hj] at h; exact h
theorem getD_one {l : Array Bool} {j : Nat} (hj : j < l.size) (h : l.getD j true = true) : l.getD j false = true := by
  simp only [Array.getD_eq_getD_getElem?, Array.getElem?_eq_getElem hj, Option.getD_some] at h ⊢
  exact h
theorem count_less {n i fuel : Nat} {p p' : Nat → Bool} (hi : i < n) (hpi : p i = true) (hp' : ∀ j, p' j = (p j && j != i)) (h : ((List.range n).filter p).length = fuel + 1) : ((List.range n).filter p').length = fuel := by
  have e : (List.range n).filter p' = ((List.range n).filter p).erase i := by
    rw [List.Nodup.erase_eq_filter (List.Pairwise.filter _ List.nodup_range), List.filter_filter]
    apply List.filter_congr
    intro j _
    rw [hp' j, Bool.and_comm]
  rw [e, List.length_erase_of_mem (List.mem_filter.2 ⟨List.mem_range.2 hi, hpi⟩), h]
  rfl
section
variable {P : Program} {ops : Array Oper} {φ : Nat → Value → World → Prop} {a0 : Act} {w0 : World} {Q : Exit → Act → World → Prop}
theorem slot_of {i : Nat} {o : Oper} {d : Nat} (ho : ops[i]? = some o) (hd : o.dst = some d) : slotOf ops i = d := by simp [slotOf, ho, hd]
theorem plain_at (hp : plainB ops = true) {i : Nat} {o : Oper} (ho : ops[i]? = some o) :
    (∀ e ∈ o.after, Region.binds .any e = true → e.on < i) ∧ (∃ d, o.dst = some d) ∧ ∀ j, j < i → slotOf ops j ≠ slotOf ops i := by
  have hi : i < ops.size := (Array.getElem?_eq_some_iff.1 ho).1
  have h := List.all_eq_true.1 hp i (List.mem_range.2 hi)
  rw [ho] at h
  simp only [Option.map_some, Option.getD_some, Bool.and_eq_true, Array.all_eq_true_iff_forall_mem, decide_eq_true_eq, List.all_eq_true, List.mem_range, bne_iff_ne, ne_eq] at h
  obtain ⟨⟨h1, h2⟩, h3⟩ := h
  refine ⟨fun e he hb => ?_, Option.isSome_iff_exists.1 h2, h3⟩
  have := h1 e he
  simpa [hb] using this
/-- One more operation is done. -/
theorem RegInv.step (hp : plainB ops = true) (hstab : ∀ i v w w', φ i v w → Same (fun _ => True) w w' → φ i v w') (hsz : ∀ (i : Nat) (o : Oper) (d : Nat), ops[i]? = some o → o.dst = some d → d < a0.tmps.size)
    {listed : Array Bool} {a : Act} {w w' : World} {i : Nat} {o : Oper} {v : Value} (hl : listed.size = ops.size) (ho : ops[i]? = some o) (hni : listed.getD i true = false) (hr : ∀ e ∈ o.after, Region.binds .any e = true → listed.getD e.on true = true)
    (h : RegInv ops φ a0 w0 listed a w) (hs : Same (fun _ => True) w w') (hv : φ i v w') : RegInv ops φ a0 w0 (listed.setIfInBounds i true) (a.put o.dst v) w' := by
  have hi : i < ops.size := (Array.getElem?_eq_some_iff.1 ho).1
  obtain ⟨hback, ⟨d, hd⟩, hdist⟩ := plain_at hp ho
  have hdl : d < a.tmps.size := by rw [h.size]; exact hsz i o d ho hd
  have hset : ∀ j, (listed.setIfInBounds i true).getD j true = if i = j then true else listed.getD j true := by
    intro j
    simp only [Array.getD_eq_getD_getElem?, Array.getElem?_setIfInBounds]
    split
    · rename_i e; subst e; simp [hl, hi]
    · rfl
  have hne : ∀ j, j < ops.size → j ≠ i → slotOf ops j ≠ d := by
    intro j hj hji e
    obtain ⟨oj, hoj⟩ : ∃ oj, ops[j]? = some oj := ⟨_, Array.getElem?_eq_getElem hj⟩
    have hsi := slot_of ho hd
    rcases Nat.lt_or_gt_of_ne hji with hlt | hgt
    · exact hdist j hlt (by rw [hsi]; exact e)
    · exact (plain_at hp hoj).2.2 i hgt (by rw [hsi]; exact e.symm)
  refine ⟨by rw [hd]; exact h.defers, by rw [hd]; simp [Act.put]; exact h.size, h.same.trans hs, ?_, ?_, ?_⟩
  · intro k hk
    have hkd : d ≠ k := by
      intro e
      exact hk i o ho (by rw [hset, if_pos rfl]) (by rw [hd, e])
    have : (a.put o.dst v).tmps[k]? = a.tmps[k]? := by
      rw [hd]
      simp only [Act.put, Array.getElem?_setIfInBounds, if_neg hkd]
    rw [this]
    refine h.kept k fun j oj hoj hlj => hk j oj hoj ?_
    rw [hset]; split
    · rfl
    · exact hlj
  · intro j hj hlj
    rw [hset] at hlj
    rw [hd, getD_put _ _ _ _ hdl]
    by_cases hij : i = j
    · subst hij
      rw [if_pos (slot_of ho hd).symm]
      exact hv
    · rw [if_neg hij] at hlj
      rw [if_neg (fun e => hne j hj (fun e' => hij e'.symm) e.symm)]
      exact hstab _ _ _ _ (h.done j hj hlj) hs
  · intro j oj e hoj hlj he hb
    rw [hset] at hlj ⊢
    split
    · rfl
    · by_cases hij : i = j
      · subst hij
        rw [ho] at hoj
        injection hoj with hoj
        subst hoj
        exact hr e he hb
      · rw [if_neg hij] at hlj
        exact h.down j oj e hoj hlj he hb
/-- What an operation is shown to do: it leaves a value that its predicate tells, and a world that keeps all. -/
def OpDoes (P : Program) (ops : Array Oper) (φ : Nat → Value → World → Prop) (a0 : Act) (w0 : World) (Q : Exit → Act → World → Prop) (i : Nat) (o : Oper) : Prop :=
  ∀ (a : Act) (w : World), Same (fun _ => True) w0 w → a.defers = a0.defers → a.tmps.size = a0.tmps.size →
    (∀ d, freeAt ops i d = true → a.tmps.getD d undef = a0.tmps.getD d undef) →
    (∀ j, waits o j = true → φ j (a.tmps.getD (slotOf ops j) undef) w) →
    ∀ K : Act → World → Prop, (∀ v w', φ i v w' → Same (fun _ => True) w w' → K (a.put o.dst v) w') →
      if Region.wanted o (yielded ops a.tmps) = true then Oper.wp P o a w K Q else K (a.put o.dst undef) w
theorem wpAny_rel (hp : plainB ops = true) (hstab : ∀ i v w w', φ i v w → Same (fun _ => True) w w' → φ i v w') (hsz : ∀ (i : Nat) (o : Oper) (d : Nat), ops[i]? = some o → o.dst = some d → d < a0.tmps.size)
    (hstep : ∀ i o, ops[i]? = some o → OpDoes P ops φ a0 w0 Q i o)
    (hend : ∀ a w, Same (fun _ => True) w0 w → a.defers = a0.defers → a.tmps.size = a0.tmps.size → (∀ d, (∀ j, j < ops.size → slotOf ops j ≠ d) → a.tmps.getD d undef = a0.tmps.getD d undef) →
      (∀ j, j < ops.size → φ j (a.tmps.getD (slotOf ops j) undef) w) → Q .normal a w) :
    ∀ (fuel : Nat) (listed : Array Bool) (a : Act) (w : World), listed.size = ops.size → ((List.range ops.size).filter fun i => !listed.getD i true).length = fuel →
      RegInv ops φ a0 w0 listed a w → wpAny P .any ops Q fuel listed a w := by
  have ready_nil : ∀ listed : Array Bool, listed.size = ops.size → Region.ready .any ops listed = [] → ∀ i, i < ops.size → listed.getD i true = true := by
    intro listed hlz hr i
    induction i using Nat.strongRecOn with
    | _ i ih =>
      intro hi
      cases hli : listed.getD i true with
      | true => rfl
      | false =>
        exfalso
        obtain ⟨o, ho⟩ : ∃ o, ops[i]? = some o := ⟨_, Array.getElem?_eq_getElem hi⟩
        have : i ∈ Region.ready .any ops listed := by
          unfold Region.ready
          rw [List.mem_filter]
          refine ⟨List.mem_range.2 hi, ?_⟩
          rw [ho, hli]
          simp only [Bool.not_false, Bool.true_and, Option.map_some, Option.getD_some, Array.all_eq_true_iff_forall_mem]
          intro e he
          by_cases hb : Region.binds .any e = true
          · have hlt := (plain_at hp ho).1 e he hb
            have hz : listed.getD e.on false = true := by
              exact getD_one (by omega) (ih e.on hlt (by omega))
            rw [hz]; simp
          · simp [hb]
        rw [hr] at this
        cases this
  have fin : ∀ (listed : Array Bool) (a : Act) (w : World), listed.size = ops.size → Region.ready .any ops listed = [] → RegInv ops φ a0 w0 listed a w → Q .normal a w := by
    intro listed a w hlz hr h
    have hall := ready_nil listed hlz hr
    refine hend a w h.same h.defers h.size (fun d hd => ?_) (fun j hj => h.done j hj (hall j hj))
    have := h.kept d fun j o ho _ e => hd j (Array.getElem?_eq_some_iff.1 ho).1 (slot_of ho e)
    simp [Array.getD_eq_getD_getElem?, this]
  intro fuel
  induction fuel with
  | zero =>
    intro listed a w hl hc h
    have hr : Region.ready .any ops listed = [] := by
      unfold Region.ready
      rw [List.filter_eq_nil_iff]
      intro i hi hh
      have hf := List.eq_nil_of_length_eq_zero hc
      rw [List.filter_eq_nil_iff] at hf
      have := hf i hi
      simp only [Bool.and_eq_true] at hh
      exact this hh.1
    exact ⟨hr, fin listed a w hl hr h⟩
  | succ fuel ih =>
    intro listed a w hl hc h
    refine ⟨fun hr => fin listed a w hl hr h, fun i hi => ?_⟩
    unfold Region.ready at hi
    rw [List.mem_filter] at hi
    obtain ⟨hi, hrd⟩ := hi
    have hi := List.mem_range.1 hi
    obtain ⟨o, ho⟩ : ∃ o, ops[i]? = some o := ⟨_, Array.getElem?_eq_getElem hi⟩
    rw [ho] at hrd
    simp only [Bool.and_eq_true, Bool.not_eq_true', Option.map_some, Option.getD_some, Array.all_eq_true_iff_forall_mem] at hrd
    obtain ⟨hni, hrd⟩ := hrd
    have hrr : ∀ e ∈ o.after, Region.binds .any e = true → listed.getD e.on true = true := by
      intro e he hb
      have := hrd e he
      rw [hb] at this
      exact getD_two (by simpa using this)
    refine wpOp_step ho fun K hK => ?_
    refine hstep i o ho a w h.same h.defers h.size (fun d hd => ?_) (fun j hj => ?_) K (fun v w' hv hs => hK _ _ ?_)
    · have : a.tmps[d]? = a0.tmps[d]? := by
        refine h.kept d fun j oj hoj hlj e => ?_
        have hm : oj ∈ ops.toList := by
          rw [Array.mem_toList_iff]
          exact Array.mem_of_getElem? hoj
        have := List.all_eq_true.1 hd oj hm
        simp only [e, beq_self_eq_true, Bool.not_true, Bool.false_or, waits, List.any_eq_true, Bool.and_eq_true, beq_iff_eq, Array.mem_toList_iff] at this
        obtain ⟨ed, h1, h2, h3⟩ := this
        have := h.down j oj ed hoj hlj h1 h3
        rw [h2, hni] at this
        cases this
      simp [Array.getD_eq_getD_getElem?, this]
    · simp only [waits, List.any_eq_true, Bool.and_eq_true, beq_iff_eq, Array.mem_toList_iff] at hj
      obtain ⟨e, he, h2, h3⟩ := hj
      have hlt := (plain_at hp ho).1 e he h3
      exact h.done j (by omega) (by rw [← h2]; exact hrr e he h3)
    · refine ih _ _ _ (by simpa using hl) ?_ (RegInv.step hp hstab hsz hl ho hni hrr h hs hv)
      refine count_less (i := i) (p := fun i => !listed.getD i true) hi (by rw [hni]; rfl) (fun j => ?_) hc
      simp only [Array.getD_eq_getD_getElem?, Array.getElem?_setIfInBounds]
      by_cases hij : i = j
      · subst hij
        have : i < listed.size := by omega
        simp [this]
      · rw [if_neg hij]
        have : (j != i) = true := by simpa using fun e : j = i => hij e.symm
        rw [this, Bool.and_true]
theorem wp_region_rel {id : Nat} (hm : P.follows .mixedOrders = true) (hp : plainB ops = true) (hstab : ∀ i v w w', φ i v w → Same (fun _ => True) w w' → φ i v w') (hsz : (ops.toList.all fun o => (o.dst.map fun d => decide (d < a0.tmps.size)).getD true) = true)
    (hstep : ∀ i o, ops[i]? = some o → OpDoes P ops φ a0 w0 Q i o)
    (hend : ∀ a w, Same (fun _ => True) w0 w → a.defers = a0.defers → a.tmps.size = a0.tmps.size → (∀ d, (∀ j, j < ops.size → slotOf ops j ≠ d) → a.tmps.getD d undef = a0.tmps.getD d undef) →
      (∀ j, j < ops.size → φ j (a.tmps.getD (slotOf ops j) undef) w) → Q .normal a w) : (Code.region id ops true).wp P Q a0 w0 := by
  refine wp_region_any hm (wpAny_rel hp hstab (fun i o d ho hd => ?_) hstep hend ops.size _ a0 _ (by simp) ?_ ?_)
  · have hmem : o ∈ ops.toList := by rw [Array.mem_toList_iff]; exact Array.mem_of_getElem? ho
    have := List.all_eq_true.1 hsz o hmem
    rw [hd] at this
    simpa using this
  · have : ((List.range ops.size).filter fun i => !(Array.replicate ops.size false).getD i true) = List.range ops.size := by
      rw [List.filter_eq_self]
      intro i hi
      have := List.mem_range.1 hi
      simp [Array.getD_eq_getD_getElem?, this]
    rw [this, List.length_range]
  · refine ⟨rfl, rfl, (Same.refl _ _).drew, fun _ _ => rfl, fun j hj h => ?_, fun j o e ho h => ?_⟩
    · simp [Array.getD_eq_getD_getElem?, hj] at h
    · have hj := (Array.getElem?_eq_some_iff.1 ho).1
      simp [Array.getD_eq_getD_getElem?, hj] at h
end
/-- A predicate on a value that later worlds keep. -/
structure SP where
  p : Value → World → Prop
  st : ∀ v w w', p v w → Same (fun _ => True) w w' → p v w'
def SP.any : SP := ⟨fun _ _ => True, fun _ _ _ _ _ => trivial⟩
def SP.eq (u : Value) : SP := ⟨fun v _ => v = u, fun _ _ _ h _ => h⟩
def SP.by (S : Nat → Prop) (bs : List UInt8) : SP := ⟨fun v w => By w S v bs, fun _ _ _ h k => h.keepAll k⟩
def phi (L : List SP) (i : Nat) (v : Value) (w : World) : Prop := (L.getD i SP.any).p v w
theorem phi_st (L : List SP) : ∀ i v w w', phi L i v w → Same (fun _ => True) w w' → phi L i v w' := fun i v w w' h k => (L.getD i SP.any).st v w w' h k
/-- Each of the operations, one by one. -/
def OpsDo (P : Program) (ops : Array Oper) (φ : Nat → Value → World → Prop) (a0 : Act) (w0 : World) (Q : Exit → Act → World → Prop) : Nat → List Oper → Prop
  | _, [] => True
  | k, o :: l => OpDoes P ops φ a0 w0 Q k o ∧ OpsDo P ops φ a0 w0 Q (k + 1) l
theorem OpsDo.nil {P : Program} {ops : Array Oper} {φ : Nat → Value → World → Prop} {a0 : Act} {w0 : World} {Q : Exit → Act → World → Prop} {k : Nat} : OpsDo P ops φ a0 w0 Q k [] := trivial
theorem OpsDo.cons {P : Program} {ops : Array Oper} {φ : Nat → Value → World → Prop} {a0 : Act} {w0 : World} {Q : Exit → Act → World → Prop} {k : Nat} {o : Oper} {l : List Oper} (h : OpDoes P ops φ a0 w0 Q k o) (h' : OpsDo P ops φ a0 w0 Q (k + 1) l) : OpsDo P ops φ a0 w0 Q k (o :: l) := ⟨h, h'⟩
theorem OpsDo.at_ {P : Program} {ops : Array Oper} {φ : Nat → Value → World → Prop} {a0 : Act} {w0 : World} {Q : Exit → Act → World → Prop} : ∀ (l : List Oper) (k : Nat), OpsDo P ops φ a0 w0 Q k l → ∀ i o, l[i]? = some o → OpDoes P ops φ a0 w0 Q (k + i) o
  | [], _, _, i, o, h => by simp at h
  | o' :: l, k, h, 0, o, ho => by simp at ho; subst ho; exact h.1
  | o' :: l, k, h, i + 1, o, ho => by
    have := OpsDo.at_ l (k + 1) h.2 i o (by simpa using ho)
    rwa [show k + (i + 1) = k + 1 + i from by omega]
/-- The same law, the operations written out. -/
theorem wp_region_rel_lit {P : Program} {l : List Oper} {L : List SP} {a0 : Act} {w0 : World} {Q : Exit → Act → World → Prop} {id : Nat} (hm : P.follows .mixedOrders = true) (hp : plainB l.toArray = true)
    (hsz : (l.all fun o => (o.dst.map fun d => decide (d < a0.tmps.size)).getD true) = true)
    (hstep : OpsDo P l.toArray (phi L) a0 w0 Q 0 l)
    (hend : ∀ a w, Same (fun _ => True) w0 w → a.defers = a0.defers → a.tmps.size = a0.tmps.size → (∀ d, (l.all fun o => o.dst != some d) = true → a.tmps.getD d undef = a0.tmps.getD d undef) →
      (∀ j, j < l.length → phi L j (a.tmps.getD (slotOf l.toArray j) undef) w) → Q .normal a w) : (Code.region id l.toArray true).wp P Q a0 w0 := by
  refine wp_region_rel (φ := phi L) hm hp (phi_st L) (by simpa using hsz) (fun i o ho => ?_) (fun a w h1 h2 h3 h4 h5 => hend a w h1 h2 h3 (fun d hd => h4 d fun j hj e => ?_) (fun j hj => h5 j (by simpa using hj)))
  · have := OpsDo.at_ l 0 hstep i o (by simpa using ho)
    rwa [Nat.zero_add] at this
  · have hj' : j < l.length := by simpa using hj
    have hd' := List.all_eq_true.1 hd l[j] (List.getElem_mem hj')
    obtain ⟨d', hd2⟩ := (plain_at hp (i := j) (o := l[j]) (by simp [hj'])).2.1
    have : slotOf l.toArray j = d' := slot_of (by simp [hj']) hd2
    rw [hd2] at hd'
    rw [this] at e
    subst e
    simp at hd'
/-- Whether a guarded operation runs. -/
theorem wanted_at {ops : Array Oper} {o : Oper} {a : Act} {j d : Nat} {b want : Bool} (hg : o.guard = some (j, want)) (ho : (ops[j]?).bind (·.dst) = some d) (hd : d < a.tmps.size) (e : a.eval (.tmp d) = .bool b) :
    Region.wanted o (yielded ops a.tmps) = (some b == some want) := by
  have hy : yielded ops a.tmps j = some b := by
    unfold yielded
    rw [ho]
    have h1 : a.tmps[d]? = some (.bool b) := by
      have : a.tmps.getD d undef = .bool b := e
      rw [Array.getD_eq_getD_getElem?, Array.getElem?_eq_getElem hd] at this
      rw [Array.getElem?_eq_getElem hd]
      simpa using this
    simp [h1]
  unfold Region.wanted
  rw [hg]
  simp [hy]
theorem run_wanted {ops : Array Oper} {o : Oper} {a : Act} {j d n : Nat} {b : Bool} {A B : Prop} (hg : o.guard = some (j, b)) (ho : (ops[j]?).bind (·.dst) = some d) (hn : a.tmps.size = n) (hd : d < n) (e : a.eval (.tmp d) = .bool b) (h : A) :
    if Region.wanted o (yielded ops a.tmps) = true then A else B := by
  rw [wanted_at hg ho (by omega) e, if_pos (by simp)]
  exact h
theorem skip_wanted {ops : Array Oper} {o : Oper} {a : Act} {j d n : Nat} {b : Bool} {A B : Prop} (hg : o.guard = some (j, !b)) (ho : (ops[j]?).bind (·.dst) = some d) (hn : a.tmps.size = n) (hd : d < n) (e : a.eval (.tmp d) = .bool b) (h : B) :
    if Region.wanted o (yielded ops a.tmps) = true then A else B := by
  rw [wanted_at hg ho (by omega) e, if_neg (by cases b <;> simp)]
  exact h
/-- The frame behind the operations, in the text's order. -/
def putAll (a : Act) : List Oper → List Value → Act
  | o :: l, v :: vs => putAll (a.put o.dst v) l vs
  | _, _ => a
theorem put_size (a : Act) (d : Option Nat) (v : Value) : (a.put d v).tmps.size = a.tmps.size := by
  cases d with
  | none => rfl
  | some d => simp [Act.put]
theorem put_defers (a : Act) (d : Option Nat) (v : Value) : (a.put d v).defers = a.defers := by cases d <;> rfl
theorem putAll_size : ∀ (l : List Oper) (vs : List Value) (a : Act), (putAll a l vs).tmps.size = a.tmps.size
  | [], _, _ => rfl
  | _ :: _, [], _ => rfl
  | o :: l, v :: vs, a => by
    show (putAll (a.put o.dst v) l vs).tmps.size = _
    rw [putAll_size l vs, put_size]
theorem putAll_defers : ∀ (l : List Oper) (vs : List Value) (a : Act), (putAll a l vs).defers = a.defers
  | [], _, _ => rfl
  | _ :: _, [], _ => rfl
  | o :: l, v :: vs, a => by
    show (putAll (a.put o.dst v) l vs).defers = _
    rw [putAll_defers l vs, put_defers]
theorem put_other (a : Act) {e : Option Nat} {d : Nat} (v : Value) (h : e ≠ some d) : (a.put e v).tmps.getD d undef = a.tmps.getD d undef := by
  cases e with
  | none => rfl
  | some e =>
    have hne : e ≠ d := fun x => h (by rw [x])
    simp only [Act.put, Array.getD_eq_getD_getElem?, Array.getElem?_setIfInBounds]
    rw [if_neg hne]
theorem putAll_other {d : Nat} : ∀ (l : List Oper) (vs : List Value) (a : Act), (∀ o ∈ l, o.dst ≠ some d) → (putAll a l vs).tmps.getD d undef = a.tmps.getD d undef
  | [], _, _, _ => rfl
  | _ :: _, [], _, _ => rfl
  | o :: l, v :: vs, a, h => by
    show (putAll (a.put o.dst v) l vs).tmps.getD d undef = _
    rw [putAll_other l vs _ (fun o' ho => h o' (by simp [ho])), put_other _ _ (h o (by simp))]
theorem putAll_at {d : Nat} : ∀ (l : List Oper) (vs : List Value) (a : Act) (j : Nat) (hj : j < l.length) (hv : j < vs.length), l[j].dst = some d → (∀ (k : Nat) (hk : k < l.length), j < k → l[k].dst ≠ some d) → d < a.tmps.size →
    (putAll a l vs).tmps.getD d undef = vs[j]
  | [], _, _, j, hj, _, _, _, _ => by simp at hj
  | _ :: _, [], _, j, _, hv, _, _, _ => by simp at hv
  | o :: l, v :: vs, a, 0, _, _, hd, ho, hs => by
    show (putAll (a.put o.dst v) l vs).tmps.getD d undef = _
    rw [putAll_other l vs _ (fun o' ho' => by
      obtain ⟨k, hk, rfl⟩ := List.mem_iff_getElem.1 ho'
      exact ho (k + 1) (by simpa using hk) (by omega))]
    have hd' : o.dst = some d := hd
    rw [hd', getD_put a d d v hs]
    simp
  | o :: l, v :: vs, a, j + 1, hj, hv, hd, ho, hs => by
    show (putAll (a.put o.dst v) l vs).tmps.getD d undef = _
    have := putAll_at l vs (a.put o.dst v) j (by simpa using hj) (by simpa using hv) (by simpa using hd) (fun k hk hjk => by have := ho (k + 1) (by simpa using hk) (by omega); simpa using this) (by rw [put_size]; exact hs)
    simpa using this
theorem act_ext {a b : Act} (h1 : a.defers = b.defers) (h2 : a.tmps.size = b.tmps.size) (h3 : ∀ d, d < a.tmps.size → a.tmps.getD d undef = b.tmps.getD d undef) : a = b := by
  have ht : a.tmps = b.tmps := by
    apply Array.ext h2
    intro i hi hi'
    have := h3 i hi
    simpa [Array.getD_eq_getD_getElem?, hi, hi'] using this
  cases a; cases b
  simp at h1 ht
  rw [h1, ht]
/-- The law: every operation's value is known. -/
theorem wp_region_eq_lit {P : Program} {l : List Oper} {vs : List Value} {a0 : Act} {w0 : World} {Q : Exit → Act → World → Prop} {id : Nat} (hm : P.follows .mixedOrders = true) (hp : plainB l.toArray = true) (hv : vs.length = l.length)
    (hsz : (l.all fun o => (o.dst.map fun d => decide (d < a0.tmps.size)).getD true) = true)
    (hstep : OpsDo P l.toArray (phi (vs.map SP.eq)) a0 w0 Q 0 l)
    (hend : ∀ w, Same (fun _ => True) w0 w → Q .normal (putAll a0 l vs) w) : (Code.region id l.toArray true).wp P Q a0 w0 := by
  refine wp_region_rel_lit (L := vs.map SP.eq) hm hp hsz hstep (fun a w hs hd hz hf hw => ?_)
  have e : a = putAll a0 l vs := by
    refine act_ext (by rw [hd, putAll_defers]) (by rw [hz, putAll_size]) (fun d hdl => ?_)
    by_cases h : ∃ (j : Nat) (hj : j < l.length), l[j].dst = some d
    · obtain ⟨j, hj, hjd⟩ := h
      have hs1 : slotOf l.toArray j = d := slot_of (o := l[j]) (by simp [hj]) hjd
      have h1 := hw j hj
      rw [hs1] at h1
      have h2 : a.tmps.getD d undef = vs[j]'(by omega) := by
        have hjv : j < vs.length := by omega
        simpa [phi, hjv, SP.eq, List.getD] using h1
      rw [h2, putAll_at l vs a0 j hj (by omega) hjd (fun k hk hjk hkd => ?_) (by rw [← hz]; exact hdl)]
      have hs2 : slotOf l.toArray k = d := slot_of (o := l[k]) (by simp [hk]) hkd
      exact (plain_at hp (i := k) (o := l[k]) (by simp [hk])).2.2 j hjk (by rw [hs1, hs2])
    · rw [putAll_other l vs a0 (fun o ho hod => h (by
        obtain ⟨j, hj, rfl⟩ := List.mem_iff_getElem.1 ho
        exact ⟨j, hj, hod⟩))]
      exact hf d (List.all_eq_true.2 fun o ho => by
        have : o.dst ≠ some d := fun hod => h (by
          obtain ⟨j, hj, rfl⟩ := List.mem_iff_getElem.1 ho
          exact ⟨j, hj, hod⟩)
        simpa using this)
  rw [e]
  exact hend w hs
/-- The first n operations: each edge leads back; each has a slot of its own. -/
def plainN (ops : Array Oper) (n : Nat) : Bool :=
  (List.range n).all fun i => ((ops[i]?).map fun o => o.after.all (fun e => decide (e.on < i) || !Region.binds .any e) && o.dst.isSome && (List.range n).all fun j => decide (j = i) || slotOf ops j != slotOf ops i).getD false
/-- Does operation i wait for j? -/
def waitsAt (ops : Array Oper) (i j : Nat) : Bool := ((ops[i]?).map fun o => waits o j).getD false
/-- What the operations' slots hold. -/
def valsOf (ops : Array Oper) (a : Act) (k : Nat) : Value := a.tmps.getD (slotOf ops k) undef
/-- What an operation is shown to do; its predicate may speak of the values of those that it waits for, too. -/
def OpDoes2 (P : Program) (ops : Array Oper) (φ : Nat → (Nat → Value) → World → Prop) (a0 : Act) (w0 : World) (Q : Exit → Act → World → Prop) (i : Nat) (o : Oper) : Prop :=
  ∀ (a : Act) (w : World), Same (fun _ => True) w0 w → a.defers = a0.defers → a.tmps.size = a0.tmps.size →
    (∀ d, freeAt ops i d = true → a.tmps.getD d undef = a0.tmps.getD d undef) →
    (∀ j, waits o j = true → φ j (valsOf ops a) w) →
    ∀ K : Act → World → Prop, (∀ v w', (∀ u, u i = v → (∀ j, waits o j = true → u j = valsOf ops a j) → φ i u w') → Same (fun _ => True) w w' → K (a.put o.dst v) w') →
      if Region.wanted o (yielded ops a.tmps) = true then Oper.wp P o a w K Q else K (a.put o.dst undef) w
structure RegInvN (ops : Array Oper) (n : Nat) (φ : Nat → (Nat → Value) → World → Prop) (a0 : Act) (w0 : World) (listed : Array Bool) (a : Act) (w : World) : Prop where
  defers : a.defers = a0.defers
  size : a.tmps.size = a0.tmps.size
  same : Same (fun _ => True) w0 w
  kept : ∀ d, (∀ j o, ops[j]? = some o → listed.getD j true = true → o.dst ≠ some d) → a.tmps[d]? = a0.tmps[d]?
  done : ∀ j, j < n → listed.getD j true = true → φ j (valsOf ops a) w
  down : ∀ j o e, ops[j]? = some o → listed.getD j true = true → e ∈ o.after → Region.binds .any e = true → listed.getD e.on true = true
  tail : ∀ t, n ≤ t → t < ops.size → listed.getD t true = false
section
variable {P : Program} {ops : Array Oper} {n : Nat} {φ : Nat → (Nat → Value) → World → Prop} {a0 : Act} {w0 : World} {Q : Exit → Act → World → Prop}
theorem plainN_at (hp : plainN ops n = true) {i : Nat} {o : Oper} (hi : i < n) (ho : ops[i]? = some o) :
    (∀ e ∈ o.after, Region.binds .any e = true → e.on < i) ∧ (∃ d, o.dst = some d) ∧ ∀ j, j < n → j ≠ i → slotOf ops j ≠ slotOf ops i := by
  have h := List.all_eq_true.1 hp i (List.mem_range.2 hi)
  rw [ho] at h
  simp only [Option.map_some, Option.getD_some, Bool.and_eq_true, Array.all_eq_true_iff_forall_mem, List.all_eq_true, List.mem_range] at h
  obtain ⟨⟨h1, h2⟩, h3⟩ := h
  refine ⟨fun e he hb => ?_, Option.isSome_iff_exists.1 h2, fun j hj hne => ?_⟩
  · have := h1 e he
    simpa [hb] using this
  · have := h3 j hj
    simpa [hne] using this
theorem set_getD {listed : Array Bool} {i : Nat} (hi : i < listed.size) (j : Nat) : (listed.setIfInBounds i true).getD j true = if i = j then true else listed.getD j true := by
  simp only [Array.getD_eq_getD_getElem?, Array.getElem?_setIfInBounds]
  split
  · rename_i e; subst e; simp [hi]
  · rfl
/-- One more of the first operations is done. -/
theorem RegInvN.step (hp : plainN ops n = true) (hstab : ∀ i v w w', φ i v w → Same (fun _ => True) w w' → φ i v w') (hdep : ∀ i u v w, φ i u w → u i = v i → (∀ j, waitsAt ops i j = true → u j = v j) → φ i v w) (hsz : ∀ (i : Nat) (o : Oper) (d : Nat), ops[i]? = some o → o.dst = some d → d < a0.tmps.size)
    {listed : Array Bool} {a : Act} {w w' : World} {i : Nat} {o : Oper} {v : Value} (hl : listed.size = ops.size) (hin : i < n) (ho : ops[i]? = some o) (hni : listed.getD i true = false) (hr : ∀ e ∈ o.after, Region.binds .any e = true → listed.getD e.on true = true)
    (h : RegInvN ops n φ a0 w0 listed a w) (hs : Same (fun _ => True) w w') (hv : ∀ u, u i = v → (∀ j, waits o j = true → u j = valsOf ops a j) → φ i u w') : RegInvN ops n φ a0 w0 (listed.setIfInBounds i true) (a.put o.dst v) w' := by
  have hi : i < ops.size := (Array.getElem?_eq_some_iff.1 ho).1
  obtain ⟨hback, ⟨d, hd⟩, hdist⟩ := plainN_at hp hin ho
  have hdl : d < a.tmps.size := by rw [h.size]; exact hsz i o d ho hd
  have hset := set_getD (listed := listed) (i := i) (by omega)
  refine ⟨by rw [hd]; exact h.defers, by rw [hd]; simp [Act.put]; exact h.size, h.same.trans hs, ?_, ?_, ?_, ?_⟩
  · intro k hk
    have hkd : d ≠ k := by
      intro e
      exact hk i o ho (by rw [hset, if_pos rfl]) (by rw [hd, e])
    have : (a.put o.dst v).tmps[k]? = a.tmps[k]? := by
      rw [hd]
      simp only [Act.put, Array.getElem?_setIfInBounds, if_neg hkd]
    rw [this]
    refine h.kept k fun j oj hoj hlj => hk j oj hoj ?_
    rw [hset]; split
    · rfl
    · exact hlj
  · intro j hj hlj
    rw [hset] at hlj
    have hval : ∀ k, k < n → k ≠ i → valsOf ops (a.put o.dst v) k = valsOf ops a k := fun k hk hki => by
      unfold valsOf
      rw [hd, getD_put _ _ _ _ hdl, if_neg (fun e => hdist k hk hki (by rw [slot_of ho hd]; exact e.symm))]
    by_cases hij : i = j
    · subst hij
      refine hv _ ?_ fun k hk => ?_
      · unfold valsOf
        rw [hd, getD_put _ _ _ _ hdl, if_pos (slot_of ho hd).symm]
      · simp only [waits, List.any_eq_true, Bool.and_eq_true, beq_iff_eq, Array.mem_toList_iff] at hk
        obtain ⟨e, he, h2, h3⟩ := hk
        have := hback e he h3
        exact hval k (by omega) (by omega)
    · rw [if_neg hij] at hlj
      refine hstab _ _ _ _ (hdep _ _ _ _ (h.done j hj hlj) (hval j hj fun e => hij e.symm).symm fun k hk => ?_) hs
      obtain ⟨oj, hoj⟩ : ∃ oj, ops[j]? = some oj := by
        cases e : ops[j]? with
        | none => simp [waitsAt, e] at hk
        | some oj => exact ⟨oj, rfl⟩
      simp only [waitsAt, hoj, Option.map_some, Option.getD_some, waits, List.any_eq_true, Bool.and_eq_true, beq_iff_eq, Array.mem_toList_iff] at hk
      obtain ⟨e, he, h2, h3⟩ := hk
      have hk1 := (plainN_at hp hj hoj).1 e he h3
      refine (hval k (by omega) fun e' => ?_).symm
      have := h.down j oj e hoj hlj he h3
      rw [h2, e', hni] at this
      cases this
  · intro j oj e hoj hlj he hb
    rw [hset] at hlj ⊢
    split
    · rfl
    · by_cases hij : i = j
      · subst hij
        rw [ho] at hoj
        injection hoj with hoj
        subst hoj
        exact hr e he hb
      · rw [if_neg hij] at hlj
        exact h.down j oj e hoj hlj he hb
  · intro t ht hts
    rw [hset, if_neg (by omega)]
    exact h.tail t ht hts
/-- The ending's obligations. -/
structure TailDoes (P : Program) (l : List Oper) (n d : Nat) (φ : Nat → (Nat → Value) → World → Prop) (a0 : Act) (w0 : World) (Q : Exit → Act → World → Prop) : Prop where
  all : ∀ a w, Same (fun _ => True) w0 w → a.defers = a0.defers → a.tmps.size = a0.tmps.size → (∀ k, (∀ j, j < n → slotOf l.toArray j ≠ k) → a.tmps.getD k undef = a0.tmps.getD k undef) →
    (∀ j, j < n → φ j (valsOf l.toArray a) w) → wpList P l.toArray Q (l.drop n) a w
  but : ∀ od on, l[d]? = some od → l[n]? = some on → ∀ a w, Same (fun _ => True) w0 w → a.defers = a0.defers → a.tmps.size = a0.tmps.size → (∀ k, (∀ j, j < n → j ≠ d → slotOf l.toArray j ≠ k) → a.tmps.getD k undef = a0.tmps.getD k undef) →
    (∀ j, j < n → j ≠ d → φ j (valsOf l.toArray a) w) → wpList P l.toArray Q (on :: od :: l.drop (n + 1)) a w
end
/-- A predicate on a value (and on that of an operation waited for, number k) that later worlds keep. -/
structure SP2 where
  k : Option Nat
  p : Value → Value → World → Prop
  st : ∀ u v w w', p u v w → Same (fun _ => True) w w' → p u v w'
def SP2.of (s : SP) : SP2 := ⟨none, fun v _ w => s.p v w, fun u _ w w' h k => s.st u w w' h k⟩
def SP2.eq (u : Value) : SP2 := ⟨none, fun v _ _ => v = u, fun _ _ _ _ h _ => h⟩
def SP2.any : SP2 := ⟨none, fun _ _ _ => True, fun _ _ _ _ _ _ => trivial⟩
def SP2.q (s : SP2) (v : Value) (u : Nat → Value) (w : World) : Prop := match s.k with | none => s.p v undef w | some k => s.p v (u k) w
def spAt (L : List SP2) (i : Nat) : SP2 := L.getD i SP2.any
def phi2 (L : List SP2) (i : Nat) (u : Nat → Value) (w : World) : Prop := (spAt L i).q (u i) u w
/-- The predicates speak of no other operation than one that is waited for. -/
def linksB (ops : Array Oper) (L : List SP2) : Bool := (List.range L.length).all fun i => match (spAt L i).k with | none => true | some k => waitsAt ops i k
theorem links_at {ops : Array Oper} {L : List SP2} (h : linksB ops L = true) {i k : Nat} (hk : (spAt L i).k = some k) : waitsAt ops i k = true := by
  rcases Nat.lt_or_ge i L.length with hi | hi
  · have := List.all_eq_true.1 h i (List.mem_range.2 hi)
    rw [hk] at this
    exact this
  · have : spAt L i = SP2.any := by simp [spAt, hi]
    rw [this] at hk
    cases hk
/-- What an operation is shown to do. -/
def OpDoesL (P : Program) (ops : Array Oper) (L : List SP2) (a0 : Act) (w0 : World) (Q : Exit → Act → World → Prop) (i : Nat) (o : Oper) : Prop :=
  ∀ (a : Act) (w : World), Same (fun _ => True) w0 w → a.defers = a0.defers → a.tmps.size = a0.tmps.size →
    (∀ d, freeAt ops i d = true → a.tmps.getD d undef = a0.tmps.getD d undef) →
    (∀ j, waits o j = true → phi2 L j (valsOf ops a) w) →
    ∀ K : Act → World → Prop, (∀ v w', (spAt L i).q v (valsOf ops a) w' → Same (fun _ => True) w w' → K (a.put o.dst v) w') →
      if Region.wanted o (yielded ops a.tmps) = true then Oper.wp P o a w K Q else K (a.put o.dst undef) w
theorem OpDoesL.two {P : Program} {ops : Array Oper} {L : List SP2} {a0 : Act} {w0 : World} {Q : Exit → Act → World → Prop} {i : Nat} {o : Oper} (hl : linksB ops L = true) (ho : ops[i]? = some o) (h : OpDoesL P ops L a0 w0 Q i o) : OpDoes2 P ops (phi2 L) a0 w0 Q i o := by
  intro a w h1 h2 h3 h4 h5 K hK
  refine h a w h1 h2 h3 h4 h5 K fun v w' hv hs => hK v w' (fun u hu hj => ?_) hs
  unfold phi2 SP2.q at *
  cases hk : (spAt L i).k with
  | none => rw [hk] at hv; simpa [hu] using hv
  | some k =>
    rw [hk] at hv
    have hw := links_at hl hk
    simp only [waitsAt, ho, Option.map_some, Option.getD_some] at hw
    simpa [hu, hj k hw] using hv
def OpsDoL (P : Program) (ops : Array Oper) (L : List SP2) (a0 : Act) (w0 : World) (Q : Exit → Act → World → Prop) : Nat → List Oper → Prop
  | _, [] => True
  | k, o :: l => OpDoesL P ops L a0 w0 Q k o ∧ OpsDoL P ops L a0 w0 Q (k + 1) l
theorem OpsDoL.at_ {P : Program} {ops : Array Oper} {L : List SP2} {a0 : Act} {w0 : World} {Q : Exit → Act → World → Prop} : ∀ (l : List Oper) (k : Nat), OpsDoL P ops L a0 w0 Q k l → ∀ i o, l[i]? = some o → OpDoesL P ops L a0 w0 Q (k + i) o
  | [], _, _, i, o, h => by simp at h
  | o' :: l, k, h, 0, o, ho => by simp at ho; subst ho; exact h.1
  | o' :: l, k, h, i + 1, o, ho => by
    have := OpsDoL.at_ l (k + 1) h.2 i o (by simpa using ho)
    rwa [show k + (i + 1) = k + 1 + i from by omega]
section
variable {P : Program} {l : List Oper} {n d id : Nat} {L : List SP2} {a0 : Act} {w0 : World} {Q : Exit → Act → World → Prop}
end
/-- One more is done. -/
def also (f : Nat → Bool) (i : Nat) : Nat → Bool := fun j => if i = j then true else f j
/-- What an operation is shown to do. -/
def OpDoesS (P : Program) (ops : Array Oper) (φ : Nat → Value → World → Prop) (T : Nat → Prop) (Ψ : (Nat → Bool) → World → Prop) (a0 : Act) (w0 : World) (Q : Exit → Act → World → Prop) (i : Nat) (o : Oper) : Prop :=
  ∀ (a : Act) (w : World) (f : Nat → Bool), Same T w0 w → Ψ f w → f i = false → (∀ j, waits o j = true → f j = true) → a.defers = a0.defers → a.tmps.size = a0.tmps.size →
    (∀ d, freeAt ops i d = true → a.tmps.getD d undef = a0.tmps.getD d undef) →
    (∀ j, waits o j = true → φ j (a.tmps.getD (slotOf ops j) undef) w) →
    ∀ K : Act → World → Prop, (∀ v w', φ i v w' → Same T w w' → Ψ (also f i) w' → K (a.put o.dst v) w') →
      if Region.wanted o (yielded ops a.tmps) = true then Oper.wp P o a w K Q else K (a.put o.dst undef) w
structure StInv (ops : Array Oper) (n : Nat) (φ : Nat → Value → World → Prop) (T : Nat → Prop) (Ψ : (Nat → Bool) → World → Prop) (a0 : Act) (w0 : World) (listed : Array Bool) (a : Act) (w : World) : Prop where
  defers : a.defers = a0.defers
  size : a.tmps.size = a0.tmps.size
  same : Same T w0 w
  st : Ψ (fun j => listed.getD j true) w
  kept : ∀ d, (∀ j o, ops[j]? = some o → listed.getD j true = true → o.dst ≠ some d) → a.tmps[d]? = a0.tmps[d]?
  done : ∀ j, j < n → listed.getD j true = true → φ j (a.tmps.getD (slotOf ops j) undef) w
  down : ∀ j o e, ops[j]? = some o → listed.getD j true = true → e ∈ o.after → Region.binds .any e = true → listed.getD e.on true = true
  tail : ∀ t, n ≤ t → t < ops.size → listed.getD t true = false
section
variable {P : Program} {ops : Array Oper} {n : Nat} {φ : Nat → Value → World → Prop} {T : Nat → Prop} {Ψ : (Nat → Bool) → World → Prop} {a0 : Act} {w0 : World} {Q : Exit → Act → World → Prop}
theorem StInv.step (hp : plainN ops n = true) (hstab : ∀ i v w w', φ i v w → Same T w w' → φ i v w') (hsz : ∀ (i : Nat) (o : Oper) (d : Nat), ops[i]? = some o → o.dst = some d → d < a0.tmps.size)
    {listed : Array Bool} {a : Act} {w w' : World} {i : Nat} {o : Oper} {v : Value} (hl : listed.size = ops.size) (hin : i < n) (ho : ops[i]? = some o) (hni : listed.getD i true = false) (hr : ∀ e ∈ o.after, Region.binds .any e = true → listed.getD e.on true = true)
    (h : StInv ops n φ T Ψ a0 w0 listed a w) (hs : Same T w w') (hv : φ i v w') (hst : Ψ (also (fun j => listed.getD j true) i) w') : StInv ops n φ T Ψ a0 w0 (listed.setIfInBounds i true) (a.put o.dst v) w' := by
  have hi : i < ops.size := (Array.getElem?_eq_some_iff.1 ho).1
  obtain ⟨hback, ⟨d, hd⟩, hdist⟩ := plainN_at hp hin ho
  have hdl : d < a.tmps.size := by rw [h.size]; exact hsz i o d ho hd
  have hset := set_getD (listed := listed) (i := i) (by omega)
  refine ⟨by rw [hd]; exact h.defers, by rw [hd]; simp [Act.put]; exact h.size, h.same.trans hs, ?_, ?_, ?_, ?_, ?_⟩
  · have e : (fun j => (listed.setIfInBounds i true).getD j true) = also (fun j => listed.getD j true) i := funext hset
    rw [e]
    exact hst
  · intro k hk
    have hkd : d ≠ k := by
      intro e
      exact hk i o ho (by rw [hset, if_pos rfl]) (by rw [hd, e])
    have : (a.put o.dst v).tmps[k]? = a.tmps[k]? := by
      rw [hd]
      simp only [Act.put, Array.getElem?_setIfInBounds, if_neg hkd]
    rw [this]
    refine h.kept k fun j oj hoj hlj => hk j oj hoj ?_
    rw [hset]; split
    · rfl
    · exact hlj
  · intro j hj hlj
    rw [hset] at hlj
    rw [hd, getD_put _ _ _ _ hdl]
    by_cases hij : i = j
    · subst hij
      rw [if_pos (slot_of ho hd).symm]
      exact hv
    · rw [if_neg hij] at hlj
      rw [if_neg (fun e => hdist j hj (fun e' => hij e'.symm) (by rw [slot_of ho hd]; exact e.symm))]
      exact hstab _ _ _ _ (h.done j hj hlj) hs
  · intro j oj e hoj hlj he hb
    rw [hset] at hlj ⊢
    split
    · rfl
    · by_cases hij : i = j
      · subst hij
        rw [ho] at hoj
        injection hoj with hoj
        subst hoj
        exact hr e he hb
      · rw [if_neg hij] at hlj
        exact h.down j oj e hoj hlj he hb
  · intro t ht hts
    rw [hset, if_neg (by omega)]
    exact h.tail t ht hts
end
/-- A predicate on a value that the region's writes keep. -/
structure SPT (T : Nat → Prop) where
  p : Value → World → Prop
  st : ∀ v w w', p v w → Same T w w' → p v w'
def SPT.eq {T : Nat → Prop} (u : Value) : SPT T := ⟨fun v _ => v = u, fun _ _ _ h _ => h⟩
def SPT.any {T : Nat → Prop} : SPT T := ⟨fun _ _ => True, fun _ _ _ _ _ => trivial⟩
def stAt {T : Nat → Prop} (L : List (SPT T)) (i : Nat) : SPT T := L.getD i SPT.any
def OpDoesT (P : Program) (ops : Array Oper) {T : Nat → Prop} (L : List (SPT T)) (Ψ : (Nat → Bool) → World → Prop) (a0 : Act) (w0 : World) (Q : Exit → Act → World → Prop) (i : Nat) (o : Oper) : Prop :=
  OpDoesS P ops (fun j v w => (stAt L j).p v w) T Ψ a0 w0 Q i o
def OpsDoT (P : Program) (ops : Array Oper) {T : Nat → Prop} (L : List (SPT T)) (Ψ : (Nat → Bool) → World → Prop) (a0 : Act) (w0 : World) (Q : Exit → Act → World → Prop) : Nat → List Oper → Prop
  | _, [] => True
  | i, o :: l => OpDoesT P ops L Ψ a0 w0 Q i o ∧ OpsDoT P ops L Ψ a0 w0 Q (i + 1) l
theorem OpsDoT.at_ {P : Program} {ops : Array Oper} {T : Nat → Prop} {L : List (SPT T)} {Ψ : (Nat → Bool) → World → Prop} {a0 : Act} {w0 : World} {Q : Exit → Act → World → Prop} : ∀ (l : List Oper) (k : Nat), OpsDoT P ops L Ψ a0 w0 Q k l → ∀ i o, l[i]? = some o → OpDoesT P ops L Ψ a0 w0 Q (k + i) o
  | [], k, _, i, o, h => by simp at h
  | p :: l, k, hd, i, o, h => by
    cases i with
    | zero => simp at h; subst h; exact hd.1
    | succ i =>
      have := OpsDoT.at_ l (k + 1) hd.2 i o (by simpa using h)
      rwa [show k + 1 + i = k + (i + 1) by omega] at this
/-- What operation k left in its slot. -/
def valF (ops : Array Oper) (a : Act) (k : Nat) : Value := ((ops[k]?).bind (·.dst)).elim undef fun d => a.tmps.getD d undef
def setF (u : Nat → Value) (i : Nat) (v : Value) : Nat → Value := fun j => if i = j then v else u j
/-- Each edge leads back; no two operations have one slot. -/
def plainF (ops : Array Oper) : Bool :=
  (List.range ops.size).all fun i => ((ops[i]?).map fun o => o.after.all (fun e => decide (e.on < i) || !Region.binds .any e) && (List.range ops.size).all fun j => decide (j = i) || ((ops[j]?).bind (·.dst)).isNone || ((ops[j]?).bind (·.dst)) != o.dst).getD false
/-- What an operation is shown to do. -/
def OpDoesF (P : Program) (ops : Array Oper) (φ : Nat → Value → World → Prop) (T : Nat → Prop) (Ψ : (Nat → Bool) → (Nat → Value) → World → Prop) (a0 : Act) (w0 : World) (Q : Exit → Act → World → Prop) (i : Nat) (o : Oper) : Prop :=
  ∀ (a : Act) (w : World) (f : Nat → Bool), Same T w0 w → Ψ f (valF ops a) w → f i = false → (∀ j, waits o j = true → f j = true) → (∀ j k, waitsAt ops j k = true → f j = true → f k = true) → a.defers = a0.defers → a.tmps.size = a0.tmps.size →
    (∀ d, freeAt ops i d = true → a.tmps.getD d undef = a0.tmps.getD d undef) →
    (∀ j, waits o j = true → φ j (valF ops a j) w) →
    ∀ K : Act → World → Prop, (∀ v w', (o.dst.isSome = true → φ i v w') → Same T w w' → Ψ (also f i) (setF (valF ops a) i (if o.dst.isSome then v else undef)) w' → K (a.put o.dst v) w') →
      if Region.wanted o (yielded ops a.tmps) = true then Oper.wp P o a w K Q else K (a.put o.dst undef) w
structure FuInv (ops : Array Oper) (φ : Nat → Value → World → Prop) (T : Nat → Prop) (Ψ : (Nat → Bool) → (Nat → Value) → World → Prop) (a0 : Act) (w0 : World) (listed : Array Bool) (a : Act) (w : World) : Prop where
  defers : a.defers = a0.defers
  size : a.tmps.size = a0.tmps.size
  same : Same T w0 w
  st : Ψ (fun j => listed.getD j true) (valF ops a) w
  kept : ∀ d, (∀ j o, ops[j]? = some o → listed.getD j true = true → o.dst ≠ some d) → a.tmps[d]? = a0.tmps[d]?
  done : ∀ j o, ops[j]? = some o → o.dst.isSome = true → listed.getD j true = true → φ j (valF ops a j) w
  down : ∀ j o e, ops[j]? = some o → listed.getD j true = true → e ∈ o.after → Region.binds .any e = true → listed.getD e.on true = true
section
variable {P : Program} {ops : Array Oper} {φ : Nat → Value → World → Prop} {T : Nat → Prop} {Ψ : (Nat → Bool) → (Nat → Value) → World → Prop} {a0 : Act} {w0 : World} {Q : Exit → Act → World → Prop}
theorem plainF_at (hp : plainF ops = true) {i : Nat} {o : Oper} (ho : ops[i]? = some o) :
    (∀ e ∈ o.after, Region.binds .any e = true → e.on < i) ∧ ∀ j oj d, ops[j]? = some oj → j ≠ i → oj.dst = some d → o.dst ≠ some d := by
  have hi : i < ops.size := (Array.getElem?_eq_some_iff.1 ho).1
  have h := List.all_eq_true.1 hp i (List.mem_range.2 hi)
  rw [ho] at h
  simp only [Option.map_some, Option.getD_some, Bool.and_eq_true, Array.all_eq_true_iff_forall_mem, List.all_eq_true, List.mem_range] at h
  obtain ⟨h1, h2⟩ := h
  refine ⟨fun e he hb => ?_, fun j oj d hj hne hd e => ?_⟩
  · have := h1 e he
    simpa [hb] using this
  · have := h2 j (Array.getElem?_eq_some_iff.1 hj).1
    rw [hj, Option.bind_some, hd, e] at this
    simp [hne] at this
theorem valF_at {a : Act} {j : Nat} {o : Oper} {d : Nat} (ho : ops[j]? = some o) (hd : o.dst = some d) : valF ops a j = a.tmps.getD d undef := by simp [valF, ho, hd]
theorem valF_no {a : Act} {j : Nat} {o : Oper} (ho : ops[j]? = some o) (hd : o.dst = none) : valF ops a j = undef := by simp [valF, ho, hd]
theorem valF_put (hp : plainF ops = true) {a : Act} {i : Nat} {o : Oper} {v : Value} (ho : ops[i]? = some o) (hsz : ∀ d, o.dst = some d → d < a.tmps.size) : valF ops (a.put o.dst v) = setF (valF ops a) i (if o.dst.isSome then v else undef) := by
  funext j
  unfold setF
  cases hd : o.dst with
  | none =>
    have e : a.put none v = a := rfl
    rw [e]
    split
    · rename_i e; subst e
      rw [valF_no ho hd]
      simp
    · rfl
  | some d =>
    split
    · rename_i e; subst e
      rw [valF_at ho hd, getD_put _ _ _ _ (hsz d hd), if_pos rfl]
      simp
    · rename_i hne
      cases hj : ops[j]? with
      | none => simp [valF, hj]
      | some oj =>
        cases hdj : oj.dst with
        | none => rw [valF_no hj hdj, valF_no hj hdj]
        | some d' =>
          rw [valF_at hj hdj, valF_at hj hdj, getD_put _ _ _ _ (hsz d hd), if_neg]
          intro e
          exact (plainF_at hp ho).2 j oj d' hj (fun e' => hne e'.symm) hdj (by rw [hd, e])
theorem FuInv.step (hp : plainF ops = true) (hstab : ∀ i v w w', φ i v w → Same T w w' → φ i v w') (hsz : ∀ (i : Nat) (o : Oper) (d : Nat), ops[i]? = some o → o.dst = some d → d < a0.tmps.size)
    {listed : Array Bool} {a : Act} {w w' : World} {i : Nat} {o : Oper} {v : Value} (hl : listed.size = ops.size) (ho : ops[i]? = some o) (hni : listed.getD i true = false) (hr : ∀ e ∈ o.after, Region.binds .any e = true → listed.getD e.on true = true)
    (h : FuInv ops φ T Ψ a0 w0 listed a w) (hs : Same T w w') (hv : o.dst.isSome = true → φ i v w') (hst : Ψ (also (fun j => listed.getD j true) i) (setF (valF ops a) i (if o.dst.isSome then v else undef)) w') : FuInv ops φ T Ψ a0 w0 (listed.setIfInBounds i true) (a.put o.dst v) w' := by
  have hi : i < ops.size := (Array.getElem?_eq_some_iff.1 ho).1
  have hset := set_getD (listed := listed) (i := i) (by omega)
  have hdz : ∀ d, o.dst = some d → d < a.tmps.size := fun d hd => by rw [h.size]; exact hsz i o d ho hd
  have hval := valF_put (v := v) hp ho hdz
  refine ⟨by rw [put_defers]; exact h.defers, by rw [put_size]; exact h.size, h.same.trans hs, ?_, ?_, ?_, ?_⟩
  · have e : (fun j => (listed.setIfInBounds i true).getD j true) = also (fun j => listed.getD j true) i := funext hset
    rw [e, hval]
    exact hst
  · intro k hk
    have hkd : o.dst ≠ some k := hk i o ho (by rw [hset, if_pos rfl])
    have : (a.put o.dst v).tmps[k]? = a.tmps[k]? := by
      cases hd : o.dst with
      | none => rfl
      | some d =>
        have hne : d ≠ k := fun e => hkd (by rw [hd, e])
        simp only [Act.put, Array.getElem?_setIfInBounds, if_neg hne]
    rw [this]
    refine h.kept k fun j oj hoj hlj => hk j oj hoj ?_
    rw [hset]; split
    · rfl
    · exact hlj
  · intro j oj hoj hdj hlj
    rw [hset] at hlj
    rw [hval]
    unfold setF
    by_cases hij : i = j
    · subst hij
      rw [ho] at hoj
      injection hoj with hoj
      subst hoj
      rw [if_pos rfl, if_pos hdj]
      exact hv hdj
    · rw [if_neg hij] at hlj
      rw [if_neg hij]
      exact hstab _ _ _ _ (h.done j oj hoj hdj hlj) hs
  · intro j oj e hoj hlj he hb
    rw [hset] at hlj ⊢
    split
    · rfl
    · by_cases hij : i = j
      · subst hij
        rw [ho] at hoj
        injection hoj with hoj
        subst hoj
        exact hr e he hb
      · rw [if_neg hij] at hlj
        exact h.down j oj e hoj hlj he hb
theorem wpAny_full (hp : plainF ops = true) (hstab : ∀ i v w w', φ i v w → Same T w w' → φ i v w') (hsz : ∀ (i : Nat) (o : Oper) (d : Nat), ops[i]? = some o → o.dst = some d → d < a0.tmps.size)
    (hany : ∀ i v w, (∀ o, ops[i]? = some o → o.dst = none) → φ i v w)
    (hstep : ∀ i o, ops[i]? = some o → OpDoesF P ops φ T Ψ a0 w0 Q i o)
    (hend : ∀ a w, FuInv ops φ T Ψ a0 w0 (Array.replicate ops.size true) a w → Q .normal a w) :
    ∀ (fuel : Nat) (listed : Array Bool) (a : Act) (w : World), listed.size = ops.size → ((List.range ops.size).filter fun i => !listed.getD i true).length = fuel →
      FuInv ops φ T Ψ a0 w0 listed a w → wpAny P .any ops Q fuel listed a w := by
  have ready_nil : ∀ listed : Array Bool, listed.size = ops.size → Region.ready .any ops listed = [] → ∀ i, i < ops.size → listed.getD i true = true := by
    intro listed hlz hr i
    induction i using Nat.strongRecOn with
    | _ i ih =>
      intro hi
      cases hli : listed.getD i true with
      | true => rfl
      | false =>
        exfalso
        obtain ⟨o, ho⟩ : ∃ o, ops[i]? = some o := ⟨_, Array.getElem?_eq_getElem hi⟩
        have : i ∈ Region.ready .any ops listed := by
          unfold Region.ready
          rw [List.mem_filter]
          refine ⟨List.mem_range.2 (by omega), ?_⟩
          rw [ho, hli]
          simp only [Bool.not_false, Bool.true_and, Option.map_some, Option.getD_some, Array.all_eq_true_iff_forall_mem]
          intro e he
          by_cases hb : Region.binds .any e = true
          · have hlt := (plainF_at hp ho).1 e he hb
            have hz : listed.getD e.on false = true := by
              exact getD_one (by omega) (ih e.on hlt (by omega))
            rw [hz]; simp
          · simp [hb]
        rw [hr] at this
        cases this
  have fin : ∀ (listed : Array Bool) (a : Act) (w : World), listed.size = ops.size → Region.ready .any ops listed = [] → FuInv ops φ T Ψ a0 w0 listed a w → Q .normal a w := by
    intro listed a w hlz hr h
    have hall := ready_nil listed hlz hr
    have e : listed = Array.replicate ops.size true := by
      apply Array.ext
      · simp [hlz]
      · intro i h1 h2
        have := hall i (by omega)
        simp [Array.getD_eq_getD_getElem?, h1] at this
        simp [this]
    rw [e] at h
    exact hend a w h
  intro fuel
  induction fuel with
  | zero =>
    intro listed a w hl hc h
    have hr : Region.ready .any ops listed = [] := by
      unfold Region.ready
      rw [List.filter_eq_nil_iff]
      intro i hi hh
      have hf := List.eq_nil_of_length_eq_zero hc
      rw [List.filter_eq_nil_iff] at hf
      have := hf i hi
      simp only [Bool.and_eq_true] at hh
      exact this hh.1
    exact ⟨hr, fin listed a w hl hr h⟩
  | succ fuel ih =>
    intro listed a w hl hc h
    refine ⟨fun hr => fin listed a w hl hr h, fun i hi => ?_⟩
    unfold Region.ready at hi
    rw [List.mem_filter] at hi
    obtain ⟨hi, hrd⟩ := hi
    have hi := List.mem_range.1 hi
    obtain ⟨o, ho⟩ : ∃ o, ops[i]? = some o := ⟨_, Array.getElem?_eq_getElem hi⟩
    rw [ho] at hrd
    simp only [Bool.and_eq_true, Bool.not_eq_true', Option.map_some, Option.getD_some, Array.all_eq_true_iff_forall_mem] at hrd
    obtain ⟨hni, hrd⟩ := hrd
    have hrr : ∀ e ∈ o.after, Region.binds .any e = true → listed.getD e.on true = true := by
      intro e he hb
      have := hrd e he
      rw [hb] at this
      exact getD_two (by simpa using this)
    refine wpOp_step ho fun K hK => ?_
    refine hstep i o ho a w _ h.same h.st hni (fun j hj => ?_) ?_ h.defers h.size (fun d hd => ?_) (fun j hj => ?_) K (fun v w' hv hs hst => hK _ _ ?_)
    · simp only [waits, List.any_eq_true, Bool.and_eq_true, beq_iff_eq, Array.mem_toList_iff] at hj
      obtain ⟨e, he, h2, h3⟩ := hj
      rw [← h2]
      exact hrr e he h3
    · intro j k hjk hfj
      cases hoj : ops[j]? with
      | none => simp [waitsAt, hoj] at hjk
      | some oj =>
        simp only [waitsAt, hoj, Option.map_some, Option.getD_some, waits, List.any_eq_true, Bool.and_eq_true, beq_iff_eq, Array.mem_toList_iff] at hjk
        obtain ⟨e, he, h2, h3⟩ := hjk
        rw [← h2]
        exact h.down j oj e hoj hfj he h3
    · have : a.tmps[d]? = a0.tmps[d]? := by
        refine h.kept d fun j oj hoj hlj e => ?_
        have hm : oj ∈ ops.toList := by
          rw [Array.mem_toList_iff]
          exact Array.mem_of_getElem? hoj
        have := List.all_eq_true.1 hd oj hm
        simp only [e, beq_self_eq_true, Bool.not_true, Bool.false_or, waits, List.any_eq_true, Bool.and_eq_true, beq_iff_eq, Array.mem_toList_iff] at this
        obtain ⟨ed, h1, h2, h3⟩ := this
        have := h.down j oj ed hoj hlj h1 h3
        rw [h2, hni] at this
        cases this
      simp [Array.getD_eq_getD_getElem?, this]
    · simp only [waits, List.any_eq_true, Bool.and_eq_true, beq_iff_eq, Array.mem_toList_iff] at hj
      obtain ⟨e, he, h2, h3⟩ := hj
      have hlt := (plainF_at hp ho).1 e he h3
      obtain ⟨oj, hoj⟩ : ∃ oj, ops[j]? = some oj := ⟨_, Array.getElem?_eq_getElem (by omega)⟩
      cases hdj : oj.dst with
      | none => exact hany j _ _ fun o' ho' => by rw [hoj] at ho'; injection ho' with ho'; rw [← ho', hdj]
      | some d => exact h.done j oj hoj (by rw [hdj]; rfl) (by rw [← h2]; exact hrr e he h3)
    · refine ih _ _ _ (by simpa using hl) ?_ (FuInv.step hp hstab hsz hl ho hni hrr h hs hv hst)
      refine count_less (i := i) (p := fun i => !listed.getD i true) hi (by rw [hni]; rfl) (fun j => ?_) hc
      show (!(listed.setIfInBounds i true).getD j true) = _
      rw [set_getD (by omega)]
      by_cases hij : i = j
      · subst hij; simp
      · rw [if_neg hij]
        have : (j != i) = true := by simpa using fun e : j = i => hij e.symm
        rw [this, Bool.and_true]
end
/-- The frame is what the operations' slots hold, laid one after the other. -/
theorem act_putAllF {lj : List Oper} {a a0 : Act} (hd : a.defers = a0.defers) (hs : a.tmps.size = a0.tmps.size) (hne : lj.Pairwise fun x y => ∀ d, x.dst = some d → y.dst ≠ some d)
    (hot : ∀ d, (∀ o ∈ lj, o.dst ≠ some d) → a.tmps.getD d undef = a0.tmps.getD d undef) : a = putAll a0 lj (lj.map fun o => o.dst.elim undef fun d => a.tmps.getD d undef) := by
  refine act_ext (by rw [hd, putAll_defers]) (by rw [hs, putAll_size]) (fun d hdl => ?_)
  by_cases h : ∃ (j : Nat) (hj : j < lj.length), lj[j].dst = some d
  · obtain ⟨j, hj, hjd⟩ := h
    rw [putAll_at lj _ a0 j hj (by simpa using hj) hjd (fun k hk hjk hkd => ?_) (by rw [← hs]; exact hdl)]
    · simp [hjd]
    · exact List.pairwise_iff_getElem.1 hne j k hj hk hjk d hjd hkd
  · rw [putAll_other lj _ a0 (fun o ho hod => h (by
      obtain ⟨j, hj, rfl⟩ := List.mem_iff_getElem.1 ho
      exact ⟨j, hj, hod⟩))]
    exact hot d fun o ho hod => h (by
      obtain ⟨j, hj, rfl⟩ := List.mem_iff_getElem.1 ho
      exact ⟨j, hj, hod⟩)
def ssAt {T : Nat → Prop} (L : List (Option (SPT T))) (i : Nat) : SPT T := (L.getD i none).getD SPT.any
def OpDoesG (P : Program) (ops : Array Oper) {T : Nat → Prop} (L : List (Option (SPT T))) (Ψ : (Nat → Bool) → (Nat → Value) → World → Prop) (a0 : Act) (w0 : World) (Q : Exit → Act → World → Prop) (i : Nat) (o : Oper) : Prop :=
  OpDoesF P ops (fun j v w => (ssAt L j).p v w) T Ψ a0 w0 Q i o
def OpsDoG (P : Program) (ops : Array Oper) {T : Nat → Prop} (L : List (Option (SPT T))) (Ψ : (Nat → Bool) → (Nat → Value) → World → Prop) (a0 : Act) (w0 : World) (Q : Exit → Act → World → Prop) : Nat → List Oper → Prop
  | _, [] => True
  | i, o :: l => OpDoesG P ops L Ψ a0 w0 Q i o ∧ OpsDoG P ops L Ψ a0 w0 Q (i + 1) l
theorem OpsDoG.at_ {P : Program} {ops : Array Oper} {T : Nat → Prop} {L : List (Option (SPT T))} {Ψ : (Nat → Bool) → (Nat → Value) → World → Prop} {a0 : Act} {w0 : World} {Q : Exit → Act → World → Prop} : ∀ (l : List Oper) (k : Nat), OpsDoG P ops L Ψ a0 w0 Q k l → ∀ i o, l[i]? = some o → OpDoesG P ops L Ψ a0 w0 Q (k + i) o
  | [], k, _, i, o, h => by simp at h
  | p :: l, k, hd, i, o, h => by
    cases i with
    | zero => simp at h; subst h; exact hd.1
    | succ i =>
      have := OpsDoG.at_ l (k + 1) hd.2 i o (by simpa using h)
      rwa [show k + 1 + i = k + (i + 1) by omega] at this
/-- The stores' places on the list are empty. -/
def noneB {T : Nat → Prop} (l : List Oper) (L : List (Option (SPT T))) : Bool := decide (L.length ≤ l.length) && (List.range l.length).all fun i => ((l[i]?).bind (·.dst)).isSome || (L.getD i none).isNone
theorem wp_region_full_lit {P : Program} {l : List Oper} {id : Nat} {T : Nat → Prop} {L : List (Option (SPT T))} {a0 : Act} {w0 : World} {Q : Exit → Act → World → Prop} (Ψ : (Nat → Bool) → (Nat → Value) → World → Prop) (hm : P.follows .mixedOrders = true) (hB : plainF l.toArray = true) (hN : noneB l L = true)
    (hsz : (l.all fun o => (o.dst.map fun d => decide (d < a0.tmps.size)).getD true) = true) (h0 : Ψ (fun j => (Array.replicate l.length false).getD j true) (valF l.toArray a0) w0.drew) (hstep : OpsDoG P l.toArray L Ψ a0 w0 Q 0 l)
    (hA : ∀ vs w f, vs.length = l.length → (∀ j, j < l.length → (ssAt L j).p (vs.getD j undef) w) → Same T w0 w → Ψ f (fun j => vs.getD j undef) w → (∀ j, f j = true) → Q .normal (putAll a0 l vs) w) : (Code.region id l.toArray true).wp P Q a0 w0 := by
  refine wp_region_any hm ?_
  have hcount : ((List.range l.toArray.size).filter fun i => !(Array.replicate l.toArray.size false).getD i true).length = l.toArray.size := by
    have : ((List.range l.toArray.size).filter fun i => !(Array.replicate l.toArray.size false).getD i true) = List.range l.toArray.size := by
      rw [List.filter_eq_self]
      intro i hi
      have := List.mem_range.1 hi
      have hi' : i < l.length := by simpa using this
      simp [Array.getD_eq_getD_getElem?, hi']
    rw [this, List.length_range]
  have hany : ∀ i v w, (∀ o, l.toArray[i]? = some o → o.dst = none) → (ssAt L i).p v w := by
    intro i v w h
    simp only [noneB, Bool.and_eq_true, decide_eq_true_eq] at hN
    have : L.getD i none = none := by
      rcases Nat.lt_or_ge i l.length with hi | hi
      · have := List.all_eq_true.1 hN.2 i (List.mem_range.2 hi)
        have ho : l[i]? = some l[i] := List.getElem?_eq_getElem hi
        rw [ho, Option.bind_some, h l[i] (by simp)] at this
        simpa using this
      · simp [List.getD_eq_getElem?_getD, List.getElem?_eq_none (Nat.le_trans hN.1 hi)]
    unfold ssAt
    rw [this]
    trivial
  refine wpAny_full (P := P) (Q := Q) (a0 := a0) (ops := l.toArray) (w0 := w0) (φ := fun j v w => (ssAt L j).p v w) (T := T) (Ψ := Ψ) hB (fun i v w w' h hs => (ssAt L i).st v w w' h hs) (fun i o k ho hk => ?_) hany (fun i o ho => ?_) (fun a w h => ?_) l.toArray.size (Array.replicate l.toArray.size false) a0 { w0 with drawn := w0.drawn + 1 } (by simp) hcount ?_
  · have hmem : o ∈ l := by
      have : o ∈ l.toArray.toList := by rw [Array.mem_toList_iff]; exact Array.mem_of_getElem? ho
      simpa using this
    have := List.all_eq_true.1 hsz o hmem
    rw [hk] at this
    simpa using this
  · have := OpsDoG.at_ l 0 hstep i o (by simpa using ho)
    rw [Nat.zero_add] at this
    exact this
  · have hval : ∀ j, (l.map fun o => o.dst.elim undef fun d => a.tmps.getD d undef).getD j undef = valF l.toArray a j := fun j => by
      unfold valF
      rw [List.getD_eq_getElem?_getD, List.getElem?_map]
      cases hj : l[j]? with
      | none => simp [hj]
      | some o => simp [hj]
    have hall : ∀ j, (Array.replicate l.toArray.size true).getD j true = true := fun j => by
      simp only [Array.getD_eq_getD_getElem?, Array.getElem?_replicate]
      split <;> rfl
    rw [act_putAllF (a := a) (a0 := a0) (lj := l) h.defers h.size ?_ fun d hd => ?_]
    · refine hA _ w (fun j => (Array.replicate l.toArray.size true).getD j true) (by rw [List.length_map]) (fun j hj => ?_) h.same (by rw [funext hval]; exact h.st) hall
      rw [hval j]
      have ho : l.toArray[j]? = some l[j] := by simp [hj]
      cases hd : l[j].dst with
      | none => exact hany j _ _ fun o' ho' => by rw [ho] at ho'; injection ho' with ho'; rw [← ho', hd]
      | some d => exact h.done j l[j] ho (by rw [hd]; rfl) (hall j)
    · rw [List.pairwise_iff_getElem]
      intro i j hi hj hij d hdi hdj
      exact (plainF_at hB (i := j) (o := l[j]) (by simp [hj])).2 i l[i] d (by simp [hi]) (by omega) hdi hdj
    · have : a.tmps[d]? = a0.tmps[d]? := h.kept d fun j o ho _ => hd o (by
        have : o ∈ l.toArray.toList := by rw [Array.mem_toList_iff]; exact Array.mem_of_getElem? ho
        simpa using this)
      simp [Array.getD_eq_getD_getElem?, this]
  · refine ⟨rfl, rfl, (Same.refl _ _).drew, by simpa using h0, fun _ _ => rfl, fun j o ho _ h => ?_, fun j o e ho h => ?_⟩
    · have hj := (Array.getElem?_eq_some_iff.1 ho).1
      have hj : j < l.length := by simpa using hj
      simp [Array.getD_eq_getD_getElem?, hj] at h
    · have hj := (Array.getElem?_eq_some_iff.1 ho).1
      have hj : j < l.length := by simpa using hj
      simp [Array.getD_eq_getD_getElem?, hj] at h
end Go.Proofs.YtdfojghhpdkpfaaGreatDoor
