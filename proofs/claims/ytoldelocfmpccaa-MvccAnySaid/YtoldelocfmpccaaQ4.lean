/-
  The words, plain models and short walks of mvcc that the claims share (written by bundle.py out of: MvN, MvU, MvC, MvD, MvE, MvF2, MvQ, MvP, MvV, MvX, MvY, MvL, MvS1, MvZ). No condition.
-/
import Derived.Test.YtoldelocfmpccaaMvTH
import Derived.Lib.AppendZerosOnto
import Derived.Lib.Overlaps
import Derived.Deep.RegionLaw
set_option linter.unusedSimpArgs false
set_option linter.unusedVariables false
namespace Go.Proofs.Ytoldelocfmpccaa
open Go.RowKit

/-- Is the cell locked by the attempt? -/
def mineB (c : Cel) (b : TryT) : Bool := c.locked && (c.lock.by_ == b)
theorem try_eq (x y : TryT) : (x == y) = (decide (x.node = y.node) && decide (x.life = y.life) && decide (x.seq = y.seq) && decide (x.attempt = y.attempt)) := by
  rw [Bool.eq_iff_iff]
  cases x; cases y
  simp [and_assoc]
set_option maxHeartbeats 1000000 in
theorem mine1_any (u : Value) (c : Cel) (b : TryT) (p : Nat) (w : World) (hp : Row w p 26 (tryCs b)) :
    Calls Try.prog 64 #[celV u c, .pointer (some ⟨p, 0, none⟩)] w fun e w' => e = .returned (.bool (mineB c b)) ∧ Same (fun _ => True) w w' := by
  have hp1 := hp.keep ((Same.refl (fun _ => True) w).alloc (.cells #[.string (str c.key), u, .bool c.locked, .int .i64 c.lock.by_.node, .int .i64 c.lock.by_.life, .int .i64 c.lock.by_.seq, .int .i64 c.lock.by_.attempt, .int .i64 c.lock.home, .int .i64 c.lock.at_.wall, .int .i64 c.lock.at_.tie, .bool c.lock.drop, .string (str c.lock.data)] 64)) trivial
  have p0 : (w.alloc (.cells #[.string (str c.key), u, .bool c.locked, .int .i64 c.lock.by_.node, .int .i64 c.lock.by_.life, .int .i64 c.lock.by_.seq, .int .i64 c.lock.by_.attempt, .int .i64 c.lock.home, .int .i64 c.lock.at_.wall, .int .i64 c.lock.at_.tie, .bool c.lock.drop, .string (str c.lock.data)] 64)).cell? ⟨p, 0, none⟩ = some (.int .i64 b.node) := hp1.cell 0
  have p1 : (w.alloc (.cells #[.string (str c.key), u, .bool c.locked, .int .i64 c.lock.by_.node, .int .i64 c.lock.by_.life, .int .i64 c.lock.by_.seq, .int .i64 c.lock.by_.attempt, .int .i64 c.lock.home, .int .i64 c.lock.at_.wall, .int .i64 c.lock.at_.tie, .bool c.lock.drop, .string (str c.lock.data)] 64)).cell? ⟨p, 1, none⟩ = some (.int .i64 b.life) := hp1.cell 1
  have p2 : (w.alloc (.cells #[.string (str c.key), u, .bool c.locked, .int .i64 c.lock.by_.node, .int .i64 c.lock.by_.life, .int .i64 c.lock.by_.seq, .int .i64 c.lock.by_.attempt, .int .i64 c.lock.home, .int .i64 c.lock.at_.wall, .int .i64 c.lock.at_.tie, .bool c.lock.drop, .string (str c.lock.data)] 64)).cell? ⟨p, 2, none⟩ = some (.int .i64 b.seq) := hp1.cell 2
  have p3 : (w.alloc (.cells #[.string (str c.key), u, .bool c.locked, .int .i64 c.lock.by_.node, .int .i64 c.lock.by_.life, .int .i64 c.lock.by_.seq, .int .i64 c.lock.by_.attempt, .int .i64 c.lock.home, .int .i64 c.lock.at_.wall, .int .i64 c.lock.at_.tie, .bool c.lock.drop, .string (str c.lock.data)] 64)).cell? ⟨p, 3, none⟩ = some (.int .i64 b.attempt) := hp1.cell 3
  have K : mineB c b = (c.locked && (c.lock.by_ == b)) := rfl
  rw [K]
  clear hp hp1 K
  cases hl : c.locked <;> rw [hl] at p0 p1 p2 p3
  · go_enter Try.func64, Try.ntmps64
    go_wp2
    go_ret
    exact ⟨rfl, (Same.refl _ _).alloc _⟩
  · go_enter Try.func64, Try.ntmps64
    go_wp2
    all_goals go_ret
    all_goals first
      | exact ⟨by rw [show (true && c.lock.by_ == b) = true from by simp [try_eq, *]]; rfl, (Same.refl _ _).alloc _⟩
      | exact ⟨by rw [show (true && c.lock.by_ == b) = false from by simp [try_eq, *]]; rfl, (Same.refl _ _).alloc _⟩
/-- Where the first such cell is. -/
def mineAt (b : TryT) : List Cel → Nat
  | [] => 0
  | c :: l => if mineB c b then 0 else mineAt b l + 1
def mineF (cs : List Cel) (b : TryT) : Bool := cs.any fun c => mineB c b
theorem mineAt_lt (b : TryT) : ∀ l : List Cel, mineF l b = decide (mineAt b l < l.length)
  | [] => rfl
  | c :: l => by
    have h := mineAt_lt b l
    unfold mineF at h ⊢
    rw [List.any_cons, h]
    simp only [mineAt]
    by_cases hm : mineB c b = true <;> simp [hm]
def idxF (cs : List Cel) (b : TryT) : Int := if mineF cs b then (mineAt b cs : Int) else -1
theorem mineAt_all {b : TryT} : ∀ {l : List Cel}, (∀ k (h : k < l.length), mineB l[k] b = false) → mineAt b l = l.length
  | [], _ => rfl
  | c :: l, h => by
    unfold mineAt
    rw [show mineB c b = false from h 0 (by simp), mineAt_all fun k hk => h (k + 1) (by simpa using hk)]
    rfl
theorem mineAt_at {b : TryT} : ∀ {l : List Cel} {k : Nat} (hk : k < l.length), (∀ j (h : j < l.length), j < k → mineB l[j] b = false) → mineB l[k] b = true → mineAt b l = k
  | c :: l, 0, _, _, h => by
    unfold mineAt
    rw [show mineB c b = true from h]
    rfl
  | c :: l, k + 1, hk, h, h2 => by
    unfold mineAt
    rw [show mineB c b = false from h 0 (by simp) (by omega), mineAt_at (k := k) (by simpa using hk) (fun j hj hjk => h (j + 1) (by simpa using hj) (by omega)) h2]
    rfl
set_option maxHeartbeats 1000000 in
theorem mineidx_any (v : Value) (cs : List Cel) (b : TryT) (p : Nat) (S : Nat → Prop) (w : World) (hv : CelR w S v cs) (hp : Row w p 26 (tryCs b)) (hn : cs.length ≤ 1000000) :
    Calls Try.prog 91 #[v, .func (.func 64) #[] #[.pointer (some ⟨p, 0, none⟩)]] w
      fun e w' => e = .returned (.int .i64 (idxF cs b)) ∧ Same (fun _ => True) w w' := by
  obtain ⟨A, cp, rfl, hc, hm⟩ := hv.form
  have Hv := Lib.hid hv
  have Hp := Lib.hid hp
  unfold maxLen at hm
  clear hv hp
  go_enter Try.func91, Try.ntmps91
  go_wp2
  go_loopw [5, 8] (fun _ i wr => ∃ k : Nat, i = .int .i64 k ∧ k ≤ cs.length ∧ (∀ j (h : j < cs.length), j < k → mineB cs[j] b = false) ∧ Same (fun _ => True) w wr) (fun _ i _ => cs.length - (intOf i).toNat)
  case atStart => exact ⟨0, rfl, Nat.zero_le _, fun j _ h => absurd h (Nat.not_lt_zero _), Same.refl _ _⟩
  case round =>
    obtain ⟨k, rfl, hk, hno, hS⟩ := hrel
    have HS := Lib.hid hS
    have Hno := Lib.hid hno
    clear hno
    by_cases hlt : k < cs.length
    · obtain ⟨ad, u, rfl, -, -, c0, c1, c2, c3, c4, c5, c6, c7, c8, c9, c10, c11⟩ := CelR.cells12 (Hv.out.keepAll hS) hlt
      have x1 : (0 : Int) ≤ (k : Int) := by omega
      have x2 : (k : Int) < (cs.length : Int) := by omega
      have g := mine1_any u cs[k] b p wr (Hp.out.keep hS trivial)
      have hat := @mineAt_at b cs k hlt Hno.out
      have Hat := Lib.hid hat
      have hml := mineAt_lt b cs
      have Hml := Lib.hid hml
      have hstep : mineB cs[k] b = false → ∀ j (h : j < cs.length), j < k + 1 → mineB cs[j] b = false := by
        intro h0 j h hj
        by_cases e : j = k
        · subst e; exact h0
        · exact Hno.out j h (by omega)
      have Hstep := Lib.hid hstep
      clear hat hS hml hstep
      cases hb : mineB cs[k] b
      · rw [hb] at g
        have Hb := Lib.hid hb
        clear hb
        go_wp2_with (go_at_call 64; refine g.mono ?_; rintro e w3 ⟨rfl, hS3⟩)
        go_roundw
        case rel => exact ⟨k + 1, by go_num, by omega, Hstep.out Hb.out, HS.out.trans hS3⟩
        case measure => simp [intOf]; omega
      · rw [hb] at g
        have Hb := Lib.hid hb
        clear hb
        go_wp2_with (go_at_call 64; refine g.mono ?_; rintro e w3 ⟨rfl, hS3⟩)
        go_ret
        refine ⟨?_, HS.out.trans hS3⟩
        rw [show idxF cs b = (k : Int) from by unfold idxF; rw [Hml.out, Hat.out Hb.out]; simp [hlt]]
        rfl
    · have hall := mineAt_all (b := b) (l := cs) fun j h => Hno.out j h (by omega)
      have hml := mineAt_lt b cs
      rw [hall] at hml
      have Hml := Lib.hid hml
      clear hS hall hml
      go_wp2
      go_ret
      refine ⟨?_, HS.out⟩
      rw [show idxF cs b = -1 from by unfold idxF; rw [Hml.out]; simp]
      rfl
set_option maxHeartbeats 1000000 in
theorem minehas_any (v : Value) (cs : List Cel) (b : TryT) (p : Nat) (S : Nat → Prop) (w : World) (hv : CelR w S v cs) (hp : Row w p 26 (tryCs b)) (hn : cs.length ≤ 1000000) :
    Calls Try.prog 63 #[v, .func (.func 64) #[] #[.pointer (some ⟨p, 0, none⟩)]] w
      fun e w' => e = .returned (.bool (mineF cs b)) ∧ Same (fun _ => True) w w' := by
  have g := mineidx_any v cs b p S w hv hp hn
  obtain ⟨A, cp, rfl, hc, hm⟩ := hv.form
  clear hv hp
  unfold idxF at g
  cases hb : mineF cs b <;> rw [hb] at g
  · rw [if_neg (by simp)] at g
    go_enter Try.func63, Try.ntmps63
    go_wp2_with (go_at_call 91; refine g.mono ?_; rintro e w3 ⟨rfl, hS3⟩)
    go_ret
    exact ⟨rfl, hS3⟩
  · rw [if_pos rfl] at g
    have x0 : (0 : Int) ≤ (mineAt b cs : Int) := by omega
    go_enter Try.func63, Try.ntmps63
    go_wp2_with (go_at_call 91; refine g.mono ?_; rintro e w3 ⟨rfl, hS3⟩)
    go_ret
    exact ⟨rfl, hS3⟩
set_option maxHeartbeats 1000000 in
theorem mvmine_any (v : Value) (cs : List Cel) (b : TryT) (S : Nat → Prop) (w : World) (hv : CelR w S v cs) (hn : cs.length ≤ 1000000) :
    Calls Try.prog 24 #[v, tryV b] w fun e w' => e = .returned (.bool (mineF cs b)) ∧ Same (fun _ => True) w w' := by
  have hmf : ∀ (fn : Fn) (first cap : Array Value) (w : World), (Instr.makeFunc fn first cap).run Try.prog w = .ok (.func fn first cap) w := fun _ _ _ _ => rfl
  have g := minehas_any v cs b w.heap.size S (w.alloc (.cells (tryCs b).toArray 26)) (hv.keepAll ((Same.refl _ _).alloc _)) (Row.new w 26 (tryCs b)) hn
  obtain ⟨A, cp, rfl, hc, hm⟩ := hv.form
  clear hv
  go_enter Try.func24, Try.ntmps24
  go_wp2_with (go_at_call 63; refine g.mono ?_; rintro e w3 ⟨rfl, hS3⟩)
  go_ret
  exact ⟨rfl, ((Same.refl _ _).alloc _).trans hS3⟩
end Go.Proofs.Ytoldelocfmpccaa
set_option linter.unusedSimpArgs false
set_option linter.unusedVariables false
namespace Go.Proofs.Ytoldelocfmpccaa
open Go.RowKit

theorem try_cases (x y : TryT) : x = y ∨ (x == y) = false ∧ (x.node ≠ y.node ∨ x.node = y.node ∧ x.life ≠ y.life ∨ x.node = y.node ∧ x.life = y.life ∧ x.seq ≠ y.seq ∨ x.node = y.node ∧ x.life = y.life ∧ x.seq = y.seq ∧ x.attempt ≠ y.attempt) := by
  rw [try_eq]
  by_cases h1 : x.node = y.node <;> by_cases h2 : x.life = y.life <;> by_cases h3 : x.seq = y.seq <;> by_cases h4 : x.attempt = y.attempt <;> simp [h1, h2, h3, h4]
  cases x; cases y; simp_all
/-- What the document's loop holds. -/
def RMineRel (b : TryT) (cs : List Cel) (k p : Nat) (w wr : World) : Prop :=
  k ≤ cs.length ∧ (∀ j (h : j < cs.length), j < k → mineB cs[j] b = false) ∧ Row wr p 26 (tryCs b) ∧ Same (fun _ => True) w wr
theorem mineF_all {b : TryT} {cs : List Cel} (h : ∀ j (h : j < cs.length), mineB cs[j] b = false) : mineF cs b = false := by
  rw [mineAt_lt, mineAt_all h]
  simp
theorem mineF_at {b : TryT} {cs : List Cel} {k : Nat} (hk : k < cs.length) (h : mineB cs[k] b = true) : mineF cs b = true :=
  List.any_eq_true.2 ⟨_, List.getElem_mem hk, h⟩
set_option maxHeartbeats 2000000 in
theorem refmine_any (v : Value) (cs : List Cel) (b : TryT) (S : Nat → Prop) (w : World) (hv : CelR w S v cs) :
    Calls Try.prog 56 #[v, tryV b] w fun e w' => e = .returned (.bool (mineF cs b)) ∧ Same (fun _ => True) w w' := by
  obtain ⟨A, cp, rfl, hc, hm⟩ := hv.form
  have Hv := Lib.hid hv
  unfold maxLen at hm
  have hrel0 : RMineRel b cs 0 w.heap.size w (w.alloc (.cells (tryCs b).toArray 26)) :=
    ⟨Nat.zero_le _, fun j _ h => absurd h (Nat.not_lt_zero _), Row.new _ _ _, (Same.refl _ _).alloc _⟩
  have Hrel0 := Lib.hid hrel0
  clear hv hrel0
  go_enter Try.func56, Try.ntmps56
  go_wp2
  go_loopw [5] (fun i wr => ∃ k : Nat, i = .int .i64 k ∧ RMineRel b cs k w.heap.size w wr) (fun i _ => cs.length - (intOf i).toNat)
  case atStart => exact ⟨0, rfl, Hrel0.out⟩
  case round =>
    obtain ⟨k, rfl, hk, hno, hp, hS⟩ := hrel
    have HS := Lib.hid hS
    have Hno := Lib.hid hno
    have Hp := Lib.hid hp
    have p0 : wr.cell? ⟨w.heap.size, 0, none⟩ = some (.int .i64 b.node) := hp.cell 0
    have p1 : wr.cell? ⟨w.heap.size, 1, none⟩ = some (.int .i64 b.life) := hp.cell 1
    have p2 : wr.cell? ⟨w.heap.size, 2, none⟩ = some (.int .i64 b.seq) := hp.cell 2
    have p3 : wr.cell? ⟨w.heap.size, 3, none⟩ = some (.int .i64 b.attempt) := hp.cell 3
    clear hno hp
    by_cases hlt : k < cs.length
    · obtain ⟨ad, u, rfl, -, -, c0, c1, c2, c3, c4, c5, c6, -, -, -, -, -⟩ := CelR.cells12 (Hv.out.keepAll hS) hlt
      have x1 : (0 : Int) ≤ (k : Int) := by omega
      have x2 : (k : Int) < (cs.length : Int) := by omega
      have hat := @mineF_at b cs k hlt
      have hstep : mineB cs[k] b = false → ∀ j (h : j < cs.length), j < k + 1 → mineB cs[j] b = false := by
        intro h0 j h hj
        by_cases e : j = k
        · subst e; exact h0
        · exact Hno.out j h (by omega)
      have hmb : mineB cs[k] b = (cs[k].locked && (cs[k].lock.by_ == b)) := rfl
      clear hS c0 c1
      generalize mineB cs[k] b = mb at *
      generalize cs[k] = c at *
      have Hat := Lib.hid hat
      have Hstep := Lib.hid hstep
      clear hat hstep
      cases hl : c.locked
      · rw [hl] at c2
        have Hmb := Lib.hid (show mb = false by rw [hmb, hl]; rfl)
        clear hl hmb
        go_wp2_with (go_quiet (fail))
        go_roundw
        case rel => exact ⟨k + 1, by go_num, by omega, Hstep.out Hmb.out, Hp.out.keep ((Same.refl (fun _ => True) _).drewN _) trivial, HS.out.drewN _⟩
        case measure => simp [intOf]; omega
      · rw [hl] at c2
        rcases try_cases c.lock.by_ b with he | ⟨he, h | ⟨h1, h⟩ | ⟨h1, h2, h⟩ | ⟨h1, h2, h3, h⟩⟩
        · rw [he] at c3 c4 c5 c6
          have Hmb := Lib.hid (show mb = true by rw [hmb, hl, he]; simp)
          clear hl hmb he
          go_wp2_with (go_quiet (fail))
          go_ret
          exact ⟨by rw [Hat.out Hmb.out]; rfl, HS.out.drewN _⟩
        · have Hmb := Lib.hid (show mb = false by rw [hmb, hl, he]; rfl)
          clear hl hmb he
          go_wp2_with (go_quiet (fail))
          go_roundw
          case rel => exact ⟨k + 1, by go_num, by omega, Hstep.out Hmb.out, Hp.out.keep ((Same.refl (fun _ => True) _).drewN _) trivial, HS.out.drewN _⟩
          case measure => simp [intOf]; omega
        · have Hmb := Lib.hid (show mb = false by rw [hmb, hl, he]; rfl)
          rw [h1] at c3
          clear hl hmb he
          go_wp2_with (go_quiet (fail))
          go_roundw
          case rel => exact ⟨k + 1, by go_num, by omega, Hstep.out Hmb.out, Hp.out.keep ((Same.refl (fun _ => True) _).drewN _) trivial, HS.out.drewN _⟩
          case measure => simp [intOf]; omega
        · have Hmb := Lib.hid (show mb = false by rw [hmb, hl, he]; rfl)
          rw [h1] at c3
          rw [h2] at c4
          clear hl hmb he
          go_wp2_with (go_quiet (fail))
          go_roundw
          case rel => exact ⟨k + 1, by go_num, by omega, Hstep.out Hmb.out, Hp.out.keep ((Same.refl (fun _ => True) _).drewN _) trivial, HS.out.drewN _⟩
          case measure => simp [intOf]; omega
        · have Hmb := Lib.hid (show mb = false by rw [hmb, hl, he]; rfl)
          rw [h1] at c3
          rw [h2] at c4
          rw [h3] at c5
          clear hl hmb he
          go_wp2_with (go_quiet (fail))
          go_roundw
          case rel => exact ⟨k + 1, by go_num, by omega, Hstep.out Hmb.out, Hp.out.keep ((Same.refl (fun _ => True) _).drewN _) trivial, HS.out.drewN _⟩
          case measure => simp [intOf]; omega
    · have hall := mineF_all (b := b) (cs := cs) fun j h => Hno.out j h (by omega)
      have Hall := Lib.hid hall
      clear hS hall p0 p1 p2 p3
      go_wp2
      go_ret
      exact ⟨by rw [Hall.out]; rfl, HS.out⟩
end Go.Proofs.Ytoldelocfmpccaa
set_option linter.unusedSimpArgs false
set_option linter.unusedVariables false
namespace Go.Proofs.Ytoldelocfmpccaa
open Go.RowKit

/-- A slice of structs that reads as l, in an unfrozen block of the element's type. -/
def RowW {α : Type} (f : α → List Value) (n : Nat) (e : TypeId) (w : World) (S : Nat → Prop) (v : Value) (l : List α) : Prop :=
  ∃ A c, v = .slice A l.length c ∧ l.length ≤ c ∧ c ≤ maxLen ∧ (0 < l.length → ∃ g o cur, A = some ⟨g, o, none⟩ ∧ S g ∧ w.heap[g]? = some (.cells cur e (0, 0)) ∧ ∀ j u, (l.flatMap f)[j]? = some u → cur[o + j]? = some u)
section
variable {α : Type} {f : α → List Value} {n : Nat} {e : TypeId} {w w' : World} {S S' : Nat → Prop} {v : Value} {l : List α}
theorem RowW.keep (h : RowW f n e w S v l) (hs : Same S w w') : RowW f n e w' S v l := by
  obtain ⟨A, c, h1, h2, h3, h4⟩ := h
  refine ⟨A, c, h1, h2, h3, fun h0 => ?_⟩
  obtain ⟨g, o, cur, e1, e2, e3, e4⟩ := h4 h0
  exact ⟨g, o, cur, e1, e2, by rw [hs.block g (Array.getElem?_eq_some_iff.1 e3).1 e2]; exact e3, e4⟩
theorem RowW.mono (h : RowW f n e w S v l) (hS : ∀ k, k < w.heap.size → S k → S' k) : RowW f n e w S' v l := by
  obtain ⟨A, c, h1, h2, h3, h4⟩ := h
  refine ⟨A, c, h1, h2, h3, fun h0 => ?_⟩
  obtain ⟨g, o, cur, e1, e2, e3, e4⟩ := h4 h0
  exact ⟨g, o, cur, e1, hS g (Array.getElem?_eq_some_iff.1 e3).1 e2, e3, e4⟩
theorem RowW.keepAll (h : RowW f n e w S v l) (hs : Same (fun _ => True) w w') : RowW f n e w' S v l := h.keep (hs.mono fun _ _ _ => trivial)
theorem add_none (g o j : Nat) : (⟨g, o, none⟩ : Addr).add j = ⟨g, o + j, none⟩ := by
  by_cases h : j = 0
  · subst h; rw [add_zero]; rfl
  · rw [addr_add _ j (by omega)]
theorem RowW.row (h : RowW f n e w S v l) (hf : ∀ x, (f x).length = n) : RowR f n w S v l := by
  obtain ⟨A, c, h1, h2, h3, h4⟩ := h
  refine ⟨A, c, h1, h2, h3, flat_len f n hf l, fun h0 => ?_⟩
  obtain ⟨g, o, cur, e1, e2, e3, e4⟩ := h4 h0
  refine ⟨_, e1, e2, fun j u hu => ?_⟩
  rw [add_none, cell_of_row w g (o + j) _ e (0, 0) e3]
  exact e4 j u hu
theorem OwnR.wr {B : Nat} (h : OwnR f n e w B v l) : RowW f n e w (fun k => B ≤ k) v l := by
  rcases h.2 with ⟨rfl, h0⟩ | ⟨g, cap, cur, rfl, hB, hg, h1, h2, h3, h4⟩
  · exact ⟨none, 0, by rw [h0], by omega, by simp [maxLen], fun hp => by omega⟩
  · refine ⟨_, _, rfl, h1, h2, fun _ => ⟨g, 0, cur, rfl, hB, hg, fun j u hu => ?_⟩⟩
    rw [← h4, List.getElem?_take] at hu
    split at hu
    · rw [Nat.zero_add, ← hu]; simp
    · cases hu
theorem OwnR.empty (f : α → List Value) (n : Nat) (e : TypeId) (w : World) : OwnR f n e (w.alloc (.cells #[] e)) w.heap.size (.slice (some ⟨w.heap.size, 0, none⟩) 0 0) [] :=
  ⟨by simp, .inr ⟨w.heap.size, 0, #[], rfl, Nat.le_refl _, Row.new w e [], by simp, by simp [maxLen], by simp, by simp⟩⟩
theorem OwnR.lower {B B' : Nat} (h : OwnR f n e w B v l) (hb : B' ≤ B) : OwnR f n e w B' v l := own_lower h hb
/-- A row behind a row that the call owns. -/
theorem wpList_appR {P : Program} {t : TypeId} {bytes : Nat} {z : Value} (T : SlT P t e n bytes z) (hf : ∀ x, (f x).length = n) (h1 : ∀ x, ∀ u ∈ f x, u.oneCell' = true) {ops : Array Oper} {rest : List Oper} {o : Oper} {a : Act} {Q : Exit → Act → World → Prop} (hgd : o.guard = none) (s x : Operand)
    (ho : o.op = .call { callee := .builtin .append, args := #[s, x], argTypes := #[t, t] }) {B : Nat} {l2 : List α} {x' : Value}
    (hs : a.eval s = v) (hx : a.eval x = x') (hr : RowR f n w S x' l2) (hown : OwnR f n e w B v l) (hB : B ≤ w.heap.size) (hlen : l.length + l2.length ≤ maxLen) (hbytes : (l.length + l2.length) * bytes ≤ 140737488355328)
    (hK : ∀ v' w', OwnR f n e w' B v' (l ++ l2) → Same (fun k => some k ≠ v.ownBlock) w w' → wpList P ops Q rest (a.put o.dst v') w') : wpList P ops Q (o :: rest) a w := by
  obtain ⟨A, c, rfl, h2, h3, h4⟩ := hr
  refine wpList_app T _ hgd s x ho B v l.length (l.flatMap f) hs hown S A l2.length c (l2.flatMap f) hx h4 (fun u hu => ?_) hlen hbytes hB ?_
  · obtain ⟨x, _, hx⟩ := List.mem_flatMap.1 hu
    exact h1 x u hx
  intro v' w' k1 k2 k3
  refine hK v' w' ?_ k2
  unfold OwnR
  rw [List.length_append, List.flatMap_append]
  exact k1
end
theorem verCs_one (p : Ver) : ∀ u ∈ verCs p, u.oneCell' = true := by
  intro u hu
  simp only [verCs, List.mem_cons, List.not_mem_nil, or_false] at hu
  rcases hu with rfl | rfl | rfl | rfl <;> rfl
theorem TVer : SlT Try.prog 62 69 4 40 (.agg #[.int .i64 0, .int .i64 0, .bool false, .string ⟨#[]⟩]) := ⟨by kernel_rfl, by kernel_rfl, rfl, by omega⟩
abbrev OwnV (w : World) (B : Nat) (v : Value) (l : List Ver) : Prop := OwnR verCs 4 69 w B v l
def CloneP (l : List Ver) (w : World) (e : Ending) (w' : World) : Prop := ∃ v, e = .returned v ∧ OwnV w' w.heap.size v l ∧ Same (fun _ => True) w w'
set_option maxHeartbeats 1000000 in
theorem clone_any (v : Value) (l : List Ver) (S : Nat → Prop) (w : World) (hv : VerR w S v l) (hn : l.length ≤ 1000000) :
    Calls Try.prog 92 #[v] w (CloneP l w) := by
  obtain ⟨A, cp, rfl, hc, hm⟩ := hv.form
  unfold maxLen at hm
  have qN : ∀ (w : World) (a : Option Addr) (n c : Nat), (binOp .eql 62 (.slice a n c) (.slice none 0 0)).run Try.prog w = .ok (.bool a.isNone) w := fun w a n c => Lib.run_eql_slice_nil w _ _ a n c 0 0 TVer.und
  cases A with
  | none =>
    have h0 : l = [] := by
      rcases l with _ | ⟨x, l⟩
      · rfl
      · obtain ⟨ad, c, h, _⟩ := RowR.at_ hv verCs_len (i := 0) (by simp)
        cases h
    subst h0
    clear hv
    go_enter Try.func92, Try.ntmps92
    go_wp2
    go_ret
    exact ⟨_, rfl, OwnR.nil _ _, Same.refl _ _⟩
  | some ad =>
    have Hv := Lib.hid hv
    clear hv
    go_enter Try.func92, Try.ntmps92
    go_wp2_with (at_builtin; refine stopAt ?_)
    unfold Hid
    refine wpList_appR TVer verCs_len verCs_one rfl (.tmp 5) (.tmp 6) rfl rfl rfl (Hv.out.keepAll ((Same.refl _ _).alloc _)) (OwnR.empty verCs 4 _ w) (by rw [World.size_alloc]; omega) (by simp only [maxLen, List.length_nil]; omega) (by simp only [List.length_nil]; omega) ?_
    intro v' w' hown hS
    have Hown := Lib.hid hown
    have HS := Lib.hid hS
    clear hown hS
    go_wp2
    go_ret
    refine ⟨_, rfl, by simpa using Hown.out, ((Same.refl (fun _ => True) _).alloc _).trans' HS.out fun k hk _ e => ?_⟩
    injection (show some k = some w.heap.size from e) with e
    omega
end Go.Proofs.Ytoldelocfmpccaa
set_option linter.unusedSimpArgs false
set_option linter.unusedVariables false
namespace Go.Proofs.Ytoldelocfmpccaa
open Go.RowKit

theorem cel_set12 {S : Nat → Prop} {w wr : World} {g : Nat} {a0 a1 a2 a3 a4 a5 a6 a7 a8 a9 a10 a11 b0 b1 b2 b3 b4 b5 b6 b7 b8 b9 b10 b11 : Value} (hg : g < w.heap.size → ¬ S g) (HR : Row wr g 64 [a0, a1, a2, a3, a4, a5, a6, a7, a8, a9, a10, a11]) (HS : Same S w wr) :
    Row ((((((((((((wr.setCell ⟨g, 0, none⟩ b0).setCell ⟨g, 1, none⟩ b1).setCell ⟨g, 2, none⟩ b2).setCell ⟨g, 3, none⟩ b3).setCell ⟨g, 4, none⟩ b4).setCell ⟨g, 5, none⟩ b5).setCell ⟨g, 6, none⟩ b6).setCell ⟨g, 7, none⟩ b7).setCell ⟨g, 8, none⟩ b8).setCell ⟨g, 9, none⟩ b9).setCell ⟨g, 10, none⟩ b10).setCell ⟨g, 11, none⟩ b11) g 64 [b0, b1, b2, b3, b4, b5, b6, b7, b8, b9, b10, b11] ∧ Same S w ((((((((((((wr.setCell ⟨g, 0, none⟩ b0).setCell ⟨g, 1, none⟩ b1).setCell ⟨g, 2, none⟩ b2).setCell ⟨g, 3, none⟩ b3).setCell ⟨g, 4, none⟩ b4).setCell ⟨g, 5, none⟩ b5).setCell ⟨g, 6, none⟩ b6).setCell ⟨g, 7, none⟩ b7).setCell ⟨g, 8, none⟩ b8).setCell ⟨g, 9, none⟩ b9).setCell ⟨g, 10, none⟩ b10).setCell ⟨g, 11, none⟩ b11) :=
  ⟨((((((((((((HR.set_ 0 b0).set_ 1 b1).set_ 2 b2).set_ 3 b3).set_ 4 b4).set_ 5 b5).set_ 6 b6).set_ 7 b7).set_ 8 b8).set_ 9 b9).set_ 10 b10).set_ 11 b11), ((((((((((((HS.setCell hg _).setCell hg _).setCell hg _).setCell hg _).setCell hg _).setCell hg _).setCell hg _).setCell hg _).setCell hg _).setCell hg _).setCell hg _).setCell hg _)⟩
theorem cel_cells {w : World} {g : Nat} {a0 a1 a2 a3 a4 a5 a6 a7 a8 a9 a10 a11 : Value} (h : Row w g 64 [a0, a1, a2, a3, a4, a5, a6, a7, a8, a9, a10, a11]) : w.cell? ⟨g, 0, none⟩ = some a0 ∧ w.cell? ⟨g, 1, none⟩ = some a1 ∧ w.cell? ⟨g, 2, none⟩ = some a2 ∧ w.cell? ⟨g, 3, none⟩ = some a3 ∧ w.cell? ⟨g, 4, none⟩ = some a4 ∧ w.cell? ⟨g, 5, none⟩ = some a5 ∧ w.cell? ⟨g, 6, none⟩ = some a6 ∧ w.cell? ⟨g, 7, none⟩ = some a7 ∧ w.cell? ⟨g, 8, none⟩ = some a8 ∧ w.cell? ⟨g, 9, none⟩ = some a9 ∧ w.cell? ⟨g, 10, none⟩ = some a10 ∧ w.cell? ⟨g, 11, none⟩ = some a11 ∧ w.frozen? ⟨g, 0, none⟩ = false ∧ w.frozen? ⟨g, 1, none⟩ = false ∧ w.frozen? ⟨g, 2, none⟩ = false ∧ w.frozen? ⟨g, 3, none⟩ = false ∧ w.frozen? ⟨g, 4, none⟩ = false ∧ w.frozen? ⟨g, 5, none⟩ = false ∧ w.frozen? ⟨g, 6, none⟩ = false ∧ w.frozen? ⟨g, 7, none⟩ = false ∧ w.frozen? ⟨g, 8, none⟩ = false ∧ w.frozen? ⟨g, 9, none⟩ = false ∧ w.frozen? ⟨g, 10, none⟩ = false ∧ w.frozen? ⟨g, 11, none⟩ = false :=
  ⟨h.cell 0, h.cell 1, h.cell 2, h.cell 3, h.cell 4, h.cell 5, h.cell 6, h.cell 7, h.cell 8, h.cell 9, h.cell 10, h.cell 11, h.frozen 0, h.frozen 1, h.frozen 2, h.frozen 3, h.frozen 4, h.frozen 5, h.frozen 6, h.frozen 7, h.frozen 8, h.frozen 9, h.frozen 10, h.frozen 11⟩
theorem own_results {W : World} {k : Nat} {u : Value} {c : Cel} (R : Row W k 64 (celCs (u, c))) {tmps : Array Value}
    (h2 : tmps.getD 2 undef = .pointer (some ⟨k, 0, none⟩)) :
    (results Try.f65 tmps).run Try.prog W = .ok (celV u c) W := by
  have d0 : W.cell? ⟨k, 0, none⟩ = some (.string (str c.key)) := R.cell 0
  have d1 : W.cell? ⟨k, 1, none⟩ = some (u) := R.cell 1
  have d2 : W.cell? ⟨k, 2, none⟩ = some (.bool c.locked) := R.cell 2
  have d3 : W.cell? ⟨k, 3, none⟩ = some (.int .i64 c.lock.by_.node) := R.cell 3
  have d4 : W.cell? ⟨k, 4, none⟩ = some (.int .i64 c.lock.by_.life) := R.cell 4
  have d5 : W.cell? ⟨k, 5, none⟩ = some (.int .i64 c.lock.by_.seq) := R.cell 5
  have d6 : W.cell? ⟨k, 6, none⟩ = some (.int .i64 c.lock.by_.attempt) := R.cell 6
  have d7 : W.cell? ⟨k, 7, none⟩ = some (.int .i64 c.lock.home) := R.cell 7
  have d8 : W.cell? ⟨k, 8, none⟩ = some (.int .i64 c.lock.at_.wall) := R.cell 8
  have d9 : W.cell? ⟨k, 9, none⟩ = some (.int .i64 c.lock.at_.tie) := R.cell 9
  have d10 : W.cell? ⟨k, 10, none⟩ = some (.bool c.lock.drop) := R.cell 10
  have d11 : W.cell? ⟨k, 11, none⟩ = some (.string (str c.lock.data)) := R.cell 11
  simp at h2
  simp [results, Try.results65, h2, go_sem, d0, d1, d2, d3, d4, d5, d6, d7, d8, d9, d10, d11]
def OwnCP (c : Cel) (w : World) (e : Ending) (w' : World) : Prop := ∃ u, e = .returned (celV u c) ∧ OwnV w' w.heap.size u c.vers ∧ Same (fun _ => True) w w'
set_option maxHeartbeats 1000000 in
theorem own_any (u : Value) (c : Cel) (S : Nat → Prop) (w : World) (hv : VerR w S u c.vers) (hn : c.vers.length ≤ 1000000) :
    Calls Try.prog 65 #[celV u c] w (OwnCP c w) := by
  obtain ⟨W0, hW0⟩ : ∃ W0, W0 = (w.alloc (.cells #[.string (str c.key), u, .bool c.locked, .int .i64 c.lock.by_.node, .int .i64 c.lock.by_.life, .int .i64 c.lock.by_.seq, .int .i64 c.lock.by_.attempt, .int .i64 c.lock.home, .int .i64 c.lock.at_.wall, .int .i64 c.lock.at_.tie, .bool c.lock.drop, .string (str c.lock.data)] 64)).alloc (.cells #[.string ⟨#[]⟩, .slice none 0 0, .bool false, .int .i64 0, .int .i64 0, .int .i64 0, .int .i64 0, .int .i64 0, .int .i64 0, .int .i64 0, .bool false, .string ⟨#[]⟩] 64) := ⟨_, rfl⟩
  have hS0 : Same (fun _ => True) w W0 := by rw [hW0]; exact ((Same.refl _ _).alloc _).alloc _
  have hz0 : W0.heap.size = w.heap.size + 2 := by rw [hW0, World.size_alloc, World.size_alloc]
  have hr0 : Row W0 w.heap.size 64 (celCs (u, c)) := by
    rw [hW0]
    exact (Row.new w 64 (celCs (u, c))).keep ((Same.refl (fun _ => True) _).alloc _) trivial
  have hr1 : Row W0 (w.heap.size + 1) 64 (#[.string ⟨#[]⟩, .slice none 0 0, .bool false, .int .i64 0, .int .i64 0, .int .i64 0, .int .i64 0, .int .i64 0, .int .i64 0, .int .i64 0, .bool false, .string ⟨#[]⟩] : Array Value).toList := by
    have := Row.new (w.alloc (.cells #[.string (str c.key), u, .bool c.locked, .int .i64 c.lock.by_.node, .int .i64 c.lock.by_.life, .int .i64 c.lock.by_.seq, .int .i64 c.lock.by_.attempt, .int .i64 c.lock.home, .int .i64 c.lock.at_.wall, .int .i64 c.lock.at_.tie, .bool c.lock.drop, .string (str c.lock.data)] 64)) 64 (#[.string ⟨#[]⟩, .slice none 0 0, .bool false, .int .i64 0, .int .i64 0, .int .i64 0, .int .i64 0, .int .i64 0, .int .i64 0, .int .i64 0, .bool false, .string ⟨#[]⟩] : Array Value).toList
    rw [World.size_alloc] at this
    rw [hW0]; exact this
  have g := clone_any u c.vers S W0 (hv.keepAll hS0) hn
  obtain ⟨Au, cu, rfl, -, -⟩ := hv.form
  have HS0 := Lib.hid hS0
  have Hr0 := Lib.hid hr0
  have Hr1 := Lib.hid hr1
  have HW0 := Lib.hid hW0
  have Hz0 := Lib.hid hz0
  clear hv hS0 hr0 hr1 hW0 hz0
  go_enter Try.func65, Try.ntmps65
  go_wp2_with (go_at_call 92; refine stopAt ?_)
  unfold Hid
  rw [← HW0.out]
  refine g.mono ?_
  rintro e w1 ⟨u', rfl, hown, hS⟩
  obtain ⟨A, cp, rfl, -, -⟩ := hown.form
  have hq0 := Hr0.out.keep hS trivial
  have hq1 := Hr1.out.keep hS trivial
  have Hq0 := Lib.hid hq0
  have Hq1 := Lib.hid hq1
  have Hown := Lib.hid hown
  have HS := Lib.hid hS
  obtain ⟨a0, a1, a2, a3, a4, a5, a6, a7, a8, a9, a10, a11, f0, f1, f2, f3, f4, f5, f6, f7, f8, f9, f10, f11⟩ := cel_cells hq0
  obtain ⟨d0, d1, d2, d3, d4, d5, d6, d7, d8, d9, d10, d11, e0, e1, e2, e3, e4, e5, e6, e7, e8, e9, e10, e11⟩ := cel_cells hq1
  have z0 := hq0.lt
  have z1 := hq1.lt
  clear hown hS hq0 hq1 g f0 f2 f3 f4 f5 f6 f7 f8 f9 f10 f11
  go_wp2
  have k1 := Hq0.out.set_ 1 (.slice A c.vers.length cp)
  have k2 : Row (w1.setCell ⟨w.heap.size, 1, none⟩ (.slice A c.vers.length cp)) (w.heap.size + 1) 64 (#[.string ⟨#[]⟩, .slice none 0 0, .bool false, .int .i64 0, .int .i64 0, .int .i64 0, .int .i64 0, .int .i64 0, .int .i64 0, .int .i64 0, .bool false, .string ⟨#[]⟩] : Array Value).toList := Hq1.out.keep ((Same.refl (fun k => k = w.heap.size + 1) w1).setCell (fun _ h => by simp at h) _) rfl
  have t1 : Same (fun k => k ≠ w.heap.size ∧ k ≠ w.heap.size + 1) w1 (w1.setCell ⟨w.heap.size, 1, none⟩ (.slice A c.vers.length cp)) := (Same.refl _ w1).setCell (fun _ h => h.1 rfl) _
  obtain ⟨r1, r2⟩ := cel_set12 (b0 := .string (str c.key)) (b1 := .slice A c.vers.length cp) (b2 := .bool c.locked) (b3 := .int .i64 c.lock.by_.node) (b4 := .int .i64 c.lock.by_.life) (b5 := .int .i64 c.lock.by_.seq) (b6 := .int .i64 c.lock.by_.attempt) (b7 := .int .i64 c.lock.home) (b8 := .int .i64 c.lock.at_.wall) (b9 := .int .i64 c.lock.at_.tie) (b10 := .bool c.lock.drop) (b11 := .string (str c.lock.data)) (fun _ h => h.2 rfl) k2 t1
  refine bodyPost_ret (own_results (u := .slice A c.vers.length cp) (c := c) r1 rfl) rfl ⟨_, rfl, (Hown.out.keep r2 fun k h1 h2 => ?_).lower (by rw [Hz0.out]; omega), (HS0.out.trans HS.out).trans' r2 fun k hk _ => ?_⟩
  · have := Hz0.out
    constructor <;> omega
  · constructor <;> omega
end Go.Proofs.Ytoldelocfmpccaa
set_option linter.unusedSimpArgs false
set_option linter.unusedVariables false
namespace Go.Proofs.Ytoldelocfmpccaa
open Go.RowKit

theorem RowW.keepOwn {α : Type} {f : α → List Value} {n : Nat} {e e' : TypeId} {w w' : World} {S : Nat → Prop} {v : Value} {l : List α} {B size m : Nat} {x : Value} {xs : List Value} (h : RowW f n e w S v l) (ho : w.ownsRow B e' size x m xs) (hne : e ≠ e') (hs : Same (fun k => some k ≠ x.ownBlock) w w') : RowW f n e w' S v l := by
  obtain ⟨A, c, h1, h2, h3, h4⟩ := h
  refine ⟨A, c, h1, h2, h3, fun h0 => ?_⟩
  obtain ⟨g, o, cur, e1, e2, e3, e4⟩ := h4 h0
  refine ⟨g, o, cur, e1, e2, ?_, e4⟩
  rw [hs.block g (Array.getElem?_eq_some_iff.1 e3).1 (fun hk => ?_)]
  · exact e3
  · rcases ho.2 with ⟨rfl, _⟩ | ⟨g', cap, cur', rfl, _, hg, _⟩
    · cases hk
    · injection (show some g = some g' from hk) with hk
      subst hk
      rw [e3] at hg
      injection hg with hg
      injection hg with _ hg _
      exact hne hg
/-- Cells that the call owns: the row, and each one's versions in blocks from B on. -/
def OwnC (w : World) (B : Nat) (v : Value) (cs : List Cel) : Prop :=
  ∃ us : List Value, us.length = cs.length ∧ OwnR celCs 12 64 w B v (us.zip cs) ∧ ∀ i (h : i < cs.length) (h' : i < us.length), RowW verCs 4 69 w (fun k => B ≤ k) us[i] cs[i].vers
section
variable {w w' : World} {B : Nat} {v : Value} {cs : List Cel}
theorem OwnC.nil (w : World) (B : Nat) : OwnC w B (.slice none 0 0) [] := ⟨[], rfl, OwnR.nil _ _, fun i h => absurd h (Nat.not_lt_zero _)⟩
theorem OwnC.keepAll (h : OwnC w B v cs) (hs : Same (fun _ => True) w w') : OwnC w' B v cs := by
  obtain ⟨us, h1, h2, h3⟩ := h
  exact ⟨us, h1, h2.keepAll hs, fun i a b => (h3 i a b).keepAll hs⟩
theorem OwnC.keep (h : OwnC w B v cs) {S : Nat → Prop} (hs : Same S w w') (hS : ∀ k, B ≤ k → k < w.heap.size → S k) : OwnC w' B v cs := by
  obtain ⟨us, h1, h2, h3⟩ := h
  exact ⟨us, h1, h2.keep hs hS, fun i a b => (h3 i a b).keep (hs.mono fun k hk hB => hS k hB hk)⟩
theorem OwnC.form (h : OwnC w B v cs) : ∃ A c, v = .slice A cs.length c ∧ cs.length ≤ c ∧ c ≤ maxLen := by
  obtain ⟨us, h1, h2, _⟩ := h
  obtain ⟨A, c, e1, e2, e3⟩ := h2.form
  have e : (us.zip cs).length = cs.length := by simp [h1]
  rw [e] at e1 e2
  exact ⟨A, c, e1, e2, e3⟩
theorem OwnC.form3 (h : OwnC w B v cs) : ∃ A n c, v = .slice A n c ∧ n ≤ c ∧ c ≤ maxLen := by
  obtain ⟨A, c, h1, h2, h3⟩ := h.form
  exact ⟨A, _, c, h1, h2, h3⟩
theorem OwnC.lower {B' : Nat} (h : OwnC w B v cs) (hb : B' ≤ B) : OwnC w B' v cs := by
  obtain ⟨us, h1, h2, h3⟩ := h
  exact ⟨us, h1, h2.lower hb, fun i a b => (h3 i a b).mono fun k _ hk => by omega⟩
theorem OwnC.reads (h : OwnC w B v cs) : CelR w (fun k => B ≤ k) v cs := by
  obtain ⟨us, h1, h2, h3⟩ := h
  exact ⟨us, h1, h2.wr.row celCs_len, fun i a b => (h3 i a b).row verCs_len⟩
end
theorem TCel : SlT Try.prog 33 64 12 128 (.agg #[.string ⟨#[]⟩, .slice none 0 0, .bool false, .int .i64 0, .int .i64 0, .int .i64 0, .int .i64 0, .int .i64 0, .int .i64 0, .int .i64 0, .bool false, .string ⟨#[]⟩]) := ⟨by kernel_rfl, by kernel_rfl, rfl, by omega⟩
theorem celCs_one {A : Option Addr} {n cp : Nat} (c : Cel) : ∀ u ∈ celCs (.slice A n cp, c), u.oneCell' = true := by
  intro u hu
  simp only [celCs, lckCs, List.cons_append, List.nil_append, List.mem_cons, List.not_mem_nil, or_false] at hu
  rcases hu with rfl | rfl | rfl | rfl | rfl | rfl | rfl | rfl | rfl | rfl | rfl | rfl <;> rfl
/-- One cell behind cells that the call owns. -/
theorem wpList_appC {w : World} {ops : Array Oper} {rest : List Oper} {o : Oper} {a : Act} {Q : Exit → Act → World → Prop} (hgd : o.guard = none) (s x : Operand)
    (ho : o.op = .call { callee := .builtin .append, args := #[s, x], argTypes := #[33, 33] }) {B : Nat} {v : Value} {cs : List Cel} {c : Cel} {A : Option Addr} {n cp : Nat}
    (hs : a.eval s = v) {g : Nat} (hx : a.eval x = .slice (some ⟨g, 0, none⟩) 1 1) (hg : g = w.heap.size) (hown : OwnC w B v cs) (hu : RowW verCs 4 69 w (fun k => B ≤ k) (.slice A n cp) c.vers) (hB : B ≤ w.heap.size) (hlen : cs.length ≤ 1000000)
    (hK : ∀ v' w', OwnC w' B v' (cs ++ [c]) → Same (fun k => k < B) w w' → wpList Try.prog ops Q rest (a.put o.dst v') w') : wpList Try.prog ops Q (o :: rest) a (w.alloc (.cells (celCs (.slice A n cp, c)).toArray 64)) := by
  subst hg
  obtain ⟨us, u1, u2, u3⟩ := hown
  have hul : (us.zip cs).length = cs.length := by simp [u1]
  have hs1 : Same (fun _ => True) w (w.alloc (.cells (celCs (.slice A n cp, c)).toArray 64)) := (Same.refl _ _).alloc _
  have hrow := Row.new w 64 (celCs (.slice A n cp, c))
  have hsl := hrow.sl (size := 12) (off := 0) (n := 1) (by rw [celCs_len]; omega)
  rw [List.drop_zero, List.take_of_length_le (by rw [celCs_len]; omega)] at hsl
  refine wpList_app TCel _ hgd s x ho B v (us.zip cs).length ((us.zip cs).flatMap celCs) hs (u2.keepAll hs1) _ _ 1 1 (celCs (.slice A n cp, c)) hx hsl (celCs_one c) (by rw [hul]; simp only [maxLen]; omega) (by rw [hul]; omega) (by simp; omega) ?_
  intro v' w' h2 h3 h4
  refine hK v' w' ⟨us ++ [.slice A n cp], by simp [u1], ?_, ?_⟩ ((hs1.mono fun _ _ _ => trivial).trans (h3.mono fun k _ hk e' => by have := (u2.keepAll hs1).lt_ e'.symm; omega))
  · unfold OwnR
    rw [List.zip_append u1, List.length_append, List.flatMap_append]
    simpa using h2
  · intro i hi hi'
    have ho1 := u2.keepAll hs1
    by_cases hlt : i < cs.length
    · rw [List.getElem_append_left (by omega), List.getElem_append_left hlt]
      exact ((u3 i hlt (by omega)).keepAll hs1).keepOwn ho1 (by decide) h3
    · have e : i = cs.length := by simp at hi; omega
      subst e
      rw [List.getElem_append_right (by omega), List.getElem_append_right (by omega)]
      simp only [u1, Nat.sub_self, List.getElem_singleton]
      exact (hu.keepAll hs1).keepOwn ho1 (by decide) h3
def AllP (cs : List Cel) (w : World) (e : Ending) (w' : World) : Prop := ∃ v, e = .returned v ∧ OwnC w' w.heap.size v cs ∧ Same (fun _ => True) w w'
set_option maxHeartbeats 1000000 in
theorem all_any (v : Value) (cs : List Cel) (S : Nat → Prop) (w : World) (hv : CelR w S v cs) (hn : cs.length ≤ 100000) (hn2 : ∀ c ∈ cs, c.vers.length ≤ 1000000) :
    Calls Try.prog 67 #[v] w (AllP cs w) := by
  obtain ⟨A, cp, rfl, hc, hm⟩ := hv.form
  have Hv := Lib.hid hv
  have Hn2 := Lib.hid hn2
  unfold maxLen at hm
  clear hv hn2
  go_enter Try.func67, Try.ntmps67
  go_wp2
  go_loopw [3, 5, 8] (fun l _ i wr => ∃ k : Nat, i = .int .i64 k ∧ k ≤ cs.length ∧ OwnC wr w.heap.size l (cs.take k) ∧ Same (fun _ => True) w wr) (fun _ _ i _ => cs.length - (intOf i).toNat)
  case atStart => exact ⟨0, rfl, Nat.zero_le _, by rw [List.take_zero]; exact OwnC.nil _ _, Same.refl _ _⟩
  case round =>
    obtain ⟨k, rfl, hk, hown, hS⟩ := hrel
    have HS := Lib.hid hS
    have Hown := Lib.hid hown
    have hsz := hS.size
    obtain ⟨Al, nl, cl, rfl, hl1, hl2⟩ := hown.form3
    unfold maxLen at hl2
    by_cases hlt : k < cs.length
    · obtain ⟨ad, u, rfl, -, hvr, c0, c1, c2, c3, c4, c5, c6, c7, c8, c9, c10, c11⟩ := CelR.cells12 (Hv.out.keepAll hS) hlt
      obtain ⟨Au, cu, rfl, -, -⟩ := hvr.form
      have x1 : (0 : Int) ≤ (k : Int) := by omega
      have x2 : (k : Int) < (cs.length : Int) := by omega
      have hab := World.block_lt_of_cell? wr _ c0
      have htk : cs.take (k + 1) = cs.take k ++ [cs[k]] := List.take_succ_eq_append_getElem hlt
      have hcl := Hn2.out cs[k] (List.getElem_mem hlt)
      have Htk := Lib.hid htk
      have Hvr := Lib.hid hvr
      clear hvr htk hown hS
      generalize cs[k] = c at *
      have g := own_any (.slice Au c.vers.length cu) c S (wr.alloc (.cells (celCs (.slice Au c.vers.length cu, c)).toArray 64)) (RowR.keepAll Hvr.out ((Same.refl _ _).alloc _)) hcl
      go_wp2_with (go_at_call 65; refine stopAt ?_)
      unfold Hid
      refine g.mono ?_
      rintro e w5 ⟨u', rfl, hown5, hS5⟩
      obtain ⟨A5, c5', rfl, -, -⟩ := hown5.form
      have hS6 := ((Same.refl (fun _ => True) wr).alloc (.cells (celCs (.slice Au c.vers.length cu, c)).toArray 64)).trans hS5
      have HS6 := Lib.hid hS6
      have Hown5 := Lib.hid hown5
      clear hS5 hS6 hown5 g c0 c1 c2 c3 c4 c5 c6 c7 c8 c9 c10 c11
      go_wp2_with (at_builtin; refine stopAt ?_)
      unfold Hid
      refine wpList_appC (c := c) (B := w.heap.size) rfl (.tmp 12) (.tmp 15) rfl rfl rfl rfl (Hown.out.keepAll HS6.out) (Hown5.out.wr.mono fun j _ hj => by rw [World.size_alloc] at hj; omega) (by have := HS6.out.size; omega) (by rw [List.length_take]; omega) ?_
      intro v' w7 hown7 hS7
      have Hown7 := Lib.hid hown7
      have HS7 := Lib.hid hS7
      clear hown7 hS7
      go_wp2
      go_roundw
      case rel => exact ⟨k + 1, by go_num, by omega, by rw [Htk.out]; exact Hown7.out, (HS.out.trans HS6.out).trans' HS7.out fun j hj _ => hj⟩
      case measure => simp [intOf]; omega
    · obtain rfl : k = cs.length := by omega
      rw [List.take_length] at Hown
      clear hS hown
      go_wp2
      go_ret
      exact ⟨_, rfl, Hown.out, HS.out⟩
end Go.Proofs.Ytoldelocfmpccaa
set_option linter.unusedSimpArgs false
set_option linter.unusedVariables false
namespace Go.Proofs.Ytoldelocfmpccaa
open Go.RowKit

set_option maxHeartbeats 2000000 in
theorem refcopy_any (v : Value) (cs : List Cel) (S : Nat → Prop) (w : World) (hv : CelR w S v cs) (hn : cs.length ≤ 100000) (hn2 : ∀ c ∈ cs, c.vers.length ≤ 1000000) :
    Calls Try.prog 34 #[v] w (AllP cs w) := by
  obtain ⟨A, cp, rfl, hc, hm⟩ := hv.form
  have Hv := Lib.hid hv
  have Hn2 := Lib.hid hn2
  unfold maxLen at hm
  clear hv hn2
  go_enter Try.func34, Try.ntmps34
  go_wp2
  go_loopw [3, 4, 5] (fun l i _ wr => ∃ k : Nat, i = .int .i64 k ∧ k ≤ cs.length ∧ OwnC wr w.heap.size l (cs.take k) ∧ Same (fun _ => True) w wr) (fun _ i _ _ => cs.length - (intOf i).toNat)
  case atStart => exact ⟨0, rfl, Nat.zero_le _, by rw [List.take_zero]; exact OwnC.nil _ _, Same.refl _ _⟩
  case round =>
    obtain ⟨k, rfl, hk, hown, hS⟩ := hrel
    have HS := Lib.hid hS
    have Hown := Lib.hid hown
    have hsz := hS.size
    obtain ⟨Al, nl, cl, rfl, hl1, hl2⟩ := hown.form3
    unfold maxLen at hl2
    by_cases hlt : k < cs.length
    · obtain ⟨ad, u, rfl, -, hvr, c0, c1, c2, c3, c4, c5, c6, c7, c8, c9, c10, c11⟩ := CelR.cells12 (Hv.out.keepAll hS) hlt
      obtain ⟨Au, cu, rfl, -, -⟩ := hvr.form
      have x1 : (0 : Int) ≤ (k : Int) := by omega
      have x2 : (k : Int) < (cs.length : Int) := by omega
      have hab := World.block_lt_of_cell? wr _ c0
      have htk : cs.take (k + 1) = cs.take k ++ [cs[k]] := List.take_succ_eq_append_getElem hlt
      have hcl := Hn2.out cs[k] (List.getElem_mem hlt)
      have Htk := Lib.hid htk
      have Hvr := Lib.hid hvr
      clear hvr htk hown hS
      generalize cs[k] = c at *
      have hrow := Row.new wr 64 (celCs (.slice Au c.vers.length cu, c))
      have Hrow := Lib.hid hrow
      have hs1 := ((Same.refl (fun _ => True) wr).alloc (.cells (celCs (.slice Au c.vers.length cu, c)).toArray 64))
      have Hs1 := Lib.hid hs1
      clear hrow hs1
      go_wp2_with (at_builtin; refine stopAt ?_)
      unfold Hid
      have hs2 := (Hs1.out.alloc (.cells #[] 69))
      have hemp : OwnR verCs 4 69 ((wr.alloc (.cells (celCs (.slice Au c.vers.length cu, c)).toArray 64)).alloc (.cells #[] 69)) (wr.heap.size + 1) (.slice (some ⟨wr.heap.size + 1, 0, none⟩) 0 0) [] := by
        have := OwnR.empty verCs 4 69 (wr.alloc (.cells (celCs (.slice Au c.vers.length cu, c)).toArray 64))
        rw [World.size_alloc] at this
        exact this
      refine wpList_appR (B := wr.heap.size + 1) (l := []) TVer verCs_len verCs_one rfl (.tmp 16) (.tmp 18) rfl rfl rfl (RowR.keepAll Hvr.out hs2) hemp (by rw [World.size_alloc, World.size_alloc]; omega) (by simp only [maxLen, List.length_nil]; omega) (by simp only [List.length_nil]; omega) ?_
      intro u' w5 hown5 hS5
      obtain ⟨A5, n5, c5', rfl, -, -⟩ : ∃ A n c, u' = .slice A n c ∧ n ≤ c ∧ c ≤ maxLen := by
        obtain ⟨A, c, h1, h2, h3⟩ := hown5.form
        exact ⟨A, _, c, h1, h2, h3⟩
      have hS5' : Same (fun j => j ≠ wr.heap.size + 1) (wr.alloc (.cells (celCs (.slice Au c.vers.length cu, c)).toArray 64)) w5 :=
        ((Same.refl _ _).alloc _).trans (hS5.mono fun j _ hj e => by
          injection (show some j = some (wr.heap.size + 1) from e) with e
          exact hj e)
      have hbox := Hrow.out.keep hS5' (by simp)
      have hS6 : Same (fun j => True) wr w5 := Hs1.out.trans' hS5' fun j hj _ => by omega
      have hown6 := hown5.wr
      rw [List.nil_append] at hown6
      have Hbox := Lib.hid hbox
      have HS6 := Lib.hid hS6
      have Hown6 := Lib.hid hown6
      obtain ⟨a0, a1, a2, a3, a4, a5, a6, a7, a8, a9, a10, a11, -, f1, -⟩ := cel_cells hbox
      have z0 := hbox.lt
      clear hemp hbox hS6 hown6 hS5 hS5' hown5 hs2 c0 c1 c2 c3 c4 c5 c6 c7 c8 c9 c10 c11
      go_wp2_with (at_builtin; refine stopAt ?_)
      unfold Hid
      have hS7 : Same (fun j => j ≠ wr.heap.size) w5 (w5.setCell ⟨wr.heap.size, 1, none⟩ (.slice A5 n5 c5')) := (Same.refl _ _).setCell (fun _ h => h rfl) _
      have hS8 : Same (fun _ => True) wr (w5.setCell ⟨wr.heap.size, 1, none⟩ (.slice A5 n5 c5')) := HS6.out.trans' hS7 fun j hj _ => by omega
      have HS8 := Lib.hid hS8
      refine wpList_appC (w := w5.setCell ⟨wr.heap.size, 1, none⟩ (.slice A5 n5 c5')) (c := c) (B := w.heap.size) rfl (.tmp 21) (.tmp 23) rfl rfl rfl (by first | rfl | simp) (Hown.out.keepAll hS8) ((Hown6.out.keep (hS7.mono fun j _ hj => by omega)).mono fun j _ hj => by omega) (by have := hS8.size; omega) (by rw [List.length_take]; omega) ?_
      intro v' w7 hown7 hS9
      have Hown7 := Lib.hid hown7
      have HS9 := Lib.hid hS9
      clear hown7 hS9 hS7 hS8
      go_wp2
      go_roundw
      case rel => exact ⟨k + 1, by go_num, by omega, by rw [Htk.out]; exact Hown7.out, (HS.out.trans HS8.out).trans' HS9.out fun j hj _ => hj⟩
      case measure => simp [intOf]; omega
    · obtain rfl : k = cs.length := by omega
      rw [List.take_length] at Hown
      clear hS hown
      go_wp2
      go_ret
      exact ⟨_, rfl, Hown.out, HS.out⟩
end Go.Proofs.Ytoldelocfmpccaa
set_option linter.unusedSimpArgs false
set_option linter.unusedVariables false
namespace Go.Proofs.Ytoldelocfmpccaa
open Go.RowKit

theorem RowW.cut {α : Type} {f : α → List Value} {n : Nat} {e : TypeId} {w : World} {S : Nat → Prop} {l : List α} {A : Option Addr} {m c : Nat} (h : RowW f n e w S (.slice A m c) l) (hf : ∀ x, (f x).length = n) {i : Nat} (hi : i ≤ l.length) :
    RowW f n e w S (.slice (if c = i then A else A.map (·.add (i * n))) (l.length - i) (c - i)) (l.drop i) := by
  obtain ⟨A', c', h1, h2, h3, h4⟩ := h
  injection h1 with e1 e2 e3
  subst e1 e2 e3
  refine ⟨_, c - i, by rw [List.length_drop], by rw [List.length_drop]; omega, by omega, fun h0 => ?_⟩
  rw [List.length_drop] at h0
  obtain ⟨g, o, cur, k1, k2, k3, k4⟩ := h4 (by omega)
  subst k1
  rw [if_neg (by omega)]
  refine ⟨g, o + i * n, cur, by simp only [Option.map_some, add_none], k2, k3, fun j u hu => ?_⟩
  rw [flat_drop f n hf, List.getElem?_drop] at hu
  rw [Nat.add_assoc]
  exact k4 _ u hu
/-- How many versions a trim lets go. -/
def trimI (l : List Ver) (a : St) : Nat := if lastF l a < 0 then 0 else if (l[(lastF l a).toNat]?.map (·.drop)).getD false then (lastF l a).toNat + 1 else (lastF l a).toNat
def trimV (l : List Ver) (a : St) : List Ver := l.drop (trimI l a)
theorem trimI_le (l : List Ver) (a : St) : trimI l a ≤ l.length := by
  have := lastF_bd l a
  unfold trimI
  split
  · omega
  · split <;> omega
def keptB (c : Cel) : Bool := c.locked || !c.vers.isEmpty
/-- What a trim leaves. -/
def trimC (a : St) (c : Cel) : List Cel := if keptB { c with vers := trimV c.vers a } then [{ c with vers := trimV c.vers a }] else []
def trimF (cs : List Cel) (a : St) : List Cel := cs.flatMap (trimC a)
theorem trimF_take {cs : List Cel} {a : St} {k : Nat} (h : k < cs.length) : trimF (cs.take (k + 1)) a = trimF (cs.take k) a ++ trimC a cs[k] := by
  unfold trimF
  rw [List.take_succ_eq_append_getElem h, List.flatMap_append]
  simp
theorem trimF_len (a : St) : ∀ cs : List Cel, (trimF cs a).length ≤ cs.length
  | [] => by simp [trimF]
  | c :: cs => by
    have := trimF_len a cs
    have e : trimF (c :: cs) a = trimC a c ++ trimF cs a := by simp [trimF]
    rw [e, List.length_append, List.length_cons]
    unfold trimC
    split <;> simp <;> omega
end Go.Proofs.Ytoldelocfmpccaa
set_option linter.unusedSimpArgs false
set_option linter.unusedVariables false
namespace Go.Proofs.Ytoldelocfmpccaa

/-! ### stamps -/
theorem less_iff (a b : St) : lessB a b = true ↔ a.wall < b.wall ∨ a.wall = b.wall ∧ a.tie < b.tie := by simp [lessB]
theorem less_no (a b : St) : lessB a b = false ↔ ¬ (a.wall < b.wall ∨ a.wall = b.wall ∧ a.tie < b.tie) := by
  rw [← less_iff]; simp
theorem st_eq (a b : St) : a = b ↔ a.wall = b.wall ∧ a.tie = b.tie := by
  cases a; cases b; simp
theorem less_irrefl (a : St) : lessB a a = false := by rw [less_no]; omega
theorem less_trans {a b c : St} (h1 : lessB a b = true) (h2 : lessB b c = true) : lessB a c = true := by
  rw [less_iff] at *; omega
theorem less_asymm {a b : St} (h : lessB a b = true) : lessB b a = false := by
  rw [less_iff] at h; rw [less_no]; omega
theorem less_ne {a b : St} (h : lessB a b = true) : a ≠ b := by
  rintro rfl; rw [less_irrefl] at h; cases h
theorem less_or {a b : St} (h : lessB a b = false) : a = b ∨ lessB b a = true := by
  rw [less_no] at h; rw [less_iff, st_eq]; omega
theorem less_le {a b c : St} (h1 : lessB a b = false) (h2 : lessB b c = false) : lessB a c = false := by
  rw [less_no] at *; omega
theorem less_lt {a b c : St} (h1 : lessB a b = true) (h2 : lessB c b = false) : lessB a c = true := by
  rw [less_no] at h2; rw [less_iff] at *; omega
theorem less_lt' {a b c : St} (h1 : lessB b a = false) (h2 : lessB b c = true) : lessB a c = true := by
  rw [less_no] at h1; rw [less_iff] at *; omega

/-! ### versions -/
def SortV (vs : List Ver) : Prop := vs.Pairwise fun x y => lessB x.at_ y.at_ = true
/-- Versions with one more, in its place. -/
def putF : List Ver → Ver → List Ver
  | [], v => [v]
  | x :: l, v => if lessB x.at_ v.at_ then x :: putF l v else if x.at_ = v.at_ then v :: l else v :: x :: l
theorem put_len : ∀ (l : List Ver) (v : Ver), (putF l v).length ≤ l.length + 1 ∧ 0 < (putF l v).length
  | [], v => by simp [putF]
  | x :: l, v => by
    have := put_len l v
    unfold putF
    split
    · simp; omega
    · split <;> simp
theorem put_mem {l : List Ver} {v x : Ver} (h : x ∈ putF l v) : x = v ∨ x ∈ l := by
  induction l with
  | nil => simp [putF] at h; exact .inl h
  | cons y l ih =>
    unfold putF at h
    split at h
    · rcases List.mem_cons.1 h with rfl | h
      · simp
      · rcases ih h with h | h <;> simp [h]
    · split at h
      · rcases List.mem_cons.1 h with rfl | h <;> simp [*]
      · rcases List.mem_cons.1 h with rfl | h
        · simp
        · exact .inr h
theorem put_sort {l : List Ver} (hl : SortV l) (v : Ver) : SortV (putF l v) := by
  induction l with
  | nil => simp [putF, SortV]
  | cons x l ih =>
    obtain ⟨h1, h2⟩ := List.pairwise_cons.1 hl
    unfold putF
    split
    · rename_i hx
      refine List.pairwise_cons.2 ⟨fun y hy => ?_, ih h2⟩
      rcases put_mem hy with rfl | hy
      · exact hx
      · exact h1 y hy
    · rename_i hx
      have hx : lessB x.at_ v.at_ = false := by simpa using hx
      split
      · rename_i e
        exact List.pairwise_cons.2 ⟨fun y hy => by rw [← e]; exact h1 y hy, h2⟩
      · rename_i e
        have hv : lessB v.at_ x.at_ = true := by
          rcases less_or hx with h | h
          · exact absurd h e
          · exact h
        refine List.pairwise_cons.2 ⟨fun y hy => ?_, hl⟩
        rcases List.mem_cons.1 hy with rfl | hy
        · exact hv
        · exact less_trans hv (h1 y hy)
/-- Where a version comes to stand. -/
theorem put_at {v : Ver} : ∀ {l : List Ver} {n : Nat}, n ≤ l.length → (∀ k (h : k < l.length), k < n → lessB l[k].at_ v.at_ = true) → (∀ k (h : k < l.length), n ≤ k → lessB v.at_ l[k].at_ = true) → putF l v = l.take n ++ v :: l.drop n
  | [], n, h0, _, _ => by simp [putF]
  | x :: l, 0, _, _, h2 => by
    have := h2 0 (by simp) (by omega)
    simp at this
    have e : ¬ x.at_ = v.at_ := fun h => less_ne this h.symm
    simp [putF, less_asymm this, e]
  | x :: l, n + 1, h0, h1, h2 => by
    have e := h1 0 (by simp) (by omega)
    simp at e
    have ih := put_at (v := v) (l := l) (n := n) (by simpa using h0) (fun k h hk => by have := h1 (k + 1) (by simpa using h) (by omega); simpa using this) (fun k h hk => by have := h2 (k + 1) (by simpa using h) (by omega); simpa using this)
    simp [putF, e, ih]
theorem put_hit {v : Ver} : ∀ {l : List Ver} {n : Nat} (hn : n < l.length), SortV l → l[n].at_ = v.at_ → putF l v = l.take n ++ v :: l.drop (n + 1)
  | x :: l, 0, _, hs, e => by
    simp at e
    simp [putF, e, less_irrefl]
  | x :: l, n + 1, hn, hs, e => by
    obtain ⟨h1, h2⟩ := List.pairwise_cons.1 hs
    simp at e hn
    have hx := h1 _ (List.getElem_mem hn)
    rw [e] at hx
    have ih := put_hit (v := v) (l := l) (n := n) hn h2 e
    simp [putF, hx, ih]
/-- What the document's loop still makes. -/
def withR (v : Ver) : Bool → List Ver → List Ver
  | b, [] => if b then [] else [v]
  | b, x :: l => (if !b && !lessB x.at_ v.at_ then [v] else []) ++ ((if x.at_ = v.at_ then [] else [x]) ++ withR v (b || !lessB x.at_ v.at_) l)
theorem with_true {v : Ver} : ∀ {l : List Ver}, (∀ x ∈ l, lessB v.at_ x.at_ = true) → withR v true l = l
  | [], _ => rfl
  | x :: l, h => by
    have h1 := h x (by simp)
    have h2 : ¬ x.at_ = v.at_ := fun e => less_ne h1 e.symm
    have ih := with_true (v := v) (l := l) fun y hy => h y (by simp [hy])
    simp [withR, ih, h2]
theorem with_put {v : Ver} : ∀ {l : List Ver}, SortV l → withR v false l = putF l v
  | [], _ => rfl
  | x :: l, h => by
    obtain ⟨h1, h2⟩ := List.pairwise_cons.1 h
    unfold withR putF
    cases hx : lessB x.at_ v.at_
    · by_cases e : x.at_ = v.at_
      · have := with_true (v := v) (l := l) fun y hy => by rw [← e]; exact h1 y hy
        simp [e, this]
      · have hv : lessB v.at_ x.at_ = true := by
          rcases less_or hx with h | h
          · exact absurd h e
          · exact h
        have := with_true (v := v) (l := l) fun y hy => less_trans hv (h1 y hy)
        simp [e, this]
    · have := less_ne hx
      simp [this, with_put (v := v) h2]
/-- What versions tell, one by one. -/
def foldT (a : St) (r : List UInt8 × Bool) (l : List Ver) : List UInt8 × Bool := l.foldl (fun r v => if lessB a v.at_ then r else (v.data, !v.drop)) r
def normT (r : List UInt8 × Bool) : List UInt8 × Bool := if r.2 = true then (r.1, true) else ([], false)
theorem foldT_cons (a : St) (r : List UInt8 × Bool) (v : Ver) (l : List Ver) : foldT a r (v :: l) = foldT a (if lessB a v.at_ then r else (v.data, !v.drop)) l := rfl
theorem foldT_append (a : St) (r : List UInt8 × Bool) (l m : List Ver) : foldT a r (l ++ m) = foldT a (foldT a r l) m := by simp [foldT]
theorem tells_fold (l : List Ver) (a : St) : tellsF l a = normT (foldT a ([], false) l) := by
  have : ∀ k, k ≤ l.length → ofP l a k = foldT a ([], false) (l.take k) := by
    intro k
    induction k with
    | zero => intro _; rw [ofP_zero]; rfl
    | succ k ih =>
      intro h
      rw [ofP_step (by omega), ih (by omega), List.take_succ_eq_append_getElem (by omega), foldT_append]
      rfl
  rw [ofP_tells, this l.length (Nat.le_refl _), List.take_length]
  rfl
theorem foldT_above {a : St} : ∀ {l : List Ver} (r : List UInt8 × Bool), (∀ x ∈ l, lessB a x.at_ = true) → foldT a r l = r
  | [], r, _ => rfl
  | x :: l, r, h => by
    rw [foldT_cons, h x (by simp), if_pos rfl]
    exact foldT_above r fun y hy => h y (by simp [hy])
theorem norm_drop (a : St) (d : List UInt8) : ∀ l : List Ver, normT (foldT a (d, false) l) = normT (foldT a ([], false) l)
  | [] => rfl
  | x :: l => by
    rw [foldT_cons, foldT_cons]
    cases lessB a x.at_
    · rfl
    · exact norm_drop a d l
theorem fold_put_low {a : St} {v : Ver} (h : lessB a v.at_ = true) : ∀ (l : List Ver) (r : List UInt8 × Bool), foldT a r (putF l v) = foldT a r l
  | [], r => by simp [putF, foldT, h]
  | x :: l, r => by
    unfold putF
    split
    · rw [foldT_cons, foldT_cons, fold_put_low h l]
    · split
      · rename_i e
        rw [foldT_cons, foldT_cons, h, e, h, if_pos rfl, if_pos rfl]
      · rw [foldT_cons, h, if_pos rfl]
theorem tells_put_low {a : St} {v : Ver} (h : lessB a v.at_ = true) (l : List Ver) : tellsF (putF l v) a = tellsF l a := by
  rw [tells_fold, tells_fold, fold_put_low h]
theorem fold_put_at {v : Ver} : ∀ {l : List Ver} (r : List UInt8 × Bool), SortV l → foldT v.at_ r (putF l v) = (v.data, !v.drop)
  | [], r, _ => by simp [putF, foldT, less_irrefl]
  | x :: l, r, h => by
    obtain ⟨h1, h2⟩ := List.pairwise_cons.1 h
    unfold putF
    split
    · rw [foldT_cons, fold_put_at _ h2]
    · rename_i hx
      have hx : lessB x.at_ v.at_ = false := by simpa using hx
      split
      · rename_i e
        rw [foldT_cons, less_irrefl, if_neg (by simp), foldT_above _ fun y hy => by rw [← e]; exact h1 y hy]
      · rename_i e
        have hv : lessB v.at_ x.at_ = true := by
          rcases less_or hx with h | h
          · exact absurd h e
          · exact h
        rw [foldT_cons, less_irrefl, if_neg (by simp), foldT_above]
        intro y hy
        rcases List.mem_cons.1 hy with rfl | hy
        · exact hv
        · exact less_trans hv (h1 y hy)
theorem tells_put_at {v : Ver} {l : List Ver} (h : SortV l) : tellsF (putF l v) v.at_ = if v.drop = true then ([], false) else (v.data, true) := by
  rw [tells_fold, fold_put_at _ h]
  unfold normT
  cases v.drop <;> simp
/-! the last version at a stamp -/
theorem lastGo_hit {l : List Ver} {a : St} : ∀ {n : Nat}, n ≤ l.length → ∀ (h0 : 0 ≤ lastGo l a n), ∃ h : (lastGo l a n).toNat < l.length, lessB a l[(lastGo l a n).toNat].at_ = false
  | 0, _, h => by simp [lastGo] at h
  | n + 1, hn, h => by
    have hlt : n < l.length := by omega
    cases hb : lessB a l[n].at_
    · have e : lastGo l a (n + 1) = n := by rw [lastGo_step hlt, hb]; simp
      rw [e] at h ⊢
      exact ⟨by simpa using hlt, by simpa using hb⟩
    · have e : lastGo l a (n + 1) = lastGo l a n := by rw [lastGo_step hlt, hb]; simp
      rw [e] at h ⊢
      exact lastGo_hit (by omega) h
theorem lastGo_above {l : List Ver} {a : St} : ∀ {n : Nat}, n ≤ l.length → ∀ k (h : k < l.length), lastGo l a n < k → k < n → lessB a l[k].at_ = true
  | 0, _, k, _, _, h => absurd h (Nat.not_lt_zero _)
  | n + 1, hn, k, hk, h1, h2 => by
    have hlt : n < l.length := by omega
    rw [lastGo_step hlt] at h1
    cases hb : lessB a l[n].at_
    · rw [hb] at h1
      simp at h1
      omega
    · rw [hb] at h1
      simp at h1
      rcases Nat.lt_or_ge k n with h | h
      · exact lastGo_above (by omega) k hk h1 h
      · obtain rfl : k = n := by omega
        exact hb
theorem last_hit {l : List Ver} {a : St} (h : 0 ≤ lastF l a) : ∃ h : (lastF l a).toNat < l.length, lessB a l[(lastF l a).toNat].at_ = false := lastGo_hit (Nat.le_refl _) h
theorem last_above {l : List Ver} {a : St} (k : Nat) (h : k < l.length) (hk : lastF l a < k) : lessB a l[k].at_ = true := lastGo_above (Nat.le_refl _) k h hk h
theorem last_is {l : List Ver} {a : St} {j : Int} (h0 : -1 ≤ j) (h1 : j < l.length) (h2 : ∀ h : j.toNat < l.length, 0 ≤ j → lessB a l[j.toNat].at_ = false) (h3 : ∀ k (h : k < l.length), j < k → lessB a l[k].at_ = true) : lastF l a = j := by
  have hb := lastF_bd l a
  rcases Int.lt_trichotomy (lastF l a) j with h | h | h
  · have h4 := last_above (l := l) (a := a) j.toNat (by omega) (by omega)
    rw [h2 (by omega) (by omega)] at h4
    cases h4
  · exact h
  · obtain ⟨h4, h5⟩ := last_hit (l := l) (a := a) (by omega)
    have := h3 _ h4 (by omega)
    rw [h5] at this
    cases this
/-- What the program's put does. -/
theorem put_last_miss {l : List Ver} {v : Ver} (hs : SortV l) (hne : ∀ h : (lastF l v.at_).toNat < l.length, 0 ≤ lastF l v.at_ → l[(lastF l v.at_).toNat].at_ ≠ v.at_) :
    putF l v = l.take (lastF l v.at_ + 1).toNat ++ v :: l.drop (lastF l v.at_ + 1).toNat := by
  have hb := lastF_bd l v.at_
  refine put_at (by omega) (fun k h hk => ?_) (fun k h hk => last_above k h (by omega))
  obtain ⟨h1, h2⟩ := last_hit (l := l) (a := v.at_) (by omega)
  have h3 : lessB l[(lastF l v.at_).toNat].at_ v.at_ = true := by
    rcases less_or h2 with h | h
    · exact absurd h.symm (hne h1 (by omega))
    · exact h
  rcases Nat.lt_or_ge k (lastF l v.at_).toNat with h4 | h4
  · exact less_trans (List.pairwise_iff_getElem.1 hs k _ h h1 h4) h3
  · obtain rfl : k = (lastF l v.at_).toNat := by omega
    exact h3
/-! trims -/
theorem drop_above {l : List Ver} {a : St} {n : Nat} (hn : lastF l a < n) : ∀ x ∈ l.drop n, lessB a x.at_ = true := by
  intro x hx
  obtain ⟨i, hi, rfl⟩ := List.mem_iff_getElem.1 hx
  rw [List.getElem_drop]
  exact last_above _ _ (by omega)
theorem trim_ways (l : List Ver) (a : St) : (lastF l a = -1 ∧ trimI l a = 0) ∨ ∃ j, ∃ h : j < l.length, lastF l a = j ∧ lessB a l[j].at_ = false ∧ trimI l a = if l[j].drop then j + 1 else j := by
  have hb := lastF_bd l a
  rcases Int.lt_or_le (lastF l a) 0 with h | h
  · left
    refine ⟨by omega, ?_⟩
    unfold trimI
    rw [if_pos h]
  · right
    obtain ⟨h1, h2⟩ := last_hit h
    refine ⟨_, h1, by omega, h2, ?_⟩
    unfold trimI
    rw [if_neg (by omega), List.getElem?_eq_getElem h1]
    simp
theorem tells_trim {a b : St} (hab : lessB b a = false) (l : List Ver) : tellsF (trimV l a) b = tellsF l b := by
  rw [tells_fold, tells_fold]
  unfold trimV
  rcases trim_ways l a with ⟨_, e⟩ | ⟨j, hj, e1, e2, e3⟩
  · rw [e, List.drop_zero]
  · have hb : lessB b l[j].at_ = false := less_le hab e2
    cases hd : l[j].drop
    · rw [hd] at e3
      rw [e3, if_neg (by simp)]
      conv => rhs; rw [← List.take_append_drop j l, foldT_append]
      rw [List.drop_eq_getElem_cons hj, foldT_cons, foldT_cons, hb]
      rfl
    · rw [hd] at e3
      rw [e3, if_pos rfl]
      conv => rhs; rw [← List.take_append_drop (j + 1) l, foldT_append, List.take_succ_eq_append_getElem hj, foldT_append]
      have e : foldT b (foldT b ([], false) (l.take j)) [l[j]] = (l[j].data, false) := by simp [foldT, hb, hd]
      rw [e]
      exact (norm_drop _ _ _).symm
theorem trim_trim (l : List Ver) (a : St) : trimV (trimV l a) a = trimV l a := by
  have key : trimI (trimV l a) a = 0 := by
    unfold trimV
    rcases trim_ways l a with ⟨e0, e⟩ | ⟨j, hj, e1, e2, e3⟩
    · rw [e, List.drop_zero, e]
    · cases hd : l[j].drop
      · rw [hd] at e3
        rw [e3, if_neg (by simp)]
        have hl : lastF (l.drop j) a = ((0 : Nat) : Int) := by
          refine last_is (by omega) (by simp; omega) (fun h _ => by simpa using e2) fun k h hk => ?_
          rw [List.getElem_drop]
          exact last_above _ _ (by omega)
        unfold trimI
        rw [hl]
        have : (l.drop j)[0]? = some l[j] := by simp [hj]
        simp [this, hd]
      · rw [hd] at e3
        rw [e3, if_pos rfl]
        have hl : lastF (l.drop (j + 1)) a = -1 := by
          refine last_is (by omega) (by omega) (fun h h0 => by omega) fun k h hk => ?_
          rw [List.getElem_drop]
          exact last_above _ _ (by omega)
        unfold trimI
        rw [hl]
        rfl
  have : ∀ m : List Ver, trimI m a = 0 → trimV m a = m := fun m h => by unfold trimV; rw [h, List.drop_zero]
  exact this _ key
end Go.Proofs.Ytoldelocfmpccaa
set_option linter.unusedSimpArgs false
set_option linter.unusedVariables false
namespace Go.Proofs.Ytoldelocfmpccaa

/-- A cell that may be. -/
structure GoodC (c : Cel) : Prop where
  sort : SortV c.vers
  vers : ∀ v ∈ c.vers, v.drop = true → v.data = []
  free : c.locked = false → c.lock = Lck.zero
  kept : keptB c = true
  lock : c.lock.drop = true → c.lock.data = []
structure Good (cs : List Cel) : Prop where
  sort : cs.Pairwise fun x y => ltB x.key y.key = true
  each : ∀ c ∈ cs, GoodC c
theorem sorted_iff (cs : List Cel) : Sorted cs ↔ cs.Pairwise fun x y => ltB x.key y.key = true := by
  unfold Sorted
  rw [List.pairwise_iff_getElem]
  
theorem Good.sorted {cs : List Cel} (h : Good cs) : Sorted cs := (sorted_iff cs).2 h.sort
theorem good_nil : Good [] := ⟨List.Pairwise.nil, fun c h => by cases h⟩

/-! ### locks -/
structure Wr where
  key : List UInt8
  drop : Bool
  data : List UInt8
def lockW (w : Wr) (l : Lck) : Lck := { l with drop := w.drop, data := if w.drop then [] else w.data }
def freshC (k : List UInt8) : Cel := ⟨k, [], false, Lck.zero⟩
def updC (c : Cel) (l : Lck) : Cel := { c with locked := true, lock := l }
def lockF : List Cel → List UInt8 → Lck → List Cel
  | [], k, l => [updC (freshC k) l]
  | c :: cs, k, l => if ltB c.key k then c :: lockF cs k l else if c.key = k then updC c l :: cs else updC (freshC k) l :: c :: cs
theorem lock_len : ∀ (cs : List Cel) (k : List UInt8) (l : Lck), (lockF cs k l).length ≤ cs.length + 1
  | [], k, l => by simp [lockF]
  | c :: cs, k, l => by
    have := lock_len cs k l
    unfold lockF
    split
    · simp; omega
    · split <;> simp
/-- Cells around a key. -/
theorem split_at {k : List UInt8} : ∀ {cs : List Cel}, (cs.Pairwise fun x y => ltB x.key y.key = true) → ∃ (A : List Cel) (o : Option Cel) (Z : List Cel), cs = A ++ (o.toList ++ Z) ∧ (∀ c ∈ A, ltB c.key k = true) ∧ (∀ c ∈ Z, ltB k c.key = true) ∧ (∀ c ∈ o, c.key = k) ∧
    (∀ l, lockF cs k l = A ++ updC (o.getD (freshC k)) l :: Z) ∧ posF cs k = A.length ∧ foundF cs k = o.isSome
  | [], _ => ⟨[], none, [], rfl, by simp, by simp, by simp, fun l => rfl, rfl, rfl⟩
  | c :: cs, h => by
    obtain ⟨h1, h2⟩ := List.pairwise_cons.1 h
    cases hc : ltB c.key k
    · have hp : posF (c :: cs) k = 0 := by simp [posF, hc]
      by_cases e : c.key = k
      · refine ⟨[], some c, cs, rfl, by simp, fun x hx => by rw [← e]; exact h1 x hx, fun x hx => by cases hx; exact e, fun l => by unfold lockF; rw [hc, if_neg (by simp), if_pos e]; rfl, hp, ?_⟩
        unfold foundF
        rw [hp]
        simp [e]
      · have hk : ltB k c.key = true := by
          rcases ltB_tri c.key k with h | h | h
          · rw [h] at hc; cases hc
          · exact absurd h e
          · exact h
        refine ⟨[], none, c :: cs, rfl, by simp, fun x hx => ?_, by simp, fun l => by unfold lockF; rw [hc, if_neg (by simp), if_neg e]; rfl, hp, ?_⟩
        · rcases List.mem_cons.1 hx with rfl | hx
          · exact hk
          · exact ltB_trans hk (h1 x hx)
        · unfold foundF
          rw [hp]
          simp [e]
    · obtain ⟨A, o, Z, e1, e2, e3, e4, e5, e6, e7⟩ := split_at (k := k) h2
      have hp : posF (c :: cs) k = posF cs k + 1 := by simp [posF, hc]
      refine ⟨c :: A, o, Z, by rw [e1]; rfl, fun x hx => ?_, e3, e4, fun l => by simp [lockF, hc, e5], by rw [hp, e6]; rfl, ?_⟩
      · rcases List.mem_cons.1 hx with rfl | hx
        · exact hc
        · exact e2 x hx
      · rw [← e7]
        unfold foundF
        rw [hp]
        simp
theorem lock_good {cs : List Cel} (h : Good cs) (w : Wr) (l : Lck) : Good (lockF cs w.key (lockW w l)) := by
  obtain ⟨A, o, Z, e1, e2, e3, e4, e5, e6, e7⟩ := split_at (k := w.key) h.sort
  have hs := h.sort
  rw [e1, List.pairwise_append] at hs
  obtain ⟨hA, hoZ, _⟩ := hs
  rw [List.pairwise_append] at hoZ
  have hkey : (updC (o.getD (freshC w.key)) (lockW w l)).key = w.key := by
    cases o with
    | none => rfl
    | some c => exact e4 c rfl
  rw [e5]
  refine ⟨?_, fun c hc => ?_⟩
  · rw [List.pairwise_append]
    refine ⟨hA, List.pairwise_cons.2 ⟨fun x hx => ?_, hoZ.2.1⟩, fun x hx y hy => ?_⟩
    · rw [hkey]; exact e3 x hx
    · rcases List.mem_cons.1 hy with rfl | hy
      · rw [hkey]; exact e2 x hx
      · exact ltB_trans (e2 x hx) (e3 y hy)
  · rcases List.mem_append.1 hc with hc | hc
    · exact h.each c (by rw [e1]; simp [hc])
    · rcases List.mem_cons.1 hc with rfl | hc
      · have hv : ∀ v ∈ (o.getD (freshC w.key)).vers, v.drop = true → v.data = [] := by
          cases o with
          | none => intro v hv; cases hv
          | some c => exact (h.each c (by rw [e1]; simp)).vers
        have hv2 : SortV (o.getD (freshC w.key)).vers := by
          cases o with
          | none => exact List.Pairwise.nil
          | some c => exact (h.each c (by rw [e1]; simp)).sort
        refine ⟨hv2, hv, fun h => ?_, rfl, fun h => ?_⟩
        · cases h
        · show (if w.drop = true then [] else w.data) = []
          have h : w.drop = true := h
          rw [if_pos h]
      · exact h.each c (by rw [e1]; simp [hc])

/-! ### settlings -/
def lockV (c : Cel) : Ver := ⟨c.lock.at_, c.lock.drop, c.lock.data⟩
def freeC (yes : Bool) (c : Cel) : Cel := { c with vers := if yes then putF c.vers (lockV c) else c.vers, locked := false, lock := Lck.zero }
def setlC (b : TryT) (yes : Bool) (c : Cel) : List Cel := if keptB (if mineB c b then freeC yes c else c) then [if mineB c b then freeC yes c else c] else []
def setlF (cs : List Cel) (b : TryT) (yes : Bool) : List Cel := cs.flatMap (setlC b yes)
theorem flat_len_le {f : Cel → List Cel} (hf : ∀ c, (f c).length ≤ 1) : ∀ cs : List Cel, (cs.flatMap f).length ≤ cs.length
  | [] => by simp
  | c :: cs => by
    have := flat_len_le hf cs
    have := hf c
    rw [List.flatMap_cons, List.length_append, List.length_cons]
    omega
theorem len_one (p : Bool) (y : Cel) : (if p = true then [y] else []).length ≤ 1 := by cases p <;> simp
theorem setlC_len (b : TryT) (yes : Bool) (c : Cel) : (setlC b yes c).length ≤ 1 := len_one _ _
theorem setlF_len (cs : List Cel) (b : TryT) (yes : Bool) : (setlF cs b yes).length ≤ cs.length := flat_len_le (setlC_len b yes) cs
theorem flat_good {f : Cel → List Cel} (hk : ∀ c x, x ∈ f c → x.key = c.key) (h1 : ∀ c, (f c).length ≤ 1) (hg : ∀ c x, GoodC c → x ∈ f c → GoodC x) : ∀ {cs : List Cel}, Good cs → Good (cs.flatMap f)
  | [], _ => good_nil
  | c :: cs, h => by
    obtain ⟨h2, h3⟩ := List.pairwise_cons.1 h.sort
    have ih := flat_good hk h1 hg (cs := cs) ⟨h3, fun x hx => h.each x (by simp [hx])⟩
    have hc := h1 c
    rw [List.flatMap_cons]
    match hf : f c, hc with
    | [], _ => simpa using ih
    | [y], _ =>
      refine ⟨List.pairwise_cons.2 ⟨fun x hx => ?_, ih.sort⟩, fun x hx => ?_⟩
      · obtain ⟨d, hd, hx⟩ := List.mem_flatMap.1 hx
        rw [hk c y (by rw [hf]; simp), hk d x hx]
        exact h2 d hd
      · rcases List.mem_cons.1 hx with rfl | hx
        · exact hg c _ (h.each c (by simp)) (by rw [hf]; simp)
        · exact ih.each x hx
theorem mem_one {p : Bool} {x y : Cel} (h : x ∈ if p then [y] else []) : p = true ∧ x = y := by
  cases p
  · simp at h
  · simpa using h
theorem free_good {c : Cel} (h : GoodC c) (yes : Bool) (hk : keptB (freeC yes c) = true) : GoodC (freeC yes c) := by
  refine ⟨?_, ?_, fun _ => rfl, hk, fun h => ?_⟩
  · cases yes
    · exact h.sort
    · exact put_sort h.sort _
  · cases yes
    · exact h.vers
    · intro v hv hd
      rcases put_mem hv with rfl | hv
      · exact h.lock hd
      · exact h.vers v hv hd
  · cases h
theorem setlC_mem {b : TryT} {yes : Bool} {c x : Cel} (h : x ∈ setlC b yes c) : keptB x = true ∧ x = if mineB c b then freeC yes c else c := by
  obtain ⟨h1, rfl⟩ := mem_one h
  exact ⟨h1, rfl⟩
theorem setl_good {cs : List Cel} (h : Good cs) (b : TryT) (yes : Bool) : Good (setlF cs b yes) := by
  refine flat_good (fun c x hx => ?_) (setlC_len b yes) (fun c x hc hx => ?_) h
  · obtain ⟨_, rfl⟩ := setlC_mem hx
    split <;> rfl
  · obtain ⟨hk, rfl⟩ := setlC_mem hx
    split
    · rename_i hm
      rw [if_pos hm] at hk
      exact free_good hc yes hk
    · exact hc
theorem setlC_id {b : TryT} {yes : Bool} {c : Cel} (h : GoodC c) (hm : mineB c b = false) : setlC b yes c = [c] := by
  unfold setlC
  rw [hm]
  simp [h.kept]
theorem flat_id {f : Cel → List Cel} : ∀ {cs : List Cel}, (∀ c ∈ cs, f c = [c]) → cs.flatMap f = cs
  | [], _ => rfl
  | c :: cs, h => by
    rw [List.flatMap_cons, h c (by simp), flat_id fun x hx => h x (by simp [hx])]
    rfl

/-! ### trims -/
theorem trimC_mem {a : St} {c x : Cel} (h : x ∈ trimC a c) : keptB x = true ∧ x = { c with vers := trimV c.vers a } := by
  obtain ⟨h1, rfl⟩ := mem_one h
  exact ⟨h1, rfl⟩
theorem trimC_len (a : St) (c : Cel) : (trimC a c).length ≤ 1 := by unfold trimC; split <;> simp
theorem trim_good {cs : List Cel} (h : Good cs) (a : St) : Good (trimF cs a) := by
  refine flat_good (fun c x hx => ?_) (trimC_len a) (fun c x hc hx => ?_) h
  · obtain ⟨_, rfl⟩ := trimC_mem hx
    rfl
  · obtain ⟨hk, rfl⟩ := trimC_mem hx
    exact ⟨hc.sort.sublist (List.drop_sublist _ _), fun v hv => hc.vers v (List.mem_of_mem_drop hv), hc.free, hk, hc.lock⟩

/-! ### what is told -/
theorem getF_split {cs A Z : List Cel} {o : Option Cel} {k : List UInt8} (e : cs = A ++ (o.toList ++ Z)) (hp : posF cs k = A.length) (hf : foundF cs k = o.isSome) (a : St) : getF cs k a = (o.map fun c => tellsF c.vers a).getD ([], false) := by
  cases o with
  | none => exact getF_miss hf
  | some c =>
    have : cs[posF cs k]? = some c := by
      rw [hp, e]
      simp
    unfold getF
    rw [this]
    simp [hf]
theorem heldF_split {cs A Z : List Cel} {o : Option Cel} {k : List UInt8} (e : cs = A ++ (o.toList ++ Z)) (hp : posF cs k = A.length) (hf : foundF cs k = o.isSome) : heldF cs k = (o.map fun c => if c.locked then (c.lock, true) else (Lck.zero, false)).getD (Lck.zero, false) := by
  cases o with
  | none => exact heldF_miss hf
  | some c =>
    have : cs[posF cs k]? = some c := by
      rw [hp, e]
      simp
    unfold heldF
    rw [this]
    simp [hf]
/-- The cell of a key. -/
def lookC (cs : List Cel) (k : List UInt8) : Option Cel := cs.find? fun c => decide (c.key = k)
theorem look_split {A Z : List Cel} {o : Option Cel} {k : List UInt8} (hA : ∀ c ∈ A, ltB c.key k = true) (hZ : ∀ c ∈ Z, ltB k c.key = true) (ho : ∀ c ∈ o, c.key = k) : lookC (A ++ (o.toList ++ Z)) k = o := by
  unfold lookC
  have h1 : A.find? (fun c => decide (c.key = k)) = none := by
    rw [List.find?_eq_none]
    intro c hc
    have := ltB_ne (hA c hc)
    simpa using this
  rw [List.find?_append, h1, Option.none_or]
  cases o with
  | none =>
    rw [Option.toList_none, List.nil_append, List.find?_eq_none]
    intro c hc
    have := ltB_ne (hZ c hc)
    simpa using fun h : c.key = k => this h.symm
  | some c =>
    have := ho c rfl
    simp [this]
theorem getF_look {cs : List Cel} (h : cs.Pairwise fun x y => ltB x.key y.key = true) (k : List UInt8) (a : St) : getF cs k a = ((lookC cs k).map fun c => tellsF c.vers a).getD ([], false) := by
  obtain ⟨A, o, Z, e1, e2, e3, e4, e5, e6, e7⟩ := split_at (k := k) h
  rw [getF_split e1 e6 e7]
  congr 1
  rw [e1, look_split e2 e3 e4]
theorem heldF_look {cs : List Cel} (h : cs.Pairwise fun x y => ltB x.key y.key = true) (k : List UInt8) : heldF cs k = ((lookC cs k).map fun c => if c.locked then (c.lock, true) else (Lck.zero, false)).getD (Lck.zero, false) := by
  obtain ⟨A, o, Z, e1, e2, e3, e4, e5, e6, e7⟩ := split_at (k := k) h
  rw [heldF_split e1 e6 e7]
  congr 1
  rw [e1, look_split e2 e3 e4]
theorem mineF_no {cs : List Cel} {b : TryT} (h : mineF cs b = false) : ∀ c ∈ cs, mineB c b = false := by
  intro c hc
  unfold mineF at h
  rw [List.any_eq_false] at h
  simpa using h c hc
/-- A lock that is settled, where the attempt had none. -/
theorem lock_setl {cs : List Cel} (h : Good cs) (w : Wr) (l : Lck) (hm : mineF cs l.by_ = false) (yes : Bool) : ∃ (A : List Cel) (o : Option Cel) (Z : List Cel), cs = A ++ (o.toList ++ Z) ∧ (∀ c ∈ A, ltB c.key w.key = true) ∧ (∀ c ∈ Z, ltB w.key c.key = true) ∧ (∀ c ∈ o, c.key = w.key) ∧
    lockF cs w.key (lockW w l) = A ++ (updC (o.getD (freshC w.key)) (lockW w l)) :: Z ∧
    setlF (lockF cs w.key (lockW w l)) l.by_ yes = A ++ (setlC l.by_ yes (updC (o.getD (freshC w.key)) (lockW w l)) ++ Z) ∧ mineB (updC (o.getD (freshC w.key)) (lockW w l)) l.by_ = true := by
  obtain ⟨A, o, Z, e1, e2, e3, e4, e5, e6, e7⟩ := split_at (k := w.key) h.sort
  refine ⟨A, o, Z, e1, e2, e3, e4, e5 _, ?_, ?_⟩
  · rw [e5]
    unfold setlF
    rw [List.flatMap_append, List.flatMap_cons]
    have hn := mineF_no hm
    rw [flat_id fun c hc => setlC_id (h.each c (by rw [e1]; simp [hc])) (hn c (by rw [e1]; simp [hc])), flat_id fun c hc => setlC_id (h.each c (by rw [e1]; simp [hc])) (hn c (by rw [e1]; simp [hc]))]
  · simp [mineB, lockW, updC]
theorem look_other {A Z : List Cel} {m m' : List Cel} {k : List UInt8} (h1 : ∀ c ∈ m, c.key ≠ k) (h2 : ∀ c ∈ m', c.key ≠ k) : lookC (A ++ (m ++ Z)) k = lookC (A ++ (m' ++ Z)) k := by
  unfold lookC
  have e : ∀ m : List Cel, (∀ c ∈ m, c.key ≠ k) → m.find? (fun c => decide (c.key = k)) = none := fun m h => by
    rw [List.find?_eq_none]
    intro c hc
    simpa using h c hc
  simp only [List.find?_append, e m h1, e m' h2, Option.none_or]
theorem setlC_keys {b : TryT} {yes : Bool} {c : Cel} {k : List UInt8} (h : c.key = k) : ∀ x ∈ setlC b yes c, x.key = k := by
  intro x hx
  obtain ⟨_, rfl⟩ := setlC_mem hx
  split
  · exact h
  · exact h
theorem upd_key {o : Option Cel} {k : List UInt8} {l : Lck} (h : ∀ c ∈ o, c.key = k) : (updC (o.getD (freshC k)) l).key = k := by
  cases o with
  | none => rfl
  | some c => exact h c rfl
/-- MvccApart, plain. -/
theorem apart_plain {cs : List Cel} (h : Good cs) (w : Wr) (l : Lck) (hm : mineF cs l.by_ = false) (yes : Bool) {key : List UInt8} (hk : key ≠ w.key) (a : St) :
    getF (setlF (lockF cs w.key (lockW w l)) l.by_ yes) key a = getF cs key a ∧ heldF (lockF cs w.key (lockW w l)) key = heldF cs key := by
  obtain ⟨A, o, Z, e1, e2, e3, e4, e5, e6, e7⟩ := lock_setl h w l hm yes
  have hg := lock_good h w l
  have hne : ∀ c ∈ o.toList, c.key ≠ key := fun c hc => by
    rw [e4 c (by simpa using hc)]; exact fun e => hk e.symm
  refine ⟨?_, ?_⟩
  · rw [getF_look (setl_good hg _ _).sort, getF_look h.sort, e6]
    conv => rhs; rw [e1]
    rw [look_other (fun c hc => by rw [setlC_keys (upd_key e4) c hc]; exact fun e => hk e.symm) hne]
  · rw [heldF_look hg.sort, heldF_look h.sort, e5]
    conv => rhs; rw [e1]
    rw [← List.singleton_append, look_other (m' := o.toList) (fun c hc => by
      obtain rfl := List.mem_singleton.1 hc
      rw [upd_key e4]; exact fun e => hk e.symm) hne]
theorem find_one {l : List Cel} {k : List UInt8} (h : ∀ c ∈ l, c.key = k) (h1 : l.length ≤ 1) : l = l.head?.toList := by
  match l, h1 with
  | [], _ => rfl
  | [c], _ => rfl
/-- MvccPast, plain. -/
theorem past_plain {cs : List Cel} (h : Good cs) (w : Wr) (l : Lck) (hm : mineF cs l.by_ = false) (yes : Bool) (a : St) :
    (lessB a l.at_ = true ∨ yes = false → getF (setlF (lockF cs w.key (lockW w l)) l.by_ yes) w.key a = getF cs w.key a) ∧
    (yes = true → getF (setlF (lockF cs w.key (lockW w l)) l.by_ yes) w.key l.at_ = if w.drop = true then ([], false) else (w.data, true)) := by
  obtain ⟨A, o, Z, e1, e2, e3, e4, e5, e6, e7⟩ := lock_setl h w l hm yes
  have hg := lock_good h w l
  have hq := setl_good hg l.by_ yes
  have key : ∀ b, getF (setlF (lockF cs w.key (lockW w l)) l.by_ yes) w.key b = tellsF (if yes then putF (o.getD (freshC w.key)).vers ⟨l.at_, w.drop, if w.drop then [] else w.data⟩ else (o.getD (freshC w.key)).vers) b := by
    intro b
    have hks := setlC_keys (b := l.by_) (yes := yes) (upd_key (l := lockW w l) e4)
    rw [getF_look hq.sort, e6, find_one hks (setlC_len _ _ _), look_split e2 e3 (fun c hc => hks c (List.mem_of_head? hc))]
    unfold setlC
    rw [e7]
    simp only [if_true]
    cases hkb : keptB (freeC yes (updC (o.getD (freshC w.key)) (lockW w l)))
    · have hv : (freeC yes (updC (o.getD (freshC w.key)) (lockW w l))).vers = [] := by
        simpa [keptB, freeC] using hkb
      have : (if yes then putF (o.getD (freshC w.key)).vers ⟨l.at_, w.drop, if w.drop then [] else w.data⟩ else (o.getD (freshC w.key)).vers) = [] := hv
      rw [this]
      rfl
    · rfl
  have hold : getF cs w.key a = tellsF (o.getD (freshC w.key)).vers a := by
    rw [getF_look h.sort]
    conv => lhs; rw [e1]
    rw [look_split e2 e3 e4]
    cases o <;> rfl
  refine ⟨fun hor => ?_, fun hy => ?_⟩
  · rw [key, hold]
    cases yes
    · rfl
    · rcases hor with h1 | h1
      · exact tells_put_low (v := ⟨l.at_, w.drop, if w.drop then [] else w.data⟩) h1 _
      · cases h1
  · subst hy
    rw [key]
    have hs : SortV (o.getD (freshC w.key)).vers := by
      cases o with
      | none => exact List.Pairwise.nil
      | some c => exact (h.each c (by rw [e1]; simp)).sort
    have := tells_put_at (v := ⟨l.at_, w.drop, if w.drop then [] else w.data⟩) hs
    simp only [if_true]
    rw [this]
    cases w.drop <;> rfl
/-- MvccFree, plain. -/
theorem free_plain {cs : List Cel} (h : Good cs) (w : Wr) (l : Lck) :
    heldF (lockF cs w.key (lockW w l)) w.key = (lockW w l, true) ∧ ((heldF cs w.key).2 = false → mineF cs l.by_ = false → setlF (lockF cs w.key (lockW w l)) l.by_ false = cs) := by
  have hg := lock_good h w l
  refine ⟨?_, fun hh hm => ?_⟩
  · obtain ⟨A, o, Z, e1, e2, e3, e4, e5, e6, e7⟩ := split_at (k := w.key) h.sort
    have := look_split (o := some (updC (o.getD (freshC w.key)) (lockW w l))) e2 e3 (fun c hc => by cases hc; exact upd_key e4)
    rw [heldF_look hg.sort, e5]
    rw [show A ++ (updC (o.getD (freshC w.key)) (lockW w l)) :: Z = A ++ ((some (updC (o.getD (freshC w.key)) (lockW w l))).toList ++ Z) from rfl, this]
    rfl
  · obtain ⟨A, o, Z, e1, e2, e3, e4, e5, e6, e7⟩ := lock_setl h w l hm false
    rw [heldF_look h.sort] at hh
    have hlk : lookC cs w.key = o := by conv => lhs; rw [e1]
                                        exact look_split e2 e3 e4
    rw [hlk] at hh
    rw [e6]
    conv => rhs; rw [e1]
    congr 2
    unfold setlC
    rw [e7]
    cases o with
    | none => rfl
    | some c =>
      have hc := h.each c (by rw [e1]; simp)
      have hl : c.locked = false := by
        cases hl : c.locked
        · rfl
        · rw [Option.map_some, Option.getD_some, hl] at hh
          cases hh
      have hz := hc.free hl
      have hk := hc.kept
      have : freeC false (updC ((some c).getD (freshC w.key)) (lockW w l)) = c := by
        unfold freeC
        cases c
        simp at hl hz ⊢
        simp [hl, hz, updC]
      rw [if_pos rfl, this, hk]
      rfl
/-! MvccTurns, plain. -/
theorem setlC_turn (a b : TryT) (hab : a ≠ b) (x y : Bool) (c : Cel) : (setlC a x c).flatMap (setlC b y) = (setlC b y c).flatMap (setlC a x) := by
  have hfree : ∀ (z : Bool) (t : TryT), mineB (freeC z c) t = false := fun z t => by simp [mineB, freeC]
  have hnot : ¬ (mineB c a = true ∧ mineB c b = true) := by
    rintro ⟨h1, h2⟩
    simp [mineB] at h1 h2
    exact hab (h1.2.symm.trans h2.2)
  have one : ∀ (t : TryT) (z : Bool) (d : Cel), mineB d t = false → keptB d = true → setlC t z d = [d] := fun t z d h1 h2 => by
    unfold setlC; rw [h1]; simp [h2]
  have none_ : ∀ (t : TryT) (z : Bool) (d : Cel), mineB d t = false → keptB d = false → setlC t z d = [] := fun t z d h1 h2 => by
    unfold setlC; rw [h1]; simp [h2]
  cases ha : mineB c a
  · cases hb : mineB c b
    · cases hk : keptB c
      · rw [none_ a x c ha hk, none_ b y c hb hk]; rfl
      · rw [one a x c ha hk, one b y c hb hk]
        simp [one a x c ha hk, one b y c hb hk]
    · have hk : keptB c = true := by
        simp [mineB] at hb
        simp [keptB, hb.1]
      rw [one a x c ha hk]
      unfold setlC
      rw [hb]
      cases hq : keptB (freeC y c)
      · simp [hb, hq]
      · simp [hb, hq, hfree]
  · cases hb : mineB c b
    · have hk : keptB c = true := by
        simp [mineB] at ha
        simp [keptB, ha.1]
      rw [one b y c hb hk]
      unfold setlC
      rw [ha]
      cases hq : keptB (freeC x c)
      · simp [ha, hq]
      · simp [ha, hq, hfree]
    · exact absurd ⟨ha, hb⟩ hnot
theorem flat_flat {f g : Cel → List Cel} {F G : Cel → List Cel} (h : ∀ c, (f c).flatMap g = (F c).flatMap G) : ∀ cs : List Cel, (cs.flatMap f).flatMap g = (cs.flatMap F).flatMap G
  | [] => rfl
  | c :: cs => by
    simp only [List.flatMap_cons, List.flatMap_append, h c, flat_flat h cs]
theorem turn_plain (cs : List Cel) (a b : TryT) (hab : a ≠ b) (x y : Bool) : setlF (setlF cs a x) b y = setlF (setlF cs b y) a x := flat_flat (setlC_turn a b hab x y) cs
theorem twice_plain (cs : List Cel) (a : TryT) (x : Bool) : setlF (setlF cs a x) a (!x) = setlF cs a x := by
  have key : ∀ c, (setlC a x c).flatMap (setlC a (!x)) = setlC a x c := by
    intro c
    unfold setlC
    cases ha : mineB c a
    · cases hk : keptB c <;> simp [ha, hk]
    · have hf : mineB (freeC x c) a = false := by simp [mineB, freeC]
      cases hk : keptB (freeC x c)
      · simp [hk]
      · simp [hk, hf]
  unfold setlF
  induction cs with
  | nil => rfl
  | cons c cs ih => simp only [List.flatMap_cons, List.flatMap_append, key c, ih]
/-! MvccTrims, plain. -/
theorem pairs_trim {a b : St} (hab : lessB b a = false) (lo hi : List UInt8) (cs : List Cel) : pairsF b (withinF (trimF cs a) lo hi) = pairsF b (withinF cs lo hi) := by
  unfold pairsF withinF trimF
  induction cs with
  | nil => rfl
  | cons c cs ih =>
    rw [List.flatMap_cons, List.filter_append, List.flatMap_append, ih]
    have key : ((trimC a c).filter fun c => inB lo hi c.key).flatMap (pairF b) = if inB lo hi c.key = true then pairF b c else [] := by
      have e : pairF b { c with vers := trimV c.vers a } = pairF b c := by
        unfold pairF
        simp only [tells_trim hab]
      unfold trimC
      cases hk : keptB { c with vers := trimV c.vers a }
      · have hv : trimV c.vers a = [] := by
          simp [keptB] at hk
          exact hk.2
        have : pairF b c = [] := by
          rw [← e, hv]
          rfl
        simp [this]
      · simp only [if_true, List.filter_cons, List.filter_nil]
        split <;> simp [e]
    rw [key, List.filter_cons]
    split <;> simp
theorem trim_twice (cs : List Cel) (a : St) : trimF (trimF cs a) a = trimF cs a := by
  have key : ∀ c, (trimC a c).flatMap (trimC a) = trimC a c := by
    intro c
    unfold trimC
    cases hk : keptB { c with vers := trimV c.vers a }
    · simp
    · simp [trim_trim, hk]
  unfold trimF
  induction cs with
  | nil => rfl
  | cons c cs ih => simp only [List.flatMap_cons, List.flatMap_append, key c, ih]

/-! ### runs of operations -/
structure OpT where
  kind : Int
  w : Wr
  l : Lck
  yes : Bool
def kindN (k : Int) : Int := k.emod 3
def opF (cs : List Cel) (o : OpT) : List Cel := if kindN o.kind = 0 then lockF cs o.w.key (lockW o.w o.l) else if kindN o.kind = 1 then setlF cs o.l.by_ o.yes else trimF cs o.l.at_
def runF (ops : List OpT) : List Cel := ops.foldl opF []
theorem runF_step {ops : List OpT} {k : Nat} (h : k < ops.length) : runF (ops.take (k + 1)) = opF (runF (ops.take k)) ops[k] := by
  unfold runF
  rw [List.take_succ_eq_append_getElem h, List.foldl_append]
  rfl
theorem opF_good {cs : List Cel} (h : Good cs) (o : OpT) : Good (opF cs o) := by
  unfold opF
  split
  · exact lock_good h _ _
  · split
    · exact setl_good h _ _
    · exact trim_good h _
/-- Cells of which there are at most n, with at most n versions each. -/
def Few (n : Nat) (cs : List Cel) : Prop := cs.length ≤ n ∧ ∀ c ∈ cs, c.vers.length ≤ n
theorem opF_few {cs : List Cel} {n : Nat} (hs : Good cs) (h : Few n cs) (o : OpT) : Few (n + 1) (opF cs o) := by
  unfold opF
  split
  · refine ⟨by have := lock_len cs o.w.key (lockW o.w o.l); have := h.1; omega, fun c hc => ?_⟩
    obtain ⟨A, q, Z, e1, e2, e3, e4, e5, _⟩ := split_at (k := o.w.key) hs.sort
    rw [e5] at hc
    have hin : ∀ x ∈ cs, x.vers.length ≤ n + 1 := fun x hx => by have := h.2 x hx; omega
    rcases List.mem_append.1 hc with hc | hc
    · exact hin c (by rw [e1]; simp [hc])
    · rcases List.mem_cons.1 hc with rfl | hc
      · cases q with
        | none => exact Nat.zero_le _
        | some d => exact hin d (by rw [e1]; simp)
      · exact hin c (by rw [e1]; simp [hc])
  · split
    · refine ⟨by have := setlF_len cs o.l.by_ o.yes; have := h.1; omega, fun c hc => ?_⟩
      obtain ⟨d, hd, hx⟩ := List.mem_flatMap.1 hc
      obtain ⟨_, rfl⟩ := setlC_mem hx
      have := h.2 d hd
      split
      · show (if o.yes = true then putF d.vers (lockV d) else d.vers).length ≤ n + 1
        split
        · have := (put_len d.vers (lockV d)).1
          omega
        · omega
      · omega
    · refine ⟨by have := trimF_len o.l.at_ cs; have := h.1; omega, fun c hc => ?_⟩
      obtain ⟨d, hd, hx⟩ := List.mem_flatMap.1 hc
      obtain ⟨_, rfl⟩ := trimC_mem hx
      have := h.2 d hd
      show (List.drop _ _).length ≤ n + 1
      rw [List.length_drop]
      omega
theorem run_good (ops : List OpT) : ∀ k, k ≤ ops.length → Good (runF (ops.take k)) ∧ Few k (runF (ops.take k))
  | 0, _ => ⟨good_nil, by simp [Few, runF]⟩
  | k + 1, h => by
    obtain ⟨h1, h2⟩ := run_good ops k (by omega)
    rw [runF_step (by omega)]
    exact ⟨opF_good h1 _, opF_few h1 h2 _⟩
theorem Few.mono {n m : Nat} {cs : List Cel} (h : Few n cs) (hm : n ≤ m) : Few m cs := ⟨Nat.le_trans h.1 hm, fun c hc => Nat.le_trans (h.2 c hc) hm⟩
end Go.Proofs.Ytoldelocfmpccaa
set_option linter.unusedSimpArgs false
set_option linter.unusedVariables false
namespace Go.Proofs.Ytoldelocfmpccaa
open Go.RowKit

section
variable {P : Program} {t e : TypeId} {size bytes : Nat} {z : Value}
/-- copy of structs into a row that is known whole. -/
theorem run_cpN (T : SlT P t e size bytes z) (w : World) (ty : TypeId) (g off dLen dCap sLen sCap k : Nat) (ad : Addr) (cur cs : List Value) (u : TypeId) (hg : Row w g u cur) (hk : k = Nat.min sLen dLen) (hl : cs.length = k * size)
    (hc : ∀ j v, cs[j]? = some v → w.cell? (ad.add j) = some v) (hfit : off + cs.length ≤ cur.length) (h1 : ∀ v ∈ cs, v.oneCell' = true) :
    ∃ w', (Builtin.copy_ #[t, t] ty #[.slice (some ⟨g, off, none⟩) dLen dCap, .slice (some ad) sLen sCap]).run P w = .ok (goInt k) w' ∧ Row w' g u (cur.take off ++ cs ++ cur.drop (off + cs.length)) ∧ Same (fun k => k ≠ g) w w' := by
  obtain ⟨i, hi, hz, h4, h5⟩ := info_parts T.info
  have hld := run_loadCells_list (P := P) w ad cs hc
  rw [hl] at hld
  have hst := run_storeCells_at (P := P) g off u cs 0 cur.toArray w hg (by simpa using hfit) h1
  refine ⟨w.setRow g (cur.take off ++ cs ++ cur.drop (off + cs.length)).toArray, ?_, ?_, ?_⟩
  · simp only [Nat.add_zero, List.toList_toArray] at hst
    simp [Builtin.copy_, run_underlying T.und, Builtin.lenOf, Builtin.firstCells, sizeOf, typeInfo, hi, h4, ← hk, hld, hst]
  · exact setRow_heap w g cur.toArray _ u (0, 0) hg
  · exact ⟨rfl, rfl, rfl, by simp [World.setRow], fun k _ hk => setRow_other w g k _ hk⟩
theorem wpList_cpN (T : SlT P t e size bytes z) (w : World) {ops : Array Oper} {rest : List Oper} {o : Oper} {a : Act} {Q : Exit → Act → World → Prop} (hgd : o.guard = none) (d s : Operand)
    (ho : o.op = .call { callee := .builtin .copy, args := #[d, s], argTypes := #[t, t] }) (g off dLen dCap sLen sCap k : Nat) (ad : Addr) (hd : a.eval d = .slice (some ⟨g, off, none⟩) dLen dCap) (hs : a.eval s = .slice (some ad) sLen sCap)
    (cur cs : List Value) (u : TypeId) (hg : Row w g u cur) (hk : k = Nat.min sLen dLen) (hl : cs.length = k * size)
    (hc : ∀ j v, cs[j]? = some v → w.cell? (ad.add j) = some v) (hfit : off + cs.length ≤ cur.length) (h1 : ∀ v ∈ cs, v.oneCell' = true)
    (h : ∀ w', Row w' g u (cur.take off ++ cs ++ cur.drop (off + cs.length)) → Same (fun k => k ≠ g) w w' → wpList P ops Q rest (a.put o.dst (goInt k)) w') : wpList P ops Q (o :: rest) a w := by
  obtain ⟨w', hr, h2, h3⟩ := run_cpN T w o.type g off dLen dCap sLen sCap k ad cur cs u hg hk hl hc hfit h1
  refine wpList_plain hgd fun K hK => ?_
  unfold Oper.wp execOp
  simp only [ho, resolve, invoke, builtin, Sem.run_bind, Sem.run_pure, Result.andThen_ok, List.map_toArray, List.map_cons, List.map_nil, hd, hs, hr]
  exact hK _ _ (h w' h2 h3)
theorem step_cpN (T : SlT P t e size bytes z) {w : World} {ops : Array Oper} {o : Oper} {a : Act} {K : Act → World → Prop} {Q : Exit → Act → World → Prop} {E : Prop} (hgd : o.guard = none) (d s : Operand)
    (ho : o.op = .call { callee := .builtin .copy, args := #[d, s], argTypes := #[t, t] }) (g off dLen dCap sLen sCap k : Nat) (ad : Addr) (hd : a.eval d = .slice (some ⟨g, off, none⟩) dLen dCap) (hs : a.eval s = .slice (some ad) sLen sCap)
    (cur cs : List Value) (u : TypeId) (hg : Row w g u cur) (hk : k = Nat.min sLen dLen) (hl : cs.length = k * size)
    (hc : ∀ j v, cs[j]? = some v → w.cell? (ad.add j) = some v) (hfit : off + cs.length ≤ cur.length) (h1 : ∀ v ∈ cs, v.oneCell' = true)
    (h : ∀ w', Hid (Row w' g u (cur.take off ++ cs ++ cur.drop (off + cs.length))) → Hid (Same (fun k => k ≠ g) w w') → K (a.put o.dst (goInt k)) w') : if Region.wanted o (yielded ops a.tmps) = true then Oper.wp P o a w K Q else E := by
  obtain ⟨w', hr, h2, h3⟩ := run_cpN T w o.type g off dLen dCap sLen sCap k ad cur cs u hg hk hl hc hfit h1
  have hw : Region.wanted o (yielded ops a.tmps) = true := by simp [Region.wanted, hgd]
  rw [if_pos hw]
  unfold Oper.wp execOp
  simp only [ho, resolve, invoke, builtin, Sem.run_bind, Sem.run_pure, Result.andThen_ok, List.map_toArray, List.map_cons, List.map_nil, hd, hs, hr]
  exact h w' (Lib.hid h2) (Lib.hid h3)
/-- append(s[:i], make(.., k)...) where there is no room. -/
theorem wpList_apz (T : SlT P t e size bytes z) (w : World) {ops : Array Oper} {rest : List Oper} {o : Oper} {a : Act} {Q : Exit → Act → World → Prop} (hgd : o.guard = none) (s x : Operand) (tn : TypeId)
    (ho : o.op = .call { callee := .builtin .append, args := #[s, x], argTypes := #[t, tn] }) (hn : P.underlying tn = some (.int .i64)) (ad : Addr) (i c k M : Nat) (K : Int) (olds : List Value) (hs : a.eval s = .slice (some ad) i c) (hx : a.eval x = .int .i64 K) (hK : K = k) (hM : i + k = M)
    (hl : olds.length = i * size) (hc : ∀ j v, olds[j]? = some v → w.cell? (ad.add j) = some v) (h0 : 0 < k) (hg : c < i + k) (h63 : i + k ≤ 1000001) (hb : bytes ≤ 1000)
    (h : ∀ w' G Z, Row w' w.heap.size e (olds ++ Z) → Z.length = (G - i) * size → M ≤ G → G ≤ maxLen → Same (fun _ => True) w w' → w.heap.size < w'.heap.size → wpList P ops Q rest (a.put o.dst (.slice (some ⟨w.heap.size, 0, none⟩) M G)) w') : wpList P ops Q (o :: rest) a w := by
  subst hM
  obtain ⟨ti, hi, hz, h4, h5⟩ := info_parts T.info
  subst hK
  have hold : (Builtin.firstCells ti.size i (.slice (some ad) i c)).run P w.drew = .ok olds.toArray w.drew := run_firstCells_some (w := w.drew) ti.size i ad i c olds (by rw [h4]; exact hl) hc
  have hbb : (i + k) * bytes ≤ 140737488355328 := Nat.le_trans (Nat.mul_le_mul h63 hb) (by decide)
  have hkb : k * bytes ≤ 281474976710656 := by
    have : k * bytes ≤ (i + k) * bytes := Nat.mul_le_mul_right _ (by omega)
    omega
  have hr := Lib.run_append_grow_zeros (P := P) w t tn o.type e ti z .i64 .i64 T.und hn hi hz (some ad) i c olds hold k h0 (by rw [h4]; exact T.pos) hg (by omega) (by rw [h5]; exact hkb) (by rw [h5]; exact growslice_fits hg hbb)
  refine Lib.wpList_append_run w hgd s x t tn ho _ _ hs hx _ _ hr ?_
  have hge := grownCap_ge w (i + k) c e
  have hle := grownCap_le_maxLen w (i + k) c e (by simp only [maxLen]; omega)
  generalize grownCap w (i + k) c e = G at *
  refine h _ G ((Builtin.zeroCells z.cells k).toList ++ (Builtin.zeroCells z.cells (G - (i + k))).toList) ?_ ?_ hge hle (((Same.refl _ _).drew).alloc _) (by simp)
  · have := Row.new w.drew e (olds ++ ((Builtin.zeroCells z.cells k).toList ++ (Builtin.zeroCells z.cells (G - (i + k))).toList))
    have e1 : (olds ++ ((Builtin.zeroCells z.cells k).toList ++ (Builtin.zeroCells z.cells (G - (i + k))).toList)).toArray = olds.toArray ++ Builtin.zeroCells z.cells k ++ Builtin.zeroCells z.cells (G - (i + k)) := by
      apply Array.toList_inj.1
      simp
    unfold Row at this ⊢
    rw [e1] at this ⊢
    exact this
  · rw [List.length_append, Array.length_toList, Array.length_toList, size_zeroCells, size_zeroCells, T.zs, ← Nat.add_mul]
    congr 1
    omega
/-- slices.overlaps at two blocks. -/
theorem run_apart (T : SlT P t e size bytes z) {f : FuncId} {fn : Func} (hf : P.funcs[f]? = some fn) (hname : (fn.name == "runtime.NumGoroutine") = false) (hb : fn.body.isNone = true) (hn : Extern.findNext fn = none) (tb : TypeId) (he : Extern.find fn = some (Extern.SlicesOverlaps.overlaps #[t, t] #[tb]))
    (w : World) (x g : Nat) (xs ys : List Value) (off la ca lb cb : Nat) (hx : Row w x e xs) (hg : Row w g e ys) (hy : ys ≠ []) (hne : x ≠ g) :
    (callFunc f #[.slice (some ⟨x, 0, none⟩) la ca, .slice (some ⟨g, off, none⟩) lb cb]).run P w = .ok (.value (.bool false)) w := by
  obtain ⟨i, hi, hz, h4, h5⟩ := info_parts T.info
  have sx : w.shape? x = some (e, xs.length) := by unfold Row at hx; simp [World.shape?, hx]
  have sg : w.shape? g = some (e, ys.length) := by unfold Row at hg; simp [World.shape?, hg]
  rw [run_callFunc_extern hf hname hb hn he, Lib.run_overlaps_apart w t tb e T.und size (fun w => by simp [sizeOf, typeInfo, hi, h4]) ⟨x, 0, none⟩ ⟨g, off, none⟩ la ca lb cb hne e e xs.length ys.length sx sg (by intro h; exact hy (List.eq_nil_of_length_eq_zero h)) (hx.frozen 0) (hx.frozen _)]
  rfl
end
section
variable {α : Type} {f : α → List Value} {n : Nat} {e : TypeId} {w : World} {B : Nat} {v : Value} {l : List α}
theorem OwnR.ways (h : OwnR f n e w B v l) : (v = .slice none 0 0 ∧ l = []) ∨ ∃ g cap cur, v = .slice (some ⟨g, 0, none⟩) l.length cap ∧ B ≤ g ∧ Row w g e cur ∧ l.length ≤ cap ∧ cap ≤ maxLen ∧ cur.length = cap * n ∧ cur.take (l.length * n) = l.flatMap f := by
  rcases ownsRow_row h with ⟨h1, h2, _⟩ | h1
  · exact .inl ⟨h1, List.eq_nil_of_length_eq_zero h2⟩
  · exact .inr h1
theorem OwnR.make {g cap m : Nat} {cur : List Value} (hB : B ≤ g) (hr : Row w g e cur) (hc : l.length ≤ cap) (hm : cap ≤ maxLen) (hl : cur.length = cap * n) (ht : cur.take (l.length * n) = l.flatMap f) (hml : l.length = m) : OwnR f n e w B (.slice (some ⟨g, 0, none⟩) m cap) l := by
  subst hml
  have := hr.owns (base := B) (size := n) (n := l.length) (cap := cap) hB hl hc hm
  rw [ht] at this
  exact this
/-- Cells with one element laid in between. -/
theorem ins_cells (hf : ∀ x, (f x).length = n) {i : Nat} (hi : i ≤ l.length) (c : α) (D : List Value) :
    ((l.take i).flatMap f ++ f c ++ ((l.drop i).flatMap f ++ D)).take ((l.take i ++ c :: l.drop i).length * n) = (l.take i ++ c :: l.drop i).flatMap f := by
  have e1 : (l.take i).flatMap f ++ f c ++ ((l.drop i).flatMap f ++ D) = (l.take i ++ c :: l.drop i).flatMap f ++ D := by simp
  rw [e1, List.take_append_of_le_length (by rw [flat_len f n hf]; exact Nat.le_refl _), List.take_of_length_le (by rw [flat_len f n hf]; exact Nat.le_refl _)]
end
theorem lay_take {L A C : List Value} {o : Nat} (hA : L.take o = A) (hl : o ≤ L.length) (X : List Value) (hX : X.length = o) : A.length = o := by
  rw [← hA, List.length_take]; omega
theorem lay_one {H Z X : List Value} {o m : Nat} (hH : H.length = o) (hX : X.length = m) : (H ++ Z).take o ++ X ++ (H ++ Z).drop (o + X.length) = H ++ X ++ Z.drop m := by
  subst hH hX
  rw [List.take_left, List.drop_append, List.drop_eq_nil_of_le (by omega)]
  simp
theorem lay_two {H X Z T : List Value} {o : Nat} (h : (H ++ X).length = o) : (H ++ X ++ Z).take o ++ T ++ (H ++ X ++ Z).drop (o + T.length) = H ++ X ++ (T ++ Z.drop T.length) := by
  subst h
  rw [List.take_left, List.drop_append, List.drop_eq_nil_of_le (by omega)]
  simp
theorem lay_three {cur H X T D : List Value} {o m : Nat} (hH : H = cur.take o) (hX : X.length = m) (hl : o + m ≤ cur.length) : (cur.take (o + m) ++ T ++ D).take o ++ X ++ (cur.take (o + m) ++ T ++ D).drop (o + X.length) = H ++ X ++ (T ++ D) := by
  subst hH hX
  have e : (cur.take (o + X.length)).length = o + X.length := by rw [List.length_take]; omega
  rw [List.append_assoc (cur.take (o + X.length)), List.take_append_of_le_length (by omega), List.take_take, Nat.min_eq_left (by omega), List.drop_append, List.drop_eq_nil_of_le (by omega), e]
  simp
def InsP {α : Type} (f : α → List Value) (n : Nat) (e : TypeId) (B : Nat) (v : Value) (l : List α) (w : World) (r : Ending) (w' : World) : Prop :=
  ∃ v', r = .returned v' ∧ OwnR f n e w' B v' l ∧ Same (fun k => some k ≠ v.ownBlock) w w'
end Go.Proofs.Ytoldelocfmpccaa
set_option linter.unusedSimpArgs false
set_option linter.unusedVariables false
namespace Go.Proofs.Ytoldelocfmpccaa
open Go.RowKit

set_option maxHeartbeats 4000000 in
theorem insv_any (v : Value) (l : List Ver) (c : Ver) (i x B : Nat) (w : World) (hown : OwnR verCs 4 69 w B v l) (hx : Row w x 69 (verCs c)) (hne : v.ownBlock ≠ some x) (hi : i ≤ l.length) (hn : l.length ≤ 1000000) (hB : B ≤ w.heap.size) (h1 : ∀ y ∈ l, ∀ u ∈ verCs y, u.oneCell' = true) (h2 : ∀ u ∈ verCs c, u.oneCell' = true) :
    Calls Try.prog 93 #[v, .int .i64 i, .slice (some ⟨x, 0, none⟩) 1 1] w (InsP verCs 4 69 B v (l.take i ++ c :: l.drop i) w) := by
  rcases Nat.lt_or_ge i l.length with hlt | hge
  · rcases hown.ways with ⟨_, h0⟩ | ⟨g, cap, cur, rfl, hBg, hr, hc, hm, hcl, hct⟩
    · rw [h0] at hlt; simp at hlt
    have hgx : x ≠ g := fun e => hne (by rw [e]; rfl)
    have hrow : (l.take i).flatMap verCs = cur.take (i * 4) := by
      have := congrArg (List.take (i * 4)) hct
      rw [List.take_take, Nat.min_eq_left (Nat.mul_le_mul_right _ hi)] at this
      rw [flat_take verCs 4 verCs_len, ← this]
    have htail : (l.drop i).flatMap verCs = (cur.take (l.length * 4)).drop (i * 4) := by rw [flat_drop verCs 4 verCs_len, hct]
    have hgw := hr.lt
    have hxw := hx.lt
    obtain ⟨N, hN⟩ : ∃ N, N = l.length := ⟨_, rfl⟩
    have hTl : ((l.drop i).flatMap verCs).length = (N - i) * 4 := by rw [flat_len verCs 4 verCs_len, List.length_drop, hN]
    have hHl : ((l.take i).flatMap verCs).length = i * 4 := by rw [flat_len verCs 4 verCs_len, List.length_take, Nat.min_eq_left hi]
    have hT1 : ∀ u ∈ (l.drop i).flatMap verCs, u.oneCell' = true := fun u hu => by
      obtain ⟨y, hy, hu⟩ := List.mem_flatMap.1 hu
      exact h1 y (List.mem_of_mem_drop hy) u hu
    have hres : (l.take i ++ c :: l.drop i).length = N + 1 := by simp; omega
    have hcells := fun D => ins_cells (f := verCs) (n := 4) verCs_len hi c D
    rw [hres] at hcells
    have htc : ∀ j u, ((l.drop i).flatMap verCs)[j]? = some u → w.cell? ((⟨g, i * 4, none⟩ : Addr).add j) = some u := by
      intro j u hu
      rw [add_none, hr.cell]
      rw [htail, List.getElem?_drop, List.getElem?_take] at hu
      split at hu
      · exact hu
      · cases hu
    have hhc : ∀ j u, ((l.take i).flatMap verCs)[j]? = some u → w.cell? ((⟨g, 0, none⟩ : Addr).add j) = some u := by
      intro j u hu
      rw [add_none, hr.cell, Nat.zero_add]
      rw [hrow, List.getElem?_take] at hu
      split at hu
      · exact hu
      · cases hu
    have hxc : ∀ j u, (verCs c)[j]? = some u → w.cell? ((⟨x, 0, none⟩ : Addr).add j) = some u := by
      intro j u hu
      rw [add_none, hx.cell, Nat.zero_add]
      exact hu
    have hcln := verCs_len c
    rw [← hN] at hlt hn hc hct ⊢
    have hi1 : (i : Int) + 1 ≤ (N : Int) := by omega
    have hcm : cap ≤ 9223372036854775807 := by unfold maxLen at hm; omega
    obtain ⟨T, hT⟩ : ∃ T, T = (l.drop i).flatMap verCs := ⟨_, rfl⟩
    obtain ⟨H, hH⟩ : ∃ H, H = (l.take i).flatMap verCs := ⟨_, rfl⟩
    obtain ⟨X, hX⟩ : ∃ X, X = verCs c := ⟨_, rfl⟩
    obtain ⟨R, hR⟩ : ∃ R, R = l.take i ++ c :: l.drop i := ⟨_, rfl⟩
    rw [← hT] at hTl hT1 htc
    rw [← hH] at hHl hhc hrow
    rw [← hX] at hxc hcln hx h2
    rw [← hR] at hcells hres ⊢
    rw [← hT, ← hH, ← hX] at hcells
    have Hr := Lib.hid hr
    have Hx := Lib.hid hx
    have Htc := Lib.hid htc
    have Hhc := Lib.hid hhc
    have Hxc := Lib.hid hxc
    have Hcells := Lib.hid hcells
    have Hres := Lib.hid hres
    have Hrow := Lib.hid hrow
    have HTl := Lib.hid hTl
    have HHl := Lib.hid hHl
    have Hcl := Lib.hid hcl
    have Hxl := Lib.hid hcln
    have HT1 := Lib.hid hT1
    have HX1 := Lib.hid h2
    clear hr hx htc hhc hxc hcells hres hrow hTl hHl hcl hcln hT1 h1 h2 hct htail hown hT hH hX hR hne hN
    by_cases hroom : cap < N + 1
    · obtain rfl : cap = N := by omega
      have hw1 : IntKind.i64.wrap ((i : Int) + 1) = (i : Int) + 1 := by rw [IntKind.wrap_i64]; omega
      have hw2 : (0 : Int) ≤ (i : Int) + 1 := by omega
      have hw3 : ((i : Int) + 1).toNat = i + 1 := by omega
      have e1 : (cap : Int) < (cap : Int) + 1 := by omega
      have e2 : ¬ ((i : Int) = (cap : Int)) := by omega
      have e3 : ¬ (cap = i) := by omega
      have e4 : (i : Int) ≤ (cap : Int) := by omega
      go_enter Try.func93, Try.ntmps93
      go_wp2_with (at_builtin; refine stopAt ?_)
      unfold Hid
      refine wpList_apz TVer w rfl (.tmp 34) (.tmp 39) 3 rfl (by kernel_rfl) ⟨g, 0, none⟩ i cap (cap + 1 - i) (cap + 1) _ H rfl rfl (by omega) (by omega) HHl.out Hhc.out (by omega) (by omega) (by omega) (by omega) ?_
      intro w2 G Z k1 k2 k3 k4 k5 k6
      have K1 := Lib.hid k1
      have K2 := Lib.hid k2
      have K5 := Lib.hid k5
      unfold maxLen at k4
      have f1 : ¬ (G = i) := by omega
      have f2 : ¬ (G = i + 1) := by omega
      have f3 : (i : Int) ≤ (cap : Int) + 1 := by omega
      have f4 : (cap : Int) + 1 ≤ (G : Int) := by omega
      have f5 : (i : Int) + 1 ≤ (cap : Int) + 1 := by omega
      clear k1 k2 k5
      go_wp2_with (with_reducible refine stopCopy rfl ?_)
      unfold Hid
      refine wpList_cpN TVer w2 rfl (.tmp 43) (.tmp 44) rfl w.heap.size (i * 4) (cap + 1 - i) (G - i) 1 1 1 ⟨x, 0, none⟩ (by first | rfl | simp) rfl (H ++ Z) X 69 K1.out (by simp only [Nat.min_def]; split <;> omega) (by have := Hxl.out; omega) (fun j u hu => K5.out.cell trivial (Hxc.out j u hu)) (by rw [List.length_append, HHl.out, Hxl.out, K2.out, ← Nat.add_mul]; have : (i + 1) * 4 ≤ (i + (G - i)) * 4 := Nat.mul_le_mul_right _ (by omega); omega) HX1.out ?_
      rw [lay_one HHl.out Hxl.out]
      intro w3 k7 k8
      have hS3 : Same (fun k => k < w.heap.size) w w3 := (K5.out.mono fun _ _ _ => trivial).trans (k8.mono fun k _ hk => by omega)
      have K7 := Lib.hid k7
      have HS3 := Lib.hid hS3
      clear k7 k8 hS3
      go_wp2
      go_region_law (refine step_cpN TVer rfl (.tmp 50) (.tmp 53) rfl w.heap.size ((i + 1) * 4) (cap + 1 - (i + 1)) (G - (i + 1)) (cap - i) (cap - i) (cap - i) ⟨g, i * 4, none⟩ (by simp [Act.eval, Act.put]) (by simp [Act.eval, Act.put]) (H ++ X ++ Z.drop 4) T 69 (Row.keep K7.out ((Same.refl (fun _ => True) _).drew) trivial) (by simp only [Nat.min_def]; split <;> omega) HTl.out (fun j u hu => ((HS3.out).drew).cell (by rw [block_of_add]; exact hgw) (Htc.out j u hu)) (by rw [List.length_append, List.length_append, HHl.out, Hxl.out, HTl.out, List.length_drop, K2.out, ← Nat.add_mul]; have : (i + 1 + (cap - i)) * 4 ≤ G * 4 := Nat.mul_le_mul_right _ (by omega); have : (G - i) * 4 = G * 4 - i * 4 := Nat.sub_mul _ _ _; omega) HT1.out ?_; intro w4 k9 k10)
      rw [lay_two (by rw [List.length_append, HHl.out, Hxl.out]; omega)] at k9
      go_wp2
      go_ret
      refine ⟨_, rfl, OwnR.make hB k9.out (by have := Hres.out; omega) (by simp only [maxLen]; omega) ?_ (by rw [Hres.out]; exact Hcells.out _) Hres.out, ?_⟩
      · rw [List.length_append, List.length_append, List.length_append, List.length_drop, List.length_drop, HHl.out, Hxl.out, HTl.out, K2.out]
        omega
      · refine (HS3.out.drew.trans' k10.out fun q hq hq2 => by omega).mono fun q hq _ => hq
    · have e1 : ¬ ((cap : Int) < (N : Int) + 1) := by omega
      have hw1 : IntKind.i64.wrap ((i : Int) + 1) = (i : Int) + 1 := by rw [IntKind.wrap_i64]; omega
      have hw2 : (0 : Int) ≤ (i : Int) + 1 := by omega
      have hw3 : ((i : Int) + 1).toNat = i + 1 := by omega
      have hw4 : (i : Int) + 1 ≤ (N : Int) + 1 := by omega
      have e2 : ¬ ((i : Int) = (N : Int)) := by omega
      have e3 : ¬ (cap = i) := by omega
      have e4 : (i : Int) ≤ (N : Int) := by omega
      have e5 : ¬ (cap = i + 1) := by omega
      have e6 : (i : Int) ≤ (N : Int) + 1 := by omega
      have hov := fun lb cb => run_apart TVer Try.func107 (by kernel_rfl) (by kernel_rfl) (by kernel_rfl) 4 (by kernel_rfl) w x g X cur ((i + 1) * 4) 1 1 lb cb Hx.out Hr.out (by have := Hcl.out; intro h; rw [h] at this; simp at this; omega) hgx
      go_enter Try.func93, Try.ntmps93
      go_wp2_with (simp only [hov])
      clear hov
      go_region_law (refine step_cpN TVer rfl (.tmp 73) (.tmp 76) rfl g ((i + 1) * 4) (N + 1 - (i + 1)) (cap - (i + 1)) (N + 1 - i) (cap - i) (N - i) ⟨g, i * 4, none⟩ (by simp [Act.eval, Act.put]) (by simp [Act.eval, Act.put]) cur T 69 (Row.keep Hr.out ((Same.refl (fun _ => True) _).drew) trivial) (by simp only [Nat.min_def]; split <;> omega) HTl.out (fun j u hu => Htc.out j u hu) (by rw [HTl.out, Hcl.out, ← Nat.add_mul]; exact Nat.mul_le_mul_right _ (by omega)) HT1.out ?_; intro w4 k9 k10)
      have K9 := Lib.hid k9.out
      have K10 := Lib.hid k10.out
      clear k9 k10
      go_wp2_with (with_reducible refine stopCopy rfl ?_)
      unfold Hid
      refine wpList_cpN TVer w4 rfl (.tmp 80) (.tmp 81) rfl g (i * 4) (N + 1 - i) (cap - i) 1 1 1 ⟨x, 0, none⟩ (by first | rfl | simp) rfl _ X 69 K9.out (by simp only [Nat.min_def]; split <;> omega) (by have := Hxl.out; omega) (fun j u hu => (K10.out.cell (by rw [block_of_add]; exact hgx) (Hxc.out j u hu))) ?_ HX1.out ?_
      · rw [List.length_append, List.length_append, List.length_take, List.length_drop, Hxl.out, HTl.out, Hcl.out]
        omega
      rw [show (i + 1) * 4 = i * 4 + 4 from by omega, lay_three Hrow.out Hxl.out (by rw [Hcl.out]; omega)]
      intro w5 k11 k12
      have K11 := Lib.hid k11
      have K12 := Lib.hid k12
      clear k11 k12
      go_wp2
      go_ret
      refine ⟨_, rfl, OwnR.make hBg K11.out (by have := Hres.out; omega) hm ?_ (by rw [Hres.out]; exact Hcells.out _) Hres.out, ?_⟩
      · rw [List.length_append, List.length_append, List.length_append, List.length_drop, HHl.out, Hxl.out, HTl.out, Hcl.out]
        omega
      · refine (((Same.refl (fun q => q ≠ g) w).drew.trans K10.out).trans K12.out).mono fun q _ hq e => hq ?_
        rw [e]; rfl
  · obtain rfl : i = l.length := by omega
    rw [List.take_length, List.drop_length]
    obtain ⟨A, cp, rfl, hc1, hc2⟩ := hown.form
    have Hown := Lib.hid hown
    have Hx := Lib.hid hx
    unfold maxLen at hc2
    clear hown hx hne
    rcases Nat.eq_or_lt_of_le hc1 with rfl | hcc
    all_goals
      try have hcc' : ¬ cp = l.length := by omega
      go_enter Try.func93, Try.ntmps93
      go_wp2_with (at_builtin; refine stopAt ?_)
      unfold Hid
      have hsl := Hx.out.sl (size := 4) (off := 0) (n := 1) (by rw [verCs_len]; omega)
      rw [List.drop_zero, List.take_of_length_le (by rw [verCs_len]; omega)] at hsl
      refine wpList_app TVer _ rfl (.tmp 23) (.tmp 24) rfl B _ l.length (l.flatMap verCs) rfl Hown.out _ _ 1 1 (verCs c) rfl hsl h2 (by simp only [maxLen]; omega) (by omega) hB ?_
      intro v' w' k1 k2 k3
      have K1 := Lib.hid k1
      have K2 := Lib.hid k2
      clear k1 k2 k3 hsl
      go_wp2
      go_ret
      refine ⟨_, rfl, ?_, K2.out⟩
      unfold OwnR
      rw [List.length_append, List.flatMap_append]
      simpa using K1.out
end Go.Proofs.Ytoldelocfmpccaa
set_option linter.unusedSimpArgs false
set_option linter.unusedVariables false
namespace Go.Proofs.Ytoldelocfmpccaa
open Go.RowKit

theorem OwnR.set4 {w : World} {B g cap : Nat} {l : List Ver} {cur : List Value} {j : Nat} (a : Ver) (hr : Row w g 69 cur) (hB : B ≤ g) (hc : l.length ≤ cap) (hm : cap ≤ maxLen) (hl : cur.length = cap * 4) (ht : cur.take (l.length * 4) = l.flatMap verCs) (hj : j < l.length) :
    OwnV ((((w.setCell ⟨g, j * 4, none⟩ (.int .i64 a.at_.wall)).setCell ⟨g, j * 4 + 1, none⟩ (.int .i64 a.at_.tie)).setCell ⟨g, j * 4 + 2, none⟩ (.bool a.drop)).setCell ⟨g, j * 4 + 3, none⟩ (.string (str a.data))) B (.slice (some ⟨g, 0, none⟩) l.length cap) (l.take j ++ a :: l.drop (j + 1)) := by
  have h1 := (((hr.set_ (j * 4) (.int .i64 a.at_.wall)).set_ (j * 4 + 1) (.int .i64 a.at_.tie)).set_ (j * 4 + 2) (.bool a.drop)).set_ (j * 4 + 3) (.string (str a.data))
  refine OwnR.make hB h1 (by simp; omega) hm (by simpa using hl) ?_ (by simp; omega)
  have e1 : (l.take j ++ a :: l.drop (j + 1)).length = l.length := by simp; omega
  rw [e1, List.flatMap_append, List.flatMap_cons, flat_take verCs 4 verCs_len, flat_drop verCs 4 verCs_len, ← ht]
  apply List.ext_getElem?
  intro k
  simp only [List.getElem?_take, List.getElem?_append, List.length_take, List.length_append, verCs_len, List.getElem?_drop, List.getElem?_set, List.length_set, hl]
  have hk4 : l.length * 4 ≤ cap * 4 := Nat.mul_le_mul_right _ hc
  have hm1 : min (j * 4) (min (l.length * 4) (cap * 4)) = j * 4 := by omega
  rw [hm1]
  by_cases a1 : k < j * 4
  · have b1 : k < l.length * 4 := by omega
    have b2 : ¬ j * 4 = k := by omega
    have b3 : ¬ j * 4 + 1 = k := by omega
    have b4 : ¬ j * 4 + 2 = k := by omega
    have b5 : ¬ j * 4 + 3 = k := by omega
    simp [a1, b1, b2, b3, b4, b5]
  · by_cases a2 : k < j * 4 + 4
    · have b1 : k < l.length * 4 := by omega
      have b0 : k - j * 4 < 4 := by omega
      have c0 : j * 4 < cap * 4 := by omega
      have c1 : j * 4 + 1 < cap * 4 := by omega
      have c2 : j * 4 + 2 < cap * 4 := by omega
      have c3 : j * 4 + 3 < cap * 4 := by omega
      rcases (show k = j * 4 ∨ k = j * 4 + 1 ∨ k = j * 4 + 2 ∨ k = j * 4 + 3 by omega) with rfl | rfl | rfl | rfl
      · simp [verCs, c0, b1]
      · simp [verCs, c1, b1, a1]
      · simp [verCs, c2, b1, a1]
      · simp [verCs, c3, b1, a1]
    · have b2 : ¬ j * 4 = k := by omega
      have b3 : ¬ j * 4 + 1 = k := by omega
      have b4 : ¬ j * 4 + 2 = k := by omega
      have b5 : ¬ j * 4 + 3 = k := by omega
      have b6 : ¬ k - j * 4 < 4 := by omega
      have b7 : (j + 1) * 4 + (k - j * 4 - 4) = k := by omega
      simp [a1, b2, b3, b4, b5, b6, b7]
set_option maxHeartbeats 4000000 in
theorem put_any (v : Value) (l : List Ver) (a : Ver) (B : Nat) (w : World) (hown : OwnV w B v l) (hB : B ≤ w.heap.size) (hs : SortV l) (hn : l.length ≤ 1000000) :
    Calls Try.prog 66 #[v, verV a] w (InsP verCs 4 69 B v (putF l a) w) := by
  obtain ⟨A, cp, rfl, hc, hm⟩ := hown.form
  unfold maxLen at hm
  have hr := Row.new w 69 (verCs a)
  have hS := (Same.refl (fun _ => True) w).alloc (.cells (verCs a).toArray 69)
  have hown1 := hown.keepAll hS
  have Hr := Lib.hid hr
  have Hown := Lib.hid hown
  have Hown1 := Lib.hid hown1
  clear hr hown hown1 hS
  go_enter Try.func66, Try.ntmps66
  go_wp2_with (go_at_call 72; refine stopAt ?_)
  unfold Hid
  refine (mvlast_any (.slice A l.length cp) l a.at_ _ _ (Hown1.out.wr.row verCs_len)).mono ?_
  rintro e w1 ⟨rfl, hS1⟩
  have hr1 := Hr.out.keep hS1 trivial
  have hown2 := Hown1.out.keepAll hS1
  have hS2 := ((Same.refl (fun _ => True) w).alloc (.cells (verCs a).toArray 69)).trans hS1
  have hbd := lastF_bd l a.at_
  have c0 : w1.cell? ⟨w.heap.size, 0, none⟩ = some (.int .i64 a.at_.wall) := hr1.cell 0
  have c1 : w1.cell? ⟨w.heap.size, 1, none⟩ = some (.int .i64 a.at_.tie) := hr1.cell 1
  have c2 : w1.cell? ⟨w.heap.size, 2, none⟩ = some (.bool a.drop) := hr1.cell 2
  have c3 : w1.cell? ⟨w.heap.size, 3, none⟩ = some (.string (str a.data)) := hr1.cell 3
  have hlt := hr1.lt
  have Hr1 := Lib.hid hr1
  have Hown2 := Lib.hid hown2
  have HS2 := Lib.hid hS2
  clear hr1 hown2 hS2 hS1
  rcases Int.lt_or_le (lastF l a.at_) 0 with hneg | hpos
  · have hlm : lastF l a.at_ = -1 := by omega
    have hput : putF l a = l.take 0 ++ a :: l.drop 0 := by
      have := put_last_miss (v := a) hs (fun _ h => absurd h (by omega))
      rw [hlm] at this
      exact this
    have Hput := Lib.hid hput
    rw [hlm]
    clear hput hs hlm hneg hbd
    go_wp2
    go_quiet (fail)
    go_wp2_with (go_at_call 93; refine stopAt ?_)
    unfold Hid
    have hSa := ((HS2.out).drewN nq).alloc (.cells (verCs a).toArray 69)
    have hSb := ((Same.refl (fun _ => True) w1).drewN nq).alloc (.cells (verCs a).toArray 69)
    have gi := insv_any (.slice A l.length cp) l a 0 w1.heap.size B ((w1.drewN nq).alloc (.cells (verCs a).toArray 69)) (Hown2.out.keepAll hSb) (Row.new (w1.drewN nq) 69 (verCs a)) (fun e => by have := (Hown2.out.lt_ e).2; omega) (by omega) hn (by have := hSa.size; omega) (fun y _ => verCs_one y) (verCs_one a)
    rw [show ((0 : Nat) : Int) = 0 from rfl] at gi
    have HSa := Lib.hid hSa
    clear hSa hSb
    refine gi.mono ?_
    rintro e w5 ⟨v5, rfl, hown5, hS5⟩
    have Hown5 := Lib.hid hown5
    have HS5 := Lib.hid hS5
    clear hown5 hS5 gi
    go_wp2
    go_ret
    refine ⟨_, rfl, ?_, (HSa.out.mono fun _ _ _ => trivial).trans HS5.out⟩
    rw [Hput.out]; exact Hown5.out
  · obtain ⟨j, hj⟩ := Int.eq_ofNat_of_zero_le hpos
    have hjl : j < l.length := by omega
    rcases Hown2.out.ways with ⟨_, h0⟩ | ⟨g, cap, cur, heq, hBg, hrow, hcc, hmm, hcl, hct⟩
    · rw [h0] at hjl; simp at hjl
    injection heq with heq _ heq2
    subst heq heq2
    obtain ⟨ad, e0, hSad, d0, d1, d2, d3⟩ := VerR.cells (Hown2.out.wr.row verCs_len) hjl
    injection e0 with e0
    subst e0
    rw [add_none, Nat.zero_add] at d0
    simp only [add_none, Nat.zero_add] at d1 d2 d3
    have f0 := hrow.frozen (j * 4)
    have f1 := hrow.frozen (j * 4 + 1)
    have f2 := hrow.frozen (j * 4 + 2)
    have f3 := hrow.frozen (j * 4 + 3)
    have hgw := hrow.lt
    have y1 : (0 : Int) ≤ (j : Int) := by omega
    have y2 : (j : Int) < (l.length : Int) := by omega
    have Hrow := Lib.hid hrow
    have Hcl := Lib.hid hcl
    have Hct := Lib.hid hct
    clear hrow hcl hct hSad
    by_cases hw : l[j].at_ = a.at_
    · have hput := put_hit (v := a) hjl hs hw
      have Hput := Lib.hid hput
      rw [hw] at d0 d1
      rw [hj]
      clear hput hs hw hj hpos hbd
      go_wp2
      go_quiet (fail)
      go_wp2
      go_ret
      have h4 := OwnR.set4 a (Row.keep Hrow.out ((Same.refl (fun _ => True) _).drewN nq) trivial) hBg hcc hmm Hcl.out Hct.out hjl
      refine ⟨_, rfl, ?_, ?_⟩
      · rw [Hput.out]
        exact h4
      · have hS5 := ((HS2.out).drewN nq).mono (S' := fun k => k ≠ g) fun _ _ _ => trivial
        exact ((((hS5.setCell (p := ⟨g, j * 4, none⟩) (fun _ h => h rfl) _).setCell (p := ⟨g, j * 4 + 1, none⟩) (fun _ h => h rfl) _).setCell (p := ⟨g, j * 4 + 2, none⟩) (fun _ h => h rfl) _).setCell (p := ⟨g, j * 4 + 3, none⟩) (fun _ h => h rfl) _).mono fun k _ hk e => hk (by rw [e]; rfl)
    · have hput : putF l a = l.take (j + 1) ++ a :: l.drop (j + 1) := by
        have := put_last_miss (v := a) hs (fun h1 _ => by
          have e : (lastF l a.at_).toNat = j := by omega
          simp only [e]
          exact hw)
        rw [hj] at this
        exact this
      have Hput := Lib.hid hput
      rw [hj]
      have hwb : ((l[j].at_.wall == a.at_.wall) && (l[j].at_.tie == a.at_.tie)) = false := by
        cases h : ((l[j].at_.wall == a.at_.wall) && (l[j].at_.tie == a.at_.tie))
        · rfl
        · simp at h
          exact absurd ((st_eq _ _).2 h) hw
      generalize l[j].at_ = b at *
      clear hput hs hw hj hpos hbd
      by_cases b1 : b.wall = a.at_.wall
      · have b2 : (b.tie == a.at_.tie) = false := by simpa [b1] using hwb
        rw [b1] at d0
        clear hwb b1
        go_wp2
        go_quiet (fail)
        go_wp2_with (go_at_call 93; refine stopAt ?_)
        unfold Hid
        have hSa := ((HS2.out).drewN nq).alloc (.cells (verCs a).toArray 69)
        have hSb := ((Same.refl (fun _ => True) w1).drewN nq).alloc (.cells (verCs a).toArray 69)
        have gi := insv_any (.slice (some ⟨g, 0, none⟩) l.length cp) l a (j + 1) w1.heap.size B ((w1.drewN nq).alloc (.cells (verCs a).toArray 69)) (Hown2.out.keepAll hSb) (Row.new (w1.drewN nq) 69 (verCs a)) (fun e => by have := (Hown2.out.lt_ e).2; omega) (by omega) hn (by have := hSa.size; omega) (fun y _ => verCs_one y) (verCs_one a)
        rw [show ((j + 1 : Nat) : Int) = (j : Int) + 1 from rfl] at gi
        have HSa := Lib.hid hSa
        clear hSa hSb
        refine gi.mono ?_
        rintro e w5 ⟨v5, rfl, hown5, hS5⟩
        have Hown5 := Lib.hid hown5
        have HS5 := Lib.hid hS5
        clear hown5 hS5 gi
        go_wp2
        go_ret
        refine ⟨_, rfl, ?_, (HSa.out.mono fun _ _ _ => trivial).trans HS5.out⟩
        rw [Hput.out]; exact Hown5.out
      · have b2 : (b.wall == a.at_.wall) = false := by simpa using b1
        clear hwb b1
        go_wp2
        go_quiet (fail)
        go_wp2_with (go_at_call 93; refine stopAt ?_)
        unfold Hid
        have hSa := ((HS2.out).drewN nq).alloc (.cells (verCs a).toArray 69)
        have hSb := ((Same.refl (fun _ => True) w1).drewN nq).alloc (.cells (verCs a).toArray 69)
        have gi := insv_any (.slice (some ⟨g, 0, none⟩) l.length cp) l a (j + 1) w1.heap.size B ((w1.drewN nq).alloc (.cells (verCs a).toArray 69)) (Hown2.out.keepAll hSb) (Row.new (w1.drewN nq) 69 (verCs a)) (fun e => by have := (Hown2.out.lt_ e).2; omega) (by omega) hn (by have := hSa.size; omega) (fun y _ => verCs_one y) (verCs_one a)
        rw [show ((j + 1 : Nat) : Int) = (j : Int) + 1 from rfl] at gi
        have HSa := Lib.hid hSa
        clear hSa hSb
        refine gi.mono ?_
        rintro e w5 ⟨v5, rfl, hown5, hS5⟩
        have Hown5 := Lib.hid hown5
        have HS5 := Lib.hid hS5
        clear hown5 hS5 gi
        go_wp2
        go_ret
        refine ⟨_, rfl, ?_, (HSa.out.mono fun _ _ _ => trivial).trans HS5.out⟩
        rw [Hput.out]; exact Hown5.out
end Go.Proofs.Ytoldelocfmpccaa
set_option linter.unusedSimpArgs false
set_option linter.unusedVariables false
namespace Go.Proofs.Ytoldelocfmpccaa
open Go.RowKit

/-- Twelve stores. -/
def set12 (wr : World) (g : Nat) (b0 b1 b2 b3 b4 b5 b6 b7 b8 b9 b10 b11 : Value) : World := ((((((((((((wr.setCell ⟨g, 0, none⟩ b0).setCell ⟨g, 1, none⟩ b1).setCell ⟨g, 2, none⟩ b2).setCell ⟨g, 3, none⟩ b3).setCell ⟨g, 4, none⟩ b4).setCell ⟨g, 5, none⟩ b5).setCell ⟨g, 6, none⟩ b6).setCell ⟨g, 7, none⟩ b7).setCell ⟨g, 8, none⟩ b8).setCell ⟨g, 9, none⟩ b9).setCell ⟨g, 10, none⟩ b10).setCell ⟨g, 11, none⟩ b11)
theorem set12_eq (wr : World) (g : Nat) (b0 b1 b2 b3 b4 b5 b6 b7 b8 b9 b10 b11 : Value) : set12 wr g b0 b1 b2 b3 b4 b5 b6 b7 b8 b9 b10 b11 = ((((((((((((wr.setCell ⟨g, 0, none⟩ b0).setCell ⟨g, 1, none⟩ b1).setCell ⟨g, 2, none⟩ b2).setCell ⟨g, 3, none⟩ b3).setCell ⟨g, 4, none⟩ b4).setCell ⟨g, 5, none⟩ b5).setCell ⟨g, 6, none⟩ b6).setCell ⟨g, 7, none⟩ b7).setCell ⟨g, 8, none⟩ b8).setCell ⟨g, 9, none⟩ b9).setCell ⟨g, 10, none⟩ b10).setCell ⟨g, 11, none⟩ b11) := rfl
theorem set12_row {wr : World} {g : Nat} {a0 a1 a2 a3 a4 a5 a6 a7 a8 a9 a10 a11 b0 b1 b2 b3 b4 b5 b6 b7 b8 b9 b10 b11 : Value} (HR : Row wr g 64 [a0, a1, a2, a3, a4, a5, a6, a7, a8, a9, a10, a11]) :
    Row (set12 wr g b0 b1 b2 b3 b4 b5 b6 b7 b8 b9 b10 b11) g 64 [b0, b1, b2, b3, b4, b5, b6, b7, b8, b9, b10, b11] ∧ Same (fun q => q ≠ g) wr (set12 wr g b0 b1 b2 b3 b4 b5 b6 b7 b8 b9 b10 b11) :=
  cel_set12 (fun _ h => h rfl) HR (Same.refl _ _)
/-- A guard: the operation is the address of a field. -/
theorem stopFA {P : Program} {w : World} {ops : Array Oper} {rest : List Oper} {o : Oper} {a : Act} {Q : Exit → Act → World → Prop} {t : TypeId} {x : Operand} (n : Nat)
    (_ho : o.op = .fieldAddr t x n) (h : Hid (wpList P ops Q (o :: rest) a w)) : wpList P ops Q (o :: rest) a w := h
/-- A guard: the operation writes the slot n. -/
theorem stopDst {P : Program} {w : World} {ops : Array Oper} {rest : List Oper} {o : Oper} {a : Act} {Q : Exit → Act → World → Prop} (n : Nat)
    (_ho : o.dst = some n) (h : Hid (wpList P ops Q (o :: rest) a w)) : wpList P ops Q (o :: rest) a w := h
/-- Ten stores, from the third cell on. -/
def set10 (wr : World) (g : Nat) (b2 b3 b4 b5 b6 b7 b8 b9 b10 b11 : Value) : World := ((((((((((wr.setCell ⟨g, 2, none⟩ b2).setCell ⟨g, 3, none⟩ b3).setCell ⟨g, 4, none⟩ b4).setCell ⟨g, 5, none⟩ b5).setCell ⟨g, 6, none⟩ b6).setCell ⟨g, 7, none⟩ b7).setCell ⟨g, 8, none⟩ b8).setCell ⟨g, 9, none⟩ b9).setCell ⟨g, 10, none⟩ b10).setCell ⟨g, 11, none⟩ b11)
theorem set10_eq (wr : World) (g : Nat) (b2 b3 b4 b5 b6 b7 b8 b9 b10 b11 : Value) : set10 wr g b2 b3 b4 b5 b6 b7 b8 b9 b10 b11 = ((((((((((wr.setCell ⟨g, 2, none⟩ b2).setCell ⟨g, 3, none⟩ b3).setCell ⟨g, 4, none⟩ b4).setCell ⟨g, 5, none⟩ b5).setCell ⟨g, 6, none⟩ b6).setCell ⟨g, 7, none⟩ b7).setCell ⟨g, 8, none⟩ b8).setCell ⟨g, 9, none⟩ b9).setCell ⟨g, 10, none⟩ b10).setCell ⟨g, 11, none⟩ b11) := rfl
theorem set10_row {wr : World} {g : Nat} {a0 a1 a2 a3 a4 a5 a6 a7 a8 a9 a10 a11 b2 b3 b4 b5 b6 b7 b8 b9 b10 b11 : Value} (HR : Row wr g 64 [a0, a1, a2, a3, a4, a5, a6, a7, a8, a9, a10, a11]) :
    Row (set10 wr g b2 b3 b4 b5 b6 b7 b8 b9 b10 b11) g 64 [a0, a1, b2, b3, b4, b5, b6, b7, b8, b9, b10, b11] ∧ Same (fun q => q ≠ g) wr (set10 wr g b2 b3 b4 b5 b6 b7 b8 b9 b10 b11) := by
  refine ⟨((((((((((HR.set_ 2 b2).set_ 3 b3).set_ 4 b4).set_ 5 b5).set_ 6 b6).set_ 7 b7).set_ 8 b8).set_ 9 b9).set_ 10 b10).set_ 11 b11), ?_⟩
  rw [set10_eq]
  repeat (refine Same.setCell ?_ (fun _ h => h rfl) _)
  exact Same.refl _ _
/-- What a loop holds that makes of each cell one cell or none. -/
structure FlatRel (f : Cel → List Cel) (cs : List Cel) (B p : Nat) (ty : TypeId) (xs : List Value) (k : Nat) (l : Value) (w wr : World) : Prop where
  le : k ≤ cs.length
  own : OwnC wr B l ((cs.take k).flatMap f)
  row : Row wr p ty xs
  lt : p < B
  size : B ≤ wr.heap.size
  same : Same (fun _ => True) w wr
section
variable {f : Cel → List Cel} {cs : List Cel} {B p : Nat} {ty : TypeId} {xs : List Value} {k : Nat} {l : Value} {w wr W : World}
theorem flat_step {k : Nat} (h : k < cs.length) : (cs.take (k + 1)).flatMap f = (cs.take k).flatMap f ++ f cs[k] := by
  rw [List.take_succ_eq_append_getElem h, List.flatMap_append]
  simp
theorem FlatRel.next (h : FlatRel f cs B p ty xs k l w wr) (hk : k < cs.length) (hf : f cs[k] = []) (hS : Same (fun _ => True) wr W) : FlatRel f cs B p ty xs (k + 1) l w W :=
  ⟨hk, by rw [flat_step hk, hf, List.append_nil]; exact h.own.keepAll hS, h.row.keep hS trivial, h.lt, Nat.le_trans h.size hS.size, h.same.trans hS⟩
theorem FlatRel.more {l' : Value} {c : Cel} (h : FlatRel f cs B p ty xs k l w wr) (hk : k < cs.length) (hf : f cs[k] = [c]) (ho : OwnC W B l' ((cs.take k).flatMap f ++ [c])) (hw : w.heap.size ≤ B) (hS : Same (fun q => q < B) wr W) : FlatRel f cs B p ty xs (k + 1) l' w W :=
  ⟨hk, by rw [flat_step hk, hf]; exact ho, h.row.keep hS h.lt, h.lt, Nat.le_trans h.size hS.size, h.same.trans' hS fun q hq _ => Nat.lt_of_lt_of_le hq hw⟩
/-- One cell behind cells that the call owns. -/
theorem wpList_appK {w7 w0 : World} {ops : Array Oper} {rest : List Oper} {o : Oper} {a : Act} {Q : Exit → Act → World → Prop} (hgd : o.guard = none) (s x : Operand)
    (ho : o.op = .call { callee := .builtin .append, args := #[s, x], argTypes := #[33, 33] }) {v : Value} {c : Cel} {A : Option Addr} {n cp : Nat} {arr : Array Value}
    (hs : a.eval s = v) {g : Nat} (hx : a.eval x = .slice (some ⟨g, 0, none⟩) 1 1) (hg : g = W.heap.size) (harr : arr = (celCs (.slice A n cp, c)).toArray) (h : FlatRel f cs B p ty xs k v w0 wr) (hf1 : ∀ c, (f c).length ≤ 1) (hk : k < cs.length) (hf : f cs[k] = [c]) (hn : cs.length ≤ 100000) (hw : w0.heap.size ≤ B)
    {Sx : Nat → Prop} (hu : RowW verCs 4 69 w7 Sx (.slice A n cp) c.vers) (hSx : ∀ q, Sx q → B ≤ q) (hS7 : Same Sx w7 W) (hS : Same (fun _ => True) wr W)
    (hK : ∀ v' w', Hid (FlatRel f cs B p ty xs (k + 1) v' w0 w') → wpList Try.prog ops Q rest (a.put o.dst v') w') : wpList Try.prog ops Q (o :: rest) a (W.alloc (.cells arr 64)) := by
  subst harr
  have hle := flat_len_le hf1 (cs.take k)
  rw [List.length_take] at hle
  refine wpList_appC (w := W) (c := c) (B := B) hgd s x ho hs hx hg (h.own.keepAll hS) ((hu.keep hS7).mono fun q _ h => hSx q h) (Nat.le_trans h.size hS.size) (by omega) fun v' w' h1 h2 => hK v' w' (Lib.hid (h.more hk hf h1 hw ((hS.mono fun _ _ _ => trivial).trans h2)))
end
end Go.Proofs.Ytoldelocfmpccaa
set_option linter.unusedSimpArgs false
set_option linter.unusedVariables false
namespace Go.Proofs.Ytoldelocfmpccaa
open Go.RowKit

set_option maxHeartbeats 4000000 in
theorem insc_any (v : Value) (l : List (Value × Cel)) (c : (Value × Cel)) (i x B : Nat) (w : World) (hown : OwnR celCs 12 64 w B v l) (hx : Row w x 64 (celCs c)) (hne : v.ownBlock ≠ some x) (hi : i ≤ l.length) (hn : l.length ≤ 1000000) (hB : B ≤ w.heap.size) (h1 : ∀ y ∈ l, ∀ u ∈ celCs y, u.oneCell' = true) (h2 : ∀ u ∈ celCs c, u.oneCell' = true) :
    Calls Try.prog 69 #[v, .int .i64 i, .slice (some ⟨x, 0, none⟩) 1 1] w (InsP celCs 12 64 B v (l.take i ++ c :: l.drop i) w) := by
  rcases Nat.lt_or_ge i l.length with hlt | hge
  · rcases hown.ways with ⟨_, h0⟩ | ⟨g, cap, cur, rfl, hBg, hr, hc, hm, hcl, hct⟩
    · rw [h0] at hlt; simp at hlt
    have hgx : x ≠ g := fun e => hne (by rw [e]; rfl)
    have hrow : (l.take i).flatMap celCs = cur.take (i * 12) := by
      have := congrArg (List.take (i * 12)) hct
      rw [List.take_take, Nat.min_eq_left (Nat.mul_le_mul_right _ hi)] at this
      rw [flat_take celCs 12 celCs_len, ← this]
    have htail : (l.drop i).flatMap celCs = (cur.take (l.length * 12)).drop (i * 12) := by rw [flat_drop celCs 12 celCs_len, hct]
    have hgw := hr.lt
    have hxw := hx.lt
    obtain ⟨N, hN⟩ : ∃ N, N = l.length := ⟨_, rfl⟩
    have hTl : ((l.drop i).flatMap celCs).length = (N - i) * 12 := by rw [flat_len celCs 12 celCs_len, List.length_drop, hN]
    have hHl : ((l.take i).flatMap celCs).length = i * 12 := by rw [flat_len celCs 12 celCs_len, List.length_take, Nat.min_eq_left hi]
    have hT1 : ∀ u ∈ (l.drop i).flatMap celCs, u.oneCell' = true := fun u hu => by
      obtain ⟨y, hy, hu⟩ := List.mem_flatMap.1 hu
      exact h1 y (List.mem_of_mem_drop hy) u hu
    have hres : (l.take i ++ c :: l.drop i).length = N + 1 := by simp; omega
    have hcells := fun D => ins_cells (f := celCs) (n := 12) celCs_len hi c D
    rw [hres] at hcells
    have htc : ∀ j u, ((l.drop i).flatMap celCs)[j]? = some u → w.cell? ((⟨g, i * 12, none⟩ : Addr).add j) = some u := by
      intro j u hu
      rw [add_none, hr.cell]
      rw [htail, List.getElem?_drop, List.getElem?_take] at hu
      split at hu
      · exact hu
      · cases hu
    have hhc : ∀ j u, ((l.take i).flatMap celCs)[j]? = some u → w.cell? ((⟨g, 0, none⟩ : Addr).add j) = some u := by
      intro j u hu
      rw [add_none, hr.cell, Nat.zero_add]
      rw [hrow, List.getElem?_take] at hu
      split at hu
      · exact hu
      · cases hu
    have hxc : ∀ j u, (celCs c)[j]? = some u → w.cell? ((⟨x, 0, none⟩ : Addr).add j) = some u := by
      intro j u hu
      rw [add_none, hx.cell, Nat.zero_add]
      exact hu
    have hcln := celCs_len c
    rw [← hN] at hlt hn hc hct ⊢
    have hi1 : (i : Int) + 1 ≤ (N : Int) := by omega
    have hcm : cap ≤ 9223372036854775807 := by unfold maxLen at hm; omega
    obtain ⟨T, hT⟩ : ∃ T, T = (l.drop i).flatMap celCs := ⟨_, rfl⟩
    obtain ⟨H, hH⟩ : ∃ H, H = (l.take i).flatMap celCs := ⟨_, rfl⟩
    obtain ⟨X, hX⟩ : ∃ X, X = celCs c := ⟨_, rfl⟩
    obtain ⟨R, hR⟩ : ∃ R, R = l.take i ++ c :: l.drop i := ⟨_, rfl⟩
    rw [← hT] at hTl hT1 htc
    rw [← hH] at hHl hhc hrow
    rw [← hX] at hxc hcln hx h2
    rw [← hR] at hcells hres ⊢
    rw [← hT, ← hH, ← hX] at hcells
    have Hr := Lib.hid hr
    have Hx := Lib.hid hx
    have Htc := Lib.hid htc
    have Hhc := Lib.hid hhc
    have Hxc := Lib.hid hxc
    have Hcells := Lib.hid hcells
    have Hres := Lib.hid hres
    have Hrow := Lib.hid hrow
    have HTl := Lib.hid hTl
    have HHl := Lib.hid hHl
    have Hcl := Lib.hid hcl
    have Hxl := Lib.hid hcln
    have HT1 := Lib.hid hT1
    have HX1 := Lib.hid h2
    clear hr hx htc hhc hxc hcells hres hrow hTl hHl hcl hcln hT1 h1 h2 hct htail hown hT hH hX hR hne hN
    by_cases hroom : cap < N + 1
    · obtain rfl : cap = N := by omega
      have hw1 : IntKind.i64.wrap ((i : Int) + 1) = (i : Int) + 1 := by rw [IntKind.wrap_i64]; omega
      have hw2 : (0 : Int) ≤ (i : Int) + 1 := by omega
      have hw3 : ((i : Int) + 1).toNat = i + 1 := by omega
      have e1 : (cap : Int) < (cap : Int) + 1 := by omega
      have e2 : ¬ ((i : Int) = (cap : Int)) := by omega
      have e3 : ¬ (cap = i) := by omega
      have e4 : (i : Int) ≤ (cap : Int) := by omega
      go_enter Try.func69, Try.ntmps69
      go_wp2_with (at_builtin; refine stopAt ?_)
      unfold Hid
      refine wpList_apz TCel w rfl (.tmp 34) (.tmp 39) 3 rfl (by kernel_rfl) ⟨g, 0, none⟩ i cap (cap + 1 - i) (cap + 1) _ H rfl rfl (by omega) (by omega) HHl.out Hhc.out (by omega) (by omega) (by omega) (by omega) ?_
      intro w2 G Z k1 k2 k3 k4 k5 k6
      have K1 := Lib.hid k1
      have K2 := Lib.hid k2
      have K5 := Lib.hid k5
      unfold maxLen at k4
      have f1 : ¬ (G = i) := by omega
      have f2 : ¬ (G = i + 1) := by omega
      have f3 : (i : Int) ≤ (cap : Int) + 1 := by omega
      have f4 : (cap : Int) + 1 ≤ (G : Int) := by omega
      have f5 : (i : Int) + 1 ≤ (cap : Int) + 1 := by omega
      clear k1 k2 k5
      go_wp2_with (with_reducible refine stopCopy rfl ?_)
      unfold Hid
      refine wpList_cpN TCel w2 rfl (.tmp 43) (.tmp 44) rfl w.heap.size (i * 12) (cap + 1 - i) (G - i) 1 1 1 ⟨x, 0, none⟩ (by first | rfl | simp) rfl (H ++ Z) X 64 K1.out (by simp only [Nat.min_def]; split <;> omega) (by have := Hxl.out; omega) (fun j u hu => K5.out.cell trivial (Hxc.out j u hu)) (by rw [List.length_append, HHl.out, Hxl.out, K2.out, ← Nat.add_mul]; have : (i + 1) * 12 ≤ (i + (G - i)) * 12 := Nat.mul_le_mul_right _ (by omega); omega) HX1.out ?_
      rw [lay_one HHl.out Hxl.out]
      intro w3 k7 k8
      have hS3 : Same (fun k => k < w.heap.size) w w3 := (K5.out.mono fun _ _ _ => trivial).trans (k8.mono fun k _ hk => by omega)
      have K7 := Lib.hid k7
      have HS3 := Lib.hid hS3
      clear k7 k8 hS3
      go_wp2
      go_region_law (refine step_cpN TCel rfl (.tmp 50) (.tmp 53) rfl w.heap.size ((i + 1) * 12) (cap + 1 - (i + 1)) (G - (i + 1)) (cap - i) (cap - i) (cap - i) ⟨g, i * 12, none⟩ (by simp [Act.eval, Act.put]) (by simp [Act.eval, Act.put]) (H ++ X ++ Z.drop 12) T 64 (Row.keep K7.out ((Same.refl (fun _ => True) _).drew) trivial) (by simp only [Nat.min_def]; split <;> omega) HTl.out (fun j u hu => ((HS3.out).drew).cell (by rw [block_of_add]; exact hgw) (Htc.out j u hu)) (by rw [List.length_append, List.length_append, HHl.out, Hxl.out, HTl.out, List.length_drop, K2.out, ← Nat.add_mul]; have : (i + 1 + (cap - i)) * 12 ≤ G * 12 := Nat.mul_le_mul_right _ (by omega); have : (G - i) * 12 = G * 12 - i * 12 := Nat.sub_mul _ _ _; omega) HT1.out ?_; intro w4 k9 k10)
      rw [lay_two (by rw [List.length_append, HHl.out, Hxl.out]; omega)] at k9
      go_wp2
      go_ret
      refine ⟨_, rfl, OwnR.make hB k9.out (by have := Hres.out; omega) (by simp only [maxLen]; omega) ?_ (by rw [Hres.out]; exact Hcells.out _) Hres.out, ?_⟩
      · rw [List.length_append, List.length_append, List.length_append, List.length_drop, List.length_drop, HHl.out, Hxl.out, HTl.out, K2.out]
        omega
      · refine (HS3.out.drew.trans' k10.out fun q hq hq2 => by omega).mono fun q hq _ => hq
    · have e1 : ¬ ((cap : Int) < (N : Int) + 1) := by omega
      have hw1 : IntKind.i64.wrap ((i : Int) + 1) = (i : Int) + 1 := by rw [IntKind.wrap_i64]; omega
      have hw2 : (0 : Int) ≤ (i : Int) + 1 := by omega
      have hw3 : ((i : Int) + 1).toNat = i + 1 := by omega
      have hw4 : (i : Int) + 1 ≤ (N : Int) + 1 := by omega
      have e2 : ¬ ((i : Int) = (N : Int)) := by omega
      have e3 : ¬ (cap = i) := by omega
      have e4 : (i : Int) ≤ (N : Int) := by omega
      have e5 : ¬ (cap = i + 1) := by omega
      have e6 : (i : Int) ≤ (N : Int) + 1 := by omega
      have hov := fun lb cb => run_apart TCel Try.func97 (by kernel_rfl) (by kernel_rfl) (by kernel_rfl) 4 (by kernel_rfl) w x g X cur ((i + 1) * 12) 1 1 lb cb Hx.out Hr.out (by have := Hcl.out; intro h; rw [h] at this; simp at this; omega) hgx
      go_enter Try.func69, Try.ntmps69
      go_wp2_with (simp only [hov])
      clear hov
      go_region_law (refine step_cpN TCel rfl (.tmp 73) (.tmp 76) rfl g ((i + 1) * 12) (N + 1 - (i + 1)) (cap - (i + 1)) (N + 1 - i) (cap - i) (N - i) ⟨g, i * 12, none⟩ (by simp [Act.eval, Act.put]) (by simp [Act.eval, Act.put]) cur T 64 (Row.keep Hr.out ((Same.refl (fun _ => True) _).drew) trivial) (by simp only [Nat.min_def]; split <;> omega) HTl.out (fun j u hu => Htc.out j u hu) (by rw [HTl.out, Hcl.out, ← Nat.add_mul]; exact Nat.mul_le_mul_right _ (by omega)) HT1.out ?_; intro w4 k9 k10)
      have K9 := Lib.hid k9.out
      have K10 := Lib.hid k10.out
      clear k9 k10
      go_wp2_with (with_reducible refine stopCopy rfl ?_)
      unfold Hid
      refine wpList_cpN TCel w4 rfl (.tmp 80) (.tmp 81) rfl g (i * 12) (N + 1 - i) (cap - i) 1 1 1 ⟨x, 0, none⟩ (by first | rfl | simp) rfl _ X 64 K9.out (by simp only [Nat.min_def]; split <;> omega) (by have := Hxl.out; omega) (fun j u hu => (K10.out.cell (by rw [block_of_add]; exact hgx) (Hxc.out j u hu))) ?_ HX1.out ?_
      · rw [List.length_append, List.length_append, List.length_take, List.length_drop, Hxl.out, HTl.out, Hcl.out]
        omega
      rw [show (i + 1) * 12 = i * 12 + 12 from by omega, lay_three Hrow.out Hxl.out (by rw [Hcl.out]; omega)]
      intro w5 k11 k12
      have K11 := Lib.hid k11
      have K12 := Lib.hid k12
      clear k11 k12
      go_wp2
      go_ret
      refine ⟨_, rfl, OwnR.make hBg K11.out (by have := Hres.out; omega) hm ?_ (by rw [Hres.out]; exact Hcells.out _) Hres.out, ?_⟩
      · rw [List.length_append, List.length_append, List.length_append, List.length_drop, HHl.out, Hxl.out, HTl.out, Hcl.out]
        omega
      · refine (((Same.refl (fun q => q ≠ g) w).drew.trans K10.out).trans K12.out).mono fun q _ hq e => hq ?_
        rw [e]; rfl
  · obtain rfl : i = l.length := by omega
    rw [List.take_length, List.drop_length]
    obtain ⟨A, cp, rfl, hc1, hc2⟩ := hown.form
    have Hown := Lib.hid hown
    have Hx := Lib.hid hx
    unfold maxLen at hc2
    clear hown hx hne
    rcases Nat.eq_or_lt_of_le hc1 with rfl | hcc
    all_goals
      try have hcc' : ¬ cp = l.length := by omega
      go_enter Try.func69, Try.ntmps69
      go_wp2_with (at_builtin; refine stopAt ?_)
      unfold Hid
      have hsl := Hx.out.sl (size := 12) (off := 0) (n := 1) (by rw [celCs_len]; omega)
      rw [List.drop_zero, List.take_of_length_le (by rw [celCs_len]; omega)] at hsl
      refine wpList_app TCel _ rfl (.tmp 23) (.tmp 24) rfl B _ l.length (l.flatMap celCs) rfl Hown.out _ _ 1 1 (celCs c) rfl hsl h2 (by simp only [maxLen]; omega) (by omega) hB ?_
      intro v' w' k1 k2 k3
      have K1 := Lib.hid k1
      have K2 := Lib.hid k2
      clear k1 k2 k3 hsl
      go_wp2
      go_ret
      refine ⟨_, rfl, ?_, K2.out⟩
      unfold OwnR
      rw [List.length_append, List.flatMap_append]
      simpa using K1.out
end Go.Proofs.Ytoldelocfmpccaa
