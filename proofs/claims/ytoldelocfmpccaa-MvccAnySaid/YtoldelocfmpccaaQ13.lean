/-
  The words, plain models and short walks of mvcc that the claims share (written by bundle.py out of: MvK3, MvK4, MvGd, MvA2). No condition.
-/
import Derived.Test.YtoldelocfmpccaaMvK3AH
import Derived.Test.YtoldelocfmpccaaMvK3BH
import Derived.Test.YtoldelocfmpccaaMvK3CH
import Derived.Test.YtoldelocfmpccaaMvK3DH
import Derived.Test.YtoldelocfmpccaaMvK3EH
import Derived.Test.YtoldelocfmpccaaMvK3FH
import Derived.Test.YtoldelocfmpccaaMvS6H
import Derived.Test.YtoldelocfmpccaaMvRH
import Derived.Test.YtoldelocfmpccaaQ0
set_option linter.unusedSimpArgs false
set_option linter.unusedVariables false
namespace Go.Proofs.Ytoldelocfmpccaa
open Go.RowKit

theorem reflock_any (v : Value) (cs : List Cel) (x : Wr) (l : Lck) (S : Nat → Prop) (w : World) (hv : CelR w S v cs) (hn : cs.length ≤ 100000) (hn2 : ∀ c ∈ cs, c.vers.length ≤ 1000000) (hso : Sorted cs) :
    Calls Try.prog 60 #[v, wrV x, lckV l] w (AllP (lockF cs x.key (lockW x l)) w) := by
  have hle := posF_le cs x.key
  cases hd : x.drop <;> cases hf : foundF cs x.key <;> rcases Nat.lt_or_ge (posF cs x.key) cs.length with hp | hp
  · exact reflock_f_cons v cs x l S w hv hn hn2 hso hd hf hp
  · exact reflock_f_nil v cs x l S w hv hn hn2 hso hd hf (by omega)
  · exact reflock_f_hit v cs x l S w hv hn hn2 hso hd hf
  · exact reflock_f_hit v cs x l S w hv hn hn2 hso hd hf
  · exact reflock_t_cons v cs x l S w hv hn hn2 hso hd hf hp
  · exact reflock_t_nil v cs x l S w hv hn hn2 hso hd hf (by omega)
  · exact reflock_t_hit v cs x l S w hv hn hn2 hso hd hf
  · exact reflock_t_hit v cs x l S w hv hn hn2 hso hd hf
end Go.Proofs.Ytoldelocfmpccaa
set_option linter.unusedSimpArgs false
set_option linter.unusedVariables false
namespace Go.Proofs.Ytoldelocfmpccaa
open Go.RowKit

def opCs (o : OpT) : List Value := [.int .i64 o.kind, .string (str o.w.key), .bool o.w.drop, .string (str o.w.data), .int .i64 o.l.by_.node, .int .i64 o.l.by_.life, .int .i64 o.l.by_.seq, .int .i64 o.l.by_.attempt, .int .i64 o.l.home, .int .i64 o.l.at_.wall, .int .i64 o.l.at_.tie, .bool o.l.drop, .string (str o.l.data), .bool o.yes]
abbrev opV (o : OpT) : Value := .agg #[.int .i64 o.kind, .string (str o.w.key), .bool o.w.drop, .string (str o.w.data), .int .i64 o.l.by_.node, .int .i64 o.l.by_.life, .int .i64 o.l.by_.seq, .int .i64 o.l.by_.attempt, .int .i64 o.l.home, .int .i64 o.l.at_.wall, .int .i64 o.l.at_.tie, .bool o.l.drop, .string (str o.l.data), .bool o.yes]
theorem kind_eq (k : Int) : Int.tmod (Int.tmod k 3 + 3) 3 = kindN k := by
  unfold kindN
  show _ = k % 3
  rcases Int.le_total 0 k with h | h
  · have e1 : Int.tmod k 3 = k % 3 := Int.tmod_eq_emod_of_nonneg h
    rw [e1, Int.tmod_eq_emod_of_nonneg (by omega)]
    omega
  · obtain ⟨m, hm⟩ : ∃ m : Int, k = -m ∧ 0 ≤ m := ⟨-k, by omega, by omega⟩
    obtain ⟨rfl, hm⟩ := hm
    have e1 : Int.tmod (-m) 3 = -(m % 3) := by rw [Int.neg_tmod, Int.tmod_eq_emod_of_nonneg hm]
    rw [e1, Int.tmod_eq_emod_of_nonneg (by omega)]
    omega
set_option maxHeartbeats 1000000 in
theorem mnumber_any (k : Int) (w : World) : Calls Try.prog 59 #[.int .i64 k] w fun e w' => e = .returned (.int .i64 (kindN k)) ∧ w = w' := by
  have K := kind_eq k
  have b1 : -3 < Int.tmod k 3 ∧ Int.tmod k 3 < 3 := by
    constructor
    · have := Int.lt_tmod_of_pos k (b := 3) (by omega); omega
    · exact Int.tmod_lt_of_pos k (by omega)
  have HK := Lib.hid K
  have q1 : IntKind.i64.wrap (Int.tmod k 3) = Int.tmod k 3 := by rw [IntKind.wrap_i64]; omega
  have q2 : IntKind.i64.wrap (Int.tmod k 3 + 3) = Int.tmod k 3 + 3 := by rw [IntKind.wrap_i64]; omega
  have q3 : IntKind.i64.wrap (Int.tmod (Int.tmod k 3 + 3) 3) = Int.tmod (Int.tmod k 3 + 3) 3 := by
    have hk : 0 ≤ kindN k ∧ kindN k < 3 := by unfold kindN; show 0 ≤ k % 3 ∧ k % 3 < 3; omega
    rw [K, IntKind.wrap_i64]; omega
  clear K b1
  go_enter Try.func59, Try.ntmps59
  go_wp2
  go_ret
  exact ⟨by rw [← HK.out]; rfl, rfl⟩
def DoP (r : List Cel) (w : World) (e : Ending) (w' : World) : Prop := ∃ v1 v2, e = .returned (.tuple #[v1, v2]) ∧ OwnC w' w.heap.size v1 r ∧ OwnC w' w.heap.size v2 r ∧ Same (fun _ => True) w w'
set_option maxRecDepth 100000 in
set_option maxHeartbeats 4000000 in
theorem do_any (v : Value) (cs : List Cel) (o : OpT) (S : Nat → Prop) (w : World) (hv : CelR w S v cs) (hg : Good cs) (hn : cs.length ≤ 100000) (hn2 : ∀ c ∈ cs, c.vers.length ≤ 1000000) :
    Calls Try.prog 23 #[v, opV o] w (DoP (opF cs o) w) := by
  obtain ⟨A, cp, rfl, hc, hm⟩ := hv.form
  obtain ⟨B, hBe⟩ : ∃ B, B = w.heap.size := ⟨_, rfl⟩
  have Hg := Lib.hid hg
  have hrow := Row.new w 37 (opCs o)
  have hS0 := (Same.refl (fun _ => True) w).alloc (.cells (opCs o).toArray 37)
  have hv1 := hv.keepAll hS0
  have hz0 := hS0.size
  unfold maxLen at hm
  simp only [opCs] at hrow hS0 hv1 hz0
  have K := kind_eq o.kind
  have HBe := Lib.hid hBe
  clear hv hg hBe K
  go_enter Try.func23, Try.ntmps23
  go_wp2_with (go_at_call 59; refine stopAt ?_)
  unfold Hid
  revert hrow hS0 hv1 hz0
  generalize w.alloc (.cells _ 37) = w1
  intro hrow hS0 hv1 hz0
  refine (mnumber_any o.kind w1).mono ?_
  rintro e w1' ⟨rfl, rfl⟩
  have hB0 : B ≤ w1.heap.size := by rw [HBe.out]; exact hz0
  have c0 : w1.cell? ⟨w.heap.size, 0, none⟩ = some (.int .i64 o.kind) := hrow.cell 0
  have c1 : w1.cell? ⟨w.heap.size, 1, none⟩ = some (.string (str o.w.key)) := hrow.cell 1
  have c2 : w1.cell? ⟨w.heap.size, 2, none⟩ = some (.bool o.w.drop) := hrow.cell 2
  have c3 : w1.cell? ⟨w.heap.size, 3, none⟩ = some (.string (str o.w.data)) := hrow.cell 3
  have c4 : w1.cell? ⟨w.heap.size, 4, none⟩ = some (.int .i64 o.l.by_.node) := hrow.cell 4
  have c5 : w1.cell? ⟨w.heap.size, 5, none⟩ = some (.int .i64 o.l.by_.life) := hrow.cell 5
  have c6 : w1.cell? ⟨w.heap.size, 6, none⟩ = some (.int .i64 o.l.by_.seq) := hrow.cell 6
  have c7 : w1.cell? ⟨w.heap.size, 7, none⟩ = some (.int .i64 o.l.by_.attempt) := hrow.cell 7
  have c8 : w1.cell? ⟨w.heap.size, 8, none⟩ = some (.int .i64 o.l.home) := hrow.cell 8
  have c9 : w1.cell? ⟨w.heap.size, 9, none⟩ = some (.int .i64 o.l.at_.wall) := hrow.cell 9
  have c10 : w1.cell? ⟨w.heap.size, 10, none⟩ = some (.int .i64 o.l.at_.tie) := hrow.cell 10
  have c11 : w1.cell? ⟨w.heap.size, 11, none⟩ = some (.bool o.l.drop) := hrow.cell 11
  have c12 : w1.cell? ⟨w.heap.size, 12, none⟩ = some (.string (str o.l.data)) := hrow.cell 12
  have c13 : w1.cell? ⟨w.heap.size, 13, none⟩ = some (.bool o.yes) := hrow.cell 13
  have hab := hrow.lt
  have HS0 := Lib.hid hS0
  have Hv1 := Lib.hid hv1
  clear hrow hS0 hv1 hz0
  by_cases k0 : kindN o.kind = 0
  · have hop : opF cs o = lockF cs o.w.key (lockW o.w o.l) := by unfold opF; rw [if_pos k0]
    have Hop := Lib.hid hop
    rw [k0]
    clear hop k0
    go_wp2
    refine wp_region_vals_lit (L := [.eq (.slice A cs.length cp), .eq (.pointer (some ⟨w.heap.size, 1, none⟩)), .eq (wrV o.w), .eq (.pointer (some ⟨w.heap.size, 4, none⟩)), .eq (lckV o.l), ⟨fun v w => OwnC w B v (opF cs o), fun _ _ _ h k => h.keepAll k⟩, .eq (.slice A cs.length cp), .eq (.pointer (some ⟨w.heap.size, 1, none⟩)), .eq (wrV o.w), .eq (.pointer (some ⟨w.heap.size, 4, none⟩)), .eq (lckV o.l), ⟨fun v w => OwnC w B v (opF cs o), fun _ _ _ h k => h.keepAll k⟩, ⟨fun v w => OwnC w B v (opF cs o), fun _ _ _ h k => h.keepAll k⟩, ⟨fun v w => OwnC w B v (opF cs o), fun _ _ _ h k => h.keepAll k⟩]) (by kernel_rfl) (by kernel_rfl) rfl rfl ?_ ?_
    · refine ⟨?_, ?_, ?_, ?_, ?_, ?_, ?_, ?_, ?_, ?_, ?_, ?_, ?_, ?_, trivial⟩
      · intro ac wc hs hd hz hf hw K hK
        have e0 : ac.eval (.tmp 0) = (.slice A cs.length cp) := hf 0 rfl
        clear hd hz hf hw
        simp only [Region.wanted, if_true, Oper.wp, execOp, resolve, List.map_toArray, List.map_cons, List.map_nil, Option.map_some, Option.map_none, e0]
        go_simp
        exact hK _ _ rfl (Same.refl _ _)
      · intro ac wc hs hd hz hf hw K hK
        have e0 : ac.eval (.tmp 3) = (.pointer (some ⟨w.heap.size, 0, none⟩)) := hf 3 rfl
        clear hd hz hf hw
        simp only [Region.wanted, if_true, Oper.wp, execOp, resolve, List.map_toArray, List.map_cons, List.map_nil, Option.map_some, Option.map_none, e0]
        go_simp
        exact hK _ _ rfl (Same.refl _ _)
      · intro ac wc hs hd hz hf hw K hK
        have e0 : ac.eval (.tmp 12) = (.pointer (some ⟨w.heap.size, 1, none⟩)) := hw 1 rfl
        have m0 : wc.cell? ⟨w.heap.size, 1, none⟩ = some (.string (str o.w.key)) := hs.cell (p := ⟨w.heap.size, 1, none⟩) trivial c1
        have m1 : wc.cell? ⟨w.heap.size, 2, none⟩ = some (.bool o.w.drop) := hs.cell (p := ⟨w.heap.size, 2, none⟩) trivial c2
        have m2 : wc.cell? ⟨w.heap.size, 3, none⟩ = some (.string (str o.w.data)) := hs.cell (p := ⟨w.heap.size, 3, none⟩) trivial c3
        clear hd hz hf hw
        simp only [Region.wanted, if_true, Oper.wp, execOp, resolve, List.map_toArray, List.map_cons, List.map_nil, Option.map_some, Option.map_none, e0]
        go_simp
        exact hK _ _ rfl (Same.refl _ _)
      · intro ac wc hs hd hz hf hw K hK
        have e0 : ac.eval (.tmp 3) = (.pointer (some ⟨w.heap.size, 0, none⟩)) := hf 3 rfl
        clear hd hz hf hw
        simp only [Region.wanted, if_true, Oper.wp, execOp, resolve, List.map_toArray, List.map_cons, List.map_nil, Option.map_some, Option.map_none, e0]
        go_simp
        exact hK _ _ rfl (Same.refl _ _)
      · intro ac wc hs hd hz hf hw K hK
        have e0 : ac.eval (.tmp 14) = (.pointer (some ⟨w.heap.size, 4, none⟩)) := hw 3 rfl
        have m0 : wc.cell? ⟨w.heap.size, 4, none⟩ = some (.int .i64 o.l.by_.node) := hs.cell (p := ⟨w.heap.size, 4, none⟩) trivial c4
        have m1 : wc.cell? ⟨w.heap.size, 5, none⟩ = some (.int .i64 o.l.by_.life) := hs.cell (p := ⟨w.heap.size, 5, none⟩) trivial c5
        have m2 : wc.cell? ⟨w.heap.size, 6, none⟩ = some (.int .i64 o.l.by_.seq) := hs.cell (p := ⟨w.heap.size, 6, none⟩) trivial c6
        have m3 : wc.cell? ⟨w.heap.size, 7, none⟩ = some (.int .i64 o.l.by_.attempt) := hs.cell (p := ⟨w.heap.size, 7, none⟩) trivial c7
        have m4 : wc.cell? ⟨w.heap.size, 8, none⟩ = some (.int .i64 o.l.home) := hs.cell (p := ⟨w.heap.size, 8, none⟩) trivial c8
        have m5 : wc.cell? ⟨w.heap.size, 9, none⟩ = some (.int .i64 o.l.at_.wall) := hs.cell (p := ⟨w.heap.size, 9, none⟩) trivial c9
        have m6 : wc.cell? ⟨w.heap.size, 10, none⟩ = some (.int .i64 o.l.at_.tie) := hs.cell (p := ⟨w.heap.size, 10, none⟩) trivial c10
        have m7 : wc.cell? ⟨w.heap.size, 11, none⟩ = some (.bool o.l.drop) := hs.cell (p := ⟨w.heap.size, 11, none⟩) trivial c11
        have m8 : wc.cell? ⟨w.heap.size, 12, none⟩ = some (.string (str o.l.data)) := hs.cell (p := ⟨w.heap.size, 12, none⟩) trivial c12
        clear hd hz hf hw
        simp only [Region.wanted, if_true, Oper.wp, execOp, resolve, List.map_toArray, List.map_cons, List.map_nil, Option.map_some, Option.map_none, e0]
        go_simp
        exact hK _ _ rfl (Same.refl _ _)
      · intro ac wc hs hd hz hf hw K hK
        have e0 : ac.eval (.tmp 11) = (.slice A cs.length cp) := hw 0 rfl
        have e1 : ac.eval (.tmp 13) = (wrV o.w) := hw 2 rfl
        have e2 : ac.eval (.tmp 15) = (lckV o.l) := hw 4 rfl
        clear hd hz hf hw
        simp only [Region.wanted, if_true, Oper.wp, execOp, resolve, List.map_toArray, List.map_cons, List.map_nil, Option.map_some, Option.map_none, e0, e1, e2]
        go_simp
        refine (mvlock_any (.slice A cs.length cp) cs o.w o.l S wc (Hv1.out.keepAll hs) hn hn2 Hg.out.sorted).mono ?_
        rintro e wd ⟨u, rfl, hown, hS⟩
        exact hK _ _ (by rw [Hop.out]; exact hown.lower (Nat.le_trans hB0 hs.size)) hS
      · intro ac wc hs hd hz hf hw K hK
        have e0 : ac.eval (.tmp 0) = (.slice A cs.length cp) := hf 0 rfl
        clear hd hz hf hw
        simp only [Region.wanted, if_true, Oper.wp, execOp, resolve, List.map_toArray, List.map_cons, List.map_nil, Option.map_some, Option.map_none, e0]
        go_simp
        exact hK _ _ rfl (Same.refl _ _)
      · intro ac wc hs hd hz hf hw K hK
        have e0 : ac.eval (.tmp 3) = (.pointer (some ⟨w.heap.size, 0, none⟩)) := hf 3 rfl
        clear hd hz hf hw
        simp only [Region.wanted, if_true, Oper.wp, execOp, resolve, List.map_toArray, List.map_cons, List.map_nil, Option.map_some, Option.map_none, e0]
        go_simp
        exact hK _ _ rfl (Same.refl _ _)
      · intro ac wc hs hd hz hf hw K hK
        have e0 : ac.eval (.tmp 18) = (.pointer (some ⟨w.heap.size, 1, none⟩)) := hw 7 rfl
        have m0 : wc.cell? ⟨w.heap.size, 1, none⟩ = some (.string (str o.w.key)) := hs.cell (p := ⟨w.heap.size, 1, none⟩) trivial c1
        have m1 : wc.cell? ⟨w.heap.size, 2, none⟩ = some (.bool o.w.drop) := hs.cell (p := ⟨w.heap.size, 2, none⟩) trivial c2
        have m2 : wc.cell? ⟨w.heap.size, 3, none⟩ = some (.string (str o.w.data)) := hs.cell (p := ⟨w.heap.size, 3, none⟩) trivial c3
        clear hd hz hf hw
        simp only [Region.wanted, if_true, Oper.wp, execOp, resolve, List.map_toArray, List.map_cons, List.map_nil, Option.map_some, Option.map_none, e0]
        go_simp
        exact hK _ _ rfl (Same.refl _ _)
      · intro ac wc hs hd hz hf hw K hK
        have e0 : ac.eval (.tmp 3) = (.pointer (some ⟨w.heap.size, 0, none⟩)) := hf 3 rfl
        clear hd hz hf hw
        simp only [Region.wanted, if_true, Oper.wp, execOp, resolve, List.map_toArray, List.map_cons, List.map_nil, Option.map_some, Option.map_none, e0]
        go_simp
        exact hK _ _ rfl (Same.refl _ _)
      · intro ac wc hs hd hz hf hw K hK
        have e0 : ac.eval (.tmp 20) = (.pointer (some ⟨w.heap.size, 4, none⟩)) := hw 9 rfl
        have m0 : wc.cell? ⟨w.heap.size, 4, none⟩ = some (.int .i64 o.l.by_.node) := hs.cell (p := ⟨w.heap.size, 4, none⟩) trivial c4
        have m1 : wc.cell? ⟨w.heap.size, 5, none⟩ = some (.int .i64 o.l.by_.life) := hs.cell (p := ⟨w.heap.size, 5, none⟩) trivial c5
        have m2 : wc.cell? ⟨w.heap.size, 6, none⟩ = some (.int .i64 o.l.by_.seq) := hs.cell (p := ⟨w.heap.size, 6, none⟩) trivial c6
        have m3 : wc.cell? ⟨w.heap.size, 7, none⟩ = some (.int .i64 o.l.by_.attempt) := hs.cell (p := ⟨w.heap.size, 7, none⟩) trivial c7
        have m4 : wc.cell? ⟨w.heap.size, 8, none⟩ = some (.int .i64 o.l.home) := hs.cell (p := ⟨w.heap.size, 8, none⟩) trivial c8
        have m5 : wc.cell? ⟨w.heap.size, 9, none⟩ = some (.int .i64 o.l.at_.wall) := hs.cell (p := ⟨w.heap.size, 9, none⟩) trivial c9
        have m6 : wc.cell? ⟨w.heap.size, 10, none⟩ = some (.int .i64 o.l.at_.tie) := hs.cell (p := ⟨w.heap.size, 10, none⟩) trivial c10
        have m7 : wc.cell? ⟨w.heap.size, 11, none⟩ = some (.bool o.l.drop) := hs.cell (p := ⟨w.heap.size, 11, none⟩) trivial c11
        have m8 : wc.cell? ⟨w.heap.size, 12, none⟩ = some (.string (str o.l.data)) := hs.cell (p := ⟨w.heap.size, 12, none⟩) trivial c12
        clear hd hz hf hw
        simp only [Region.wanted, if_true, Oper.wp, execOp, resolve, List.map_toArray, List.map_cons, List.map_nil, Option.map_some, Option.map_none, e0]
        go_simp
        exact hK _ _ rfl (Same.refl _ _)
      · intro ac wc hs hd hz hf hw K hK
        have e0 : ac.eval (.tmp 17) = (.slice A cs.length cp) := hw 6 rfl
        have e1 : ac.eval (.tmp 19) = (wrV o.w) := hw 8 rfl
        have e2 : ac.eval (.tmp 21) = (lckV o.l) := hw 10 rfl
        clear hd hz hf hw
        simp only [Region.wanted, if_true, Oper.wp, execOp, resolve, List.map_toArray, List.map_cons, List.map_nil, Option.map_some, Option.map_none, e0, e1, e2]
        go_simp
        refine (reflock_any (.slice A cs.length cp) cs o.w o.l S wc (Hv1.out.keepAll hs) hn hn2 Hg.out.sorted).mono ?_
        rintro e wd ⟨u, rfl, hown, hS⟩
        exact hK _ _ (by rw [Hop.out]; exact hown.lower (Nat.le_trans hB0 hs.size)) hS
      · intro ac wc hs hd hz hf hw K hK
        have p0 : (⟨fun v w => OwnC w B v (opF cs o), fun _ _ _ h k => h.keepAll k⟩ : SP).p (ac.eval (.tmp 16)) wc := hw 5 rfl
        obtain ⟨u0, e0⟩ : ∃ u, ac.eval (.tmp 16) = u := ⟨_, rfl⟩
        rw [e0] at p0
        clear hd hz hf hw
        simp only [Region.wanted, if_true, Oper.wp, execOp, resolve, List.map_toArray, List.map_cons, List.map_nil, Option.map_some, Option.map_none, e0]
        go_simp
        exact hK _ _ p0 (Same.refl _ _)
      · intro ac wc hs hd hz hf hw K hK
        have p0 : (⟨fun v w => OwnC w B v (opF cs o), fun _ _ _ h k => h.keepAll k⟩ : SP).p (ac.eval (.tmp 22)) wc := hw 11 rfl
        obtain ⟨u0, e0⟩ : ∃ u, ac.eval (.tmp 22) = u := ⟨_, rfl⟩
        rw [e0] at p0
        clear hd hz hf hw
        simp only [Region.wanted, if_true, Oper.wp, execOp, resolve, List.map_toArray, List.map_cons, List.map_nil, Option.map_some, Option.map_none, e0]
        go_simp
        exact hK _ _ p0 (Same.refl _ _)
    · intro vs wR hvl hvp hsR
      rcases vs with _ | ⟨z0, _ | ⟨z1, _ | ⟨z2, _ | ⟨z3, _ | ⟨z4, _ | ⟨z5, _ | ⟨z6, _ | ⟨z7, _ | ⟨z8, _ | ⟨z9, _ | ⟨z10, _ | ⟨z11, _ | ⟨z12, _ | ⟨z13, _ | ⟨zz, zr⟩⟩⟩⟩⟩⟩⟩⟩⟩⟩⟩⟩⟩⟩⟩
      rotate_right 1
      · simp at hvl
      · simp at hvl
      · simp at hvl
      · simp at hvl
      · simp at hvl
      · simp at hvl
      · simp at hvl
      · simp at hvl
      · simp at hvl
      · simp at hvl
      · simp at hvl
      · simp at hvl
      · simp at hvl
      · simp at hvl
      · simp at hvl
      · obtain rfl : z0 = (.slice A cs.length cp) := hvp 0 (by simp) (by simp)
        obtain rfl : z1 = (.pointer (some ⟨w.heap.size, 1, none⟩)) := hvp 1 (by simp) (by simp)
        obtain rfl : z2 = (wrV o.w) := hvp 2 (by simp) (by simp)
        obtain rfl : z3 = (.pointer (some ⟨w.heap.size, 4, none⟩)) := hvp 3 (by simp) (by simp)
        obtain rfl : z4 = (lckV o.l) := hvp 4 (by simp) (by simp)
        have hx : (⟨fun v w => OwnC w B v (opF cs o), fun _ _ _ h k => h.keepAll k⟩ : SP).p z5 wR := hvp 5 (by simp) (by simp)
        obtain rfl : z6 = (.slice A cs.length cp) := hvp 6 (by simp) (by simp)
        obtain rfl : z7 = (.pointer (some ⟨w.heap.size, 1, none⟩)) := hvp 7 (by simp) (by simp)
        obtain rfl : z8 = (wrV o.w) := hvp 8 (by simp) (by simp)
        obtain rfl : z9 = (.pointer (some ⟨w.heap.size, 4, none⟩)) := hvp 9 (by simp) (by simp)
        obtain rfl : z10 = (lckV o.l) := hvp 10 (by simp) (by simp)
        have hy : (⟨fun v w => OwnC w B v (opF cs o), fun _ _ _ h k => h.keepAll k⟩ : SP).p z11 wR := hvp 11 (by simp) (by simp)
        have ha : (⟨fun v w => OwnC w B v (opF cs o), fun _ _ _ h k => h.keepAll k⟩ : SP).p z12 wR := hvp 12 (by simp) (by simp)
        have hb : (⟨fun v w => OwnC w B v (opF cs o), fun _ _ _ h k => h.keepAll k⟩ : SP).p z13 wR := hvp 13 (by simp) (by simp)
        clear hvl hvp
        simp only [putAll, Act.put, List.setIfInBounds_toArray, List.set_cons_succ, List.set_cons_zero]
        go_wp2
        go_ret2
        exact ⟨_, _, rfl, by rw [← HBe.out]; exact ha, by rw [← HBe.out]; exact hb, HS0.out.trans hsR⟩
  · by_cases k1 : kindN o.kind = 1
    · have hop : opF cs o = setlF cs o.l.by_ o.yes := by unfold opF; rw [if_neg k0, if_pos k1]
      have Hop := Lib.hid hop
      rw [k1]
      clear hop k0 k1
      go_wp2
      refine wp_region_vals_lit (L := [.eq (.slice A cs.length cp), .eq (.pointer (some ⟨w.heap.size, 4, none⟩)), .eq (.pointer (some ⟨w.heap.size, 4, none⟩)), .eq (tryV o.l.by_), .eq (.pointer (some ⟨w.heap.size, 13, none⟩)), .eq (.bool o.yes), ⟨fun v w => OwnC w B v (opF cs o), fun _ _ _ h k => h.keepAll k⟩, .eq (.slice A cs.length cp), .eq (.pointer (some ⟨w.heap.size, 4, none⟩)), .eq (.pointer (some ⟨w.heap.size, 4, none⟩)), .eq (tryV o.l.by_), .eq (.pointer (some ⟨w.heap.size, 13, none⟩)), .eq (.bool o.yes), ⟨fun v w => OwnC w B v (opF cs o), fun _ _ _ h k => h.keepAll k⟩, ⟨fun v w => OwnC w B v (opF cs o), fun _ _ _ h k => h.keepAll k⟩, ⟨fun v w => OwnC w B v (opF cs o), fun _ _ _ h k => h.keepAll k⟩]) (by kernel_rfl) (by kernel_rfl) rfl rfl ?_ ?_
      · refine ⟨?_, ?_, ?_, ?_, ?_, ?_, ?_, ?_, ?_, ?_, ?_, ?_, ?_, ?_, ?_, ?_, trivial⟩
        · intro ac wc hs hd hz hf hw K hK
          have e0 : ac.eval (.tmp 0) = (.slice A cs.length cp) := hf 0 rfl
          clear hd hz hf hw
          simp only [Region.wanted, if_true, Oper.wp, execOp, resolve, List.map_toArray, List.map_cons, List.map_nil, Option.map_some, Option.map_none, e0]
          go_simp
          exact hK _ _ rfl (Same.refl _ _)
        · intro ac wc hs hd hz hf hw K hK
          have e0 : ac.eval (.tmp 3) = (.pointer (some ⟨w.heap.size, 0, none⟩)) := hf 3 rfl
          clear hd hz hf hw
          simp only [Region.wanted, if_true, Oper.wp, execOp, resolve, List.map_toArray, List.map_cons, List.map_nil, Option.map_some, Option.map_none, e0]
          go_simp
          exact hK _ _ rfl (Same.refl _ _)
        · intro ac wc hs hd hz hf hw K hK
          have e0 : ac.eval (.tmp 26) = (.pointer (some ⟨w.heap.size, 4, none⟩)) := hw 1 rfl
          clear hd hz hf hw
          simp only [Region.wanted, if_true, Oper.wp, execOp, resolve, List.map_toArray, List.map_cons, List.map_nil, Option.map_some, Option.map_none, e0]
          go_simp
          exact hK _ _ rfl (Same.refl _ _)
        · intro ac wc hs hd hz hf hw K hK
          have e0 : ac.eval (.tmp 27) = (.pointer (some ⟨w.heap.size, 4, none⟩)) := hw 2 rfl
          have m0 : wc.cell? ⟨w.heap.size, 4, none⟩ = some (.int .i64 o.l.by_.node) := hs.cell (p := ⟨w.heap.size, 4, none⟩) trivial c4
          have m1 : wc.cell? ⟨w.heap.size, 5, none⟩ = some (.int .i64 o.l.by_.life) := hs.cell (p := ⟨w.heap.size, 5, none⟩) trivial c5
          have m2 : wc.cell? ⟨w.heap.size, 6, none⟩ = some (.int .i64 o.l.by_.seq) := hs.cell (p := ⟨w.heap.size, 6, none⟩) trivial c6
          have m3 : wc.cell? ⟨w.heap.size, 7, none⟩ = some (.int .i64 o.l.by_.attempt) := hs.cell (p := ⟨w.heap.size, 7, none⟩) trivial c7
          clear hd hz hf hw
          simp only [Region.wanted, if_true, Oper.wp, execOp, resolve, List.map_toArray, List.map_cons, List.map_nil, Option.map_some, Option.map_none, e0]
          go_simp
          exact hK _ _ rfl (Same.refl _ _)
        · intro ac wc hs hd hz hf hw K hK
          have e0 : ac.eval (.tmp 3) = (.pointer (some ⟨w.heap.size, 0, none⟩)) := hf 3 rfl
          clear hd hz hf hw
          simp only [Region.wanted, if_true, Oper.wp, execOp, resolve, List.map_toArray, List.map_cons, List.map_nil, Option.map_some, Option.map_none, e0]
          go_simp
          exact hK _ _ rfl (Same.refl _ _)
        · intro ac wc hs hd hz hf hw K hK
          have e0 : ac.eval (.tmp 29) = (.pointer (some ⟨w.heap.size, 13, none⟩)) := hw 4 rfl
          have m0 : wc.cell? ⟨w.heap.size, 13, none⟩ = some (.bool o.yes) := hs.cell (p := ⟨w.heap.size, 13, none⟩) trivial c13
          clear hd hz hf hw
          simp only [Region.wanted, if_true, Oper.wp, execOp, resolve, List.map_toArray, List.map_cons, List.map_nil, Option.map_some, Option.map_none, e0]
          go_simp
          exact hK _ _ rfl (Same.refl _ _)
        · intro ac wc hs hd hz hf hw K hK
          have e0 : ac.eval (.tmp 25) = (.slice A cs.length cp) := hw 0 rfl
          have e1 : ac.eval (.tmp 28) = (tryV o.l.by_) := hw 3 rfl
          have e2 : ac.eval (.tmp 30) = (.bool o.yes) := hw 5 rfl
          clear hd hz hf hw
          simp only [Region.wanted, if_true, Oper.wp, execOp, resolve, List.map_toArray, List.map_cons, List.map_nil, Option.map_some, Option.map_none, e0, e1, e2]
          go_simp
          refine (mvsettle_any (.slice A cs.length cp) cs o.l.by_ o.yes S wc (Hv1.out.keepAll hs) hn hn2 (fun c hc => (Hg.out.each c hc).sort)).mono ?_
          rintro e wd ⟨u, rfl, hown, hS⟩
          exact hK _ _ (by rw [Hop.out]; exact hown.lower (Nat.le_trans hB0 hs.size)) hS
        · intro ac wc hs hd hz hf hw K hK
          have e0 : ac.eval (.tmp 0) = (.slice A cs.length cp) := hf 0 rfl
          clear hd hz hf hw
          simp only [Region.wanted, if_true, Oper.wp, execOp, resolve, List.map_toArray, List.map_cons, List.map_nil, Option.map_some, Option.map_none, e0]
          go_simp
          exact hK _ _ rfl (Same.refl _ _)
        · intro ac wc hs hd hz hf hw K hK
          have e0 : ac.eval (.tmp 3) = (.pointer (some ⟨w.heap.size, 0, none⟩)) := hf 3 rfl
          clear hd hz hf hw
          simp only [Region.wanted, if_true, Oper.wp, execOp, resolve, List.map_toArray, List.map_cons, List.map_nil, Option.map_some, Option.map_none, e0]
          go_simp
          exact hK _ _ rfl (Same.refl _ _)
        · intro ac wc hs hd hz hf hw K hK
          have e0 : ac.eval (.tmp 33) = (.pointer (some ⟨w.heap.size, 4, none⟩)) := hw 8 rfl
          clear hd hz hf hw
          simp only [Region.wanted, if_true, Oper.wp, execOp, resolve, List.map_toArray, List.map_cons, List.map_nil, Option.map_some, Option.map_none, e0]
          go_simp
          exact hK _ _ rfl (Same.refl _ _)
        · intro ac wc hs hd hz hf hw K hK
          have e0 : ac.eval (.tmp 34) = (.pointer (some ⟨w.heap.size, 4, none⟩)) := hw 9 rfl
          have m0 : wc.cell? ⟨w.heap.size, 4, none⟩ = some (.int .i64 o.l.by_.node) := hs.cell (p := ⟨w.heap.size, 4, none⟩) trivial c4
          have m1 : wc.cell? ⟨w.heap.size, 5, none⟩ = some (.int .i64 o.l.by_.life) := hs.cell (p := ⟨w.heap.size, 5, none⟩) trivial c5
          have m2 : wc.cell? ⟨w.heap.size, 6, none⟩ = some (.int .i64 o.l.by_.seq) := hs.cell (p := ⟨w.heap.size, 6, none⟩) trivial c6
          have m3 : wc.cell? ⟨w.heap.size, 7, none⟩ = some (.int .i64 o.l.by_.attempt) := hs.cell (p := ⟨w.heap.size, 7, none⟩) trivial c7
          clear hd hz hf hw
          simp only [Region.wanted, if_true, Oper.wp, execOp, resolve, List.map_toArray, List.map_cons, List.map_nil, Option.map_some, Option.map_none, e0]
          go_simp
          exact hK _ _ rfl (Same.refl _ _)
        · intro ac wc hs hd hz hf hw K hK
          have e0 : ac.eval (.tmp 3) = (.pointer (some ⟨w.heap.size, 0, none⟩)) := hf 3 rfl
          clear hd hz hf hw
          simp only [Region.wanted, if_true, Oper.wp, execOp, resolve, List.map_toArray, List.map_cons, List.map_nil, Option.map_some, Option.map_none, e0]
          go_simp
          exact hK _ _ rfl (Same.refl _ _)
        · intro ac wc hs hd hz hf hw K hK
          have e0 : ac.eval (.tmp 36) = (.pointer (some ⟨w.heap.size, 13, none⟩)) := hw 11 rfl
          have m0 : wc.cell? ⟨w.heap.size, 13, none⟩ = some (.bool o.yes) := hs.cell (p := ⟨w.heap.size, 13, none⟩) trivial c13
          clear hd hz hf hw
          simp only [Region.wanted, if_true, Oper.wp, execOp, resolve, List.map_toArray, List.map_cons, List.map_nil, Option.map_some, Option.map_none, e0]
          go_simp
          exact hK _ _ rfl (Same.refl _ _)
        · intro ac wc hs hd hz hf hw K hK
          have e0 : ac.eval (.tmp 32) = (.slice A cs.length cp) := hw 7 rfl
          have e1 : ac.eval (.tmp 35) = (tryV o.l.by_) := hw 10 rfl
          have e2 : ac.eval (.tmp 37) = (.bool o.yes) := hw 12 rfl
          clear hd hz hf hw
          simp only [Region.wanted, if_true, Oper.wp, execOp, resolve, List.map_toArray, List.map_cons, List.map_nil, Option.map_some, Option.map_none, e0, e1, e2]
          go_simp
          refine (refsettle_any (.slice A cs.length cp) cs o.l.by_ o.yes S wc (Hv1.out.keepAll hs) hn hn2 (fun c hc => (Hg.out.each c hc).sort)).mono ?_
          rintro e wd ⟨u, rfl, hown, hS⟩
          exact hK _ _ (by rw [Hop.out]; exact hown.lower (Nat.le_trans hB0 hs.size)) hS
        · intro ac wc hs hd hz hf hw K hK
          have p0 : (⟨fun v w => OwnC w B v (opF cs o), fun _ _ _ h k => h.keepAll k⟩ : SP).p (ac.eval (.tmp 31)) wc := hw 6 rfl
          obtain ⟨u0, e0⟩ : ∃ u, ac.eval (.tmp 31) = u := ⟨_, rfl⟩
          rw [e0] at p0
          clear hd hz hf hw
          simp only [Region.wanted, if_true, Oper.wp, execOp, resolve, List.map_toArray, List.map_cons, List.map_nil, Option.map_some, Option.map_none, e0]
          go_simp
          exact hK _ _ p0 (Same.refl _ _)
        · intro ac wc hs hd hz hf hw K hK
          have p0 : (⟨fun v w => OwnC w B v (opF cs o), fun _ _ _ h k => h.keepAll k⟩ : SP).p (ac.eval (.tmp 38)) wc := hw 13 rfl
          obtain ⟨u0, e0⟩ : ∃ u, ac.eval (.tmp 38) = u := ⟨_, rfl⟩
          rw [e0] at p0
          clear hd hz hf hw
          simp only [Region.wanted, if_true, Oper.wp, execOp, resolve, List.map_toArray, List.map_cons, List.map_nil, Option.map_some, Option.map_none, e0]
          go_simp
          exact hK _ _ p0 (Same.refl _ _)
      · intro vs wR hvl hvp hsR
        rcases vs with _ | ⟨z0, _ | ⟨z1, _ | ⟨z2, _ | ⟨z3, _ | ⟨z4, _ | ⟨z5, _ | ⟨z6, _ | ⟨z7, _ | ⟨z8, _ | ⟨z9, _ | ⟨z10, _ | ⟨z11, _ | ⟨z12, _ | ⟨z13, _ | ⟨z14, _ | ⟨z15, _ | ⟨zz, zr⟩⟩⟩⟩⟩⟩⟩⟩⟩⟩⟩⟩⟩⟩⟩⟩⟩
        rotate_right 1
        · simp at hvl
        · simp at hvl
        · simp at hvl
        · simp at hvl
        · simp at hvl
        · simp at hvl
        · simp at hvl
        · simp at hvl
        · simp at hvl
        · simp at hvl
        · simp at hvl
        · simp at hvl
        · simp at hvl
        · simp at hvl
        · simp at hvl
        · simp at hvl
        · simp at hvl
        · obtain rfl : z0 = (.slice A cs.length cp) := hvp 0 (by simp) (by simp)
          obtain rfl : z1 = (.pointer (some ⟨w.heap.size, 4, none⟩)) := hvp 1 (by simp) (by simp)
          obtain rfl : z2 = (.pointer (some ⟨w.heap.size, 4, none⟩)) := hvp 2 (by simp) (by simp)
          obtain rfl : z3 = (tryV o.l.by_) := hvp 3 (by simp) (by simp)
          obtain rfl : z4 = (.pointer (some ⟨w.heap.size, 13, none⟩)) := hvp 4 (by simp) (by simp)
          obtain rfl : z5 = (.bool o.yes) := hvp 5 (by simp) (by simp)
          have hx : (⟨fun v w => OwnC w B v (opF cs o), fun _ _ _ h k => h.keepAll k⟩ : SP).p z6 wR := hvp 6 (by simp) (by simp)
          obtain rfl : z7 = (.slice A cs.length cp) := hvp 7 (by simp) (by simp)
          obtain rfl : z8 = (.pointer (some ⟨w.heap.size, 4, none⟩)) := hvp 8 (by simp) (by simp)
          obtain rfl : z9 = (.pointer (some ⟨w.heap.size, 4, none⟩)) := hvp 9 (by simp) (by simp)
          obtain rfl : z10 = (tryV o.l.by_) := hvp 10 (by simp) (by simp)
          obtain rfl : z11 = (.pointer (some ⟨w.heap.size, 13, none⟩)) := hvp 11 (by simp) (by simp)
          obtain rfl : z12 = (.bool o.yes) := hvp 12 (by simp) (by simp)
          have hy : (⟨fun v w => OwnC w B v (opF cs o), fun _ _ _ h k => h.keepAll k⟩ : SP).p z13 wR := hvp 13 (by simp) (by simp)
          have ha : (⟨fun v w => OwnC w B v (opF cs o), fun _ _ _ h k => h.keepAll k⟩ : SP).p z14 wR := hvp 14 (by simp) (by simp)
          have hb : (⟨fun v w => OwnC w B v (opF cs o), fun _ _ _ h k => h.keepAll k⟩ : SP).p z15 wR := hvp 15 (by simp) (by simp)
          clear hvl hvp
          simp only [putAll, Act.put, List.setIfInBounds_toArray, List.set_cons_succ, List.set_cons_zero]
          go_wp2
          go_ret2
          exact ⟨_, _, rfl, by rw [← HBe.out]; exact ha, by rw [← HBe.out]; exact hb, HS0.out.trans hsR⟩
    · have hop : opF cs o = trimF cs o.l.at_ := by unfold opF; rw [if_neg k0, if_neg k1]
      have Hop := Lib.hid hop
      have q0 : (kindN o.kind == 0) = false := by simpa using k0
      have q1 : (kindN o.kind == 1) = false := by simpa using k1
      generalize kindN o.kind = kk at *
      clear hop
      go_wp2
      refine wp_region_vals_lit (L := [.eq (.slice A cs.length cp), .eq (.pointer (some ⟨w.heap.size, 4, none⟩)), .eq (.pointer (some ⟨w.heap.size, 9, none⟩)), .eq (stV o.l.at_), ⟨fun v w => OwnC w B v (opF cs o), fun _ _ _ h k => h.keepAll k⟩, .eq (.slice A cs.length cp), .eq (.pointer (some ⟨w.heap.size, 4, none⟩)), .eq (.pointer (some ⟨w.heap.size, 9, none⟩)), .eq (stV o.l.at_), ⟨fun v w => OwnC w B v (opF cs o), fun _ _ _ h k => h.keepAll k⟩, ⟨fun v w => OwnC w B v (opF cs o), fun _ _ _ h k => h.keepAll k⟩, ⟨fun v w => OwnC w B v (opF cs o), fun _ _ _ h k => h.keepAll k⟩]) (by kernel_rfl) (by kernel_rfl) rfl rfl ?_ ?_
      · refine ⟨?_, ?_, ?_, ?_, ?_, ?_, ?_, ?_, ?_, ?_, ?_, ?_, trivial⟩
        · intro ac wc hs hd hz hf hw K hK
          have e0 : ac.eval (.tmp 0) = (.slice A cs.length cp) := hf 0 rfl
          clear hd hz hf hw
          simp only [Region.wanted, if_true, Oper.wp, execOp, resolve, List.map_toArray, List.map_cons, List.map_nil, Option.map_some, Option.map_none, e0]
          go_simp
          exact hK _ _ rfl (Same.refl _ _)
        · intro ac wc hs hd hz hf hw K hK
          have e0 : ac.eval (.tmp 3) = (.pointer (some ⟨w.heap.size, 0, none⟩)) := hf 3 rfl
          clear hd hz hf hw
          simp only [Region.wanted, if_true, Oper.wp, execOp, resolve, List.map_toArray, List.map_cons, List.map_nil, Option.map_some, Option.map_none, e0]
          go_simp
          exact hK _ _ rfl (Same.refl _ _)
        · intro ac wc hs hd hz hf hw K hK
          have e0 : ac.eval (.tmp 40) = (.pointer (some ⟨w.heap.size, 4, none⟩)) := hw 1 rfl
          clear hd hz hf hw
          simp only [Region.wanted, if_true, Oper.wp, execOp, resolve, List.map_toArray, List.map_cons, List.map_nil, Option.map_some, Option.map_none, e0]
          go_simp
          exact hK _ _ rfl (Same.refl _ _)
        · intro ac wc hs hd hz hf hw K hK
          have e0 : ac.eval (.tmp 41) = (.pointer (some ⟨w.heap.size, 9, none⟩)) := hw 2 rfl
          have m0 : wc.cell? ⟨w.heap.size, 9, none⟩ = some (.int .i64 o.l.at_.wall) := hs.cell (p := ⟨w.heap.size, 9, none⟩) trivial c9
          have m1 : wc.cell? ⟨w.heap.size, 10, none⟩ = some (.int .i64 o.l.at_.tie) := hs.cell (p := ⟨w.heap.size, 10, none⟩) trivial c10
          clear hd hz hf hw
          simp only [Region.wanted, if_true, Oper.wp, execOp, resolve, List.map_toArray, List.map_cons, List.map_nil, Option.map_some, Option.map_none, e0]
          go_simp
          exact hK _ _ rfl (Same.refl _ _)
        · intro ac wc hs hd hz hf hw K hK
          have e0 : ac.eval (.tmp 39) = (.slice A cs.length cp) := hw 0 rfl
          have e1 : ac.eval (.tmp 42) = (stV o.l.at_) := hw 3 rfl
          clear hd hz hf hw
          simp only [Region.wanted, if_true, Oper.wp, execOp, resolve, List.map_toArray, List.map_cons, List.map_nil, Option.map_some, Option.map_none, e0, e1]
          go_simp
          refine (mvtrim_any (.slice A cs.length cp) cs o.l.at_ S wc (Hv1.out.keepAll hs) hn hn2).mono ?_
          rintro e wd ⟨u, rfl, hown, hS⟩
          exact hK _ _ (by rw [Hop.out]; exact hown.lower (Nat.le_trans hB0 hs.size)) hS
        · intro ac wc hs hd hz hf hw K hK
          have e0 : ac.eval (.tmp 0) = (.slice A cs.length cp) := hf 0 rfl
          clear hd hz hf hw
          simp only [Region.wanted, if_true, Oper.wp, execOp, resolve, List.map_toArray, List.map_cons, List.map_nil, Option.map_some, Option.map_none, e0]
          go_simp
          exact hK _ _ rfl (Same.refl _ _)
        · intro ac wc hs hd hz hf hw K hK
          have e0 : ac.eval (.tmp 3) = (.pointer (some ⟨w.heap.size, 0, none⟩)) := hf 3 rfl
          clear hd hz hf hw
          simp only [Region.wanted, if_true, Oper.wp, execOp, resolve, List.map_toArray, List.map_cons, List.map_nil, Option.map_some, Option.map_none, e0]
          go_simp
          exact hK _ _ rfl (Same.refl _ _)
        · intro ac wc hs hd hz hf hw K hK
          have e0 : ac.eval (.tmp 45) = (.pointer (some ⟨w.heap.size, 4, none⟩)) := hw 6 rfl
          clear hd hz hf hw
          simp only [Region.wanted, if_true, Oper.wp, execOp, resolve, List.map_toArray, List.map_cons, List.map_nil, Option.map_some, Option.map_none, e0]
          go_simp
          exact hK _ _ rfl (Same.refl _ _)
        · intro ac wc hs hd hz hf hw K hK
          have e0 : ac.eval (.tmp 46) = (.pointer (some ⟨w.heap.size, 9, none⟩)) := hw 7 rfl
          have m0 : wc.cell? ⟨w.heap.size, 9, none⟩ = some (.int .i64 o.l.at_.wall) := hs.cell (p := ⟨w.heap.size, 9, none⟩) trivial c9
          have m1 : wc.cell? ⟨w.heap.size, 10, none⟩ = some (.int .i64 o.l.at_.tie) := hs.cell (p := ⟨w.heap.size, 10, none⟩) trivial c10
          clear hd hz hf hw
          simp only [Region.wanted, if_true, Oper.wp, execOp, resolve, List.map_toArray, List.map_cons, List.map_nil, Option.map_some, Option.map_none, e0]
          go_simp
          exact hK _ _ rfl (Same.refl _ _)
        · intro ac wc hs hd hz hf hw K hK
          have e0 : ac.eval (.tmp 44) = (.slice A cs.length cp) := hw 5 rfl
          have e1 : ac.eval (.tmp 47) = (stV o.l.at_) := hw 8 rfl
          clear hd hz hf hw
          simp only [Region.wanted, if_true, Oper.wp, execOp, resolve, List.map_toArray, List.map_cons, List.map_nil, Option.map_some, Option.map_none, e0, e1]
          go_simp
          refine (reftrim_any (.slice A cs.length cp) cs o.l.at_ S wc (Hv1.out.keepAll hs) hn hn2 (fun c hc => (Hg.out.each c hc).sort)).mono ?_
          rintro e wd ⟨u, rfl, hown, hS⟩
          exact hK _ _ (by rw [Hop.out]; exact hown.lower (Nat.le_trans hB0 hs.size)) hS
        · intro ac wc hs hd hz hf hw K hK
          have p0 : (⟨fun v w => OwnC w B v (opF cs o), fun _ _ _ h k => h.keepAll k⟩ : SP).p (ac.eval (.tmp 43)) wc := hw 4 rfl
          obtain ⟨u0, e0⟩ : ∃ u, ac.eval (.tmp 43) = u := ⟨_, rfl⟩
          rw [e0] at p0
          clear hd hz hf hw
          simp only [Region.wanted, if_true, Oper.wp, execOp, resolve, List.map_toArray, List.map_cons, List.map_nil, Option.map_some, Option.map_none, e0]
          go_simp
          exact hK _ _ p0 (Same.refl _ _)
        · intro ac wc hs hd hz hf hw K hK
          have p0 : (⟨fun v w => OwnC w B v (opF cs o), fun _ _ _ h k => h.keepAll k⟩ : SP).p (ac.eval (.tmp 48)) wc := hw 9 rfl
          obtain ⟨u0, e0⟩ : ∃ u, ac.eval (.tmp 48) = u := ⟨_, rfl⟩
          rw [e0] at p0
          clear hd hz hf hw
          simp only [Region.wanted, if_true, Oper.wp, execOp, resolve, List.map_toArray, List.map_cons, List.map_nil, Option.map_some, Option.map_none, e0]
          go_simp
          exact hK _ _ p0 (Same.refl _ _)
      · intro vs wR hvl hvp hsR
        rcases vs with _ | ⟨z0, _ | ⟨z1, _ | ⟨z2, _ | ⟨z3, _ | ⟨z4, _ | ⟨z5, _ | ⟨z6, _ | ⟨z7, _ | ⟨z8, _ | ⟨z9, _ | ⟨z10, _ | ⟨z11, _ | ⟨zz, zr⟩⟩⟩⟩⟩⟩⟩⟩⟩⟩⟩⟩⟩
        rotate_right 1
        · simp at hvl
        · simp at hvl
        · simp at hvl
        · simp at hvl
        · simp at hvl
        · simp at hvl
        · simp at hvl
        · simp at hvl
        · simp at hvl
        · simp at hvl
        · simp at hvl
        · simp at hvl
        · simp at hvl
        · obtain rfl : z0 = (.slice A cs.length cp) := hvp 0 (by simp) (by simp)
          obtain rfl : z1 = (.pointer (some ⟨w.heap.size, 4, none⟩)) := hvp 1 (by simp) (by simp)
          obtain rfl : z2 = (.pointer (some ⟨w.heap.size, 9, none⟩)) := hvp 2 (by simp) (by simp)
          obtain rfl : z3 = (stV o.l.at_) := hvp 3 (by simp) (by simp)
          have hx : (⟨fun v w => OwnC w B v (opF cs o), fun _ _ _ h k => h.keepAll k⟩ : SP).p z4 wR := hvp 4 (by simp) (by simp)
          obtain rfl : z5 = (.slice A cs.length cp) := hvp 5 (by simp) (by simp)
          obtain rfl : z6 = (.pointer (some ⟨w.heap.size, 4, none⟩)) := hvp 6 (by simp) (by simp)
          obtain rfl : z7 = (.pointer (some ⟨w.heap.size, 9, none⟩)) := hvp 7 (by simp) (by simp)
          obtain rfl : z8 = (stV o.l.at_) := hvp 8 (by simp) (by simp)
          have hy : (⟨fun v w => OwnC w B v (opF cs o), fun _ _ _ h k => h.keepAll k⟩ : SP).p z9 wR := hvp 9 (by simp) (by simp)
          have ha : (⟨fun v w => OwnC w B v (opF cs o), fun _ _ _ h k => h.keepAll k⟩ : SP).p z10 wR := hvp 10 (by simp) (by simp)
          have hb : (⟨fun v w => OwnC w B v (opF cs o), fun _ _ _ h k => h.keepAll k⟩ : SP).p z11 wR := hvp 11 (by simp) (by simp)
          clear hvl hvp
          simp only [putAll, Act.put, List.setIfInBounds_toArray, List.set_cons_succ, List.set_cons_zero]
          go_wp2
          go_ret2
          exact ⟨_, _, rfl, by rw [← HBe.out]; exact ha, by rw [← HBe.out]; exact hb, HS0.out.trans hsR⟩
end Go.Proofs.Ytoldelocfmpccaa
set_option linter.unusedSimpArgs false
set_option linter.unusedVariables false
namespace Go.Proofs.Ytoldelocfmpccaa
open Go.RowKit

theorem good_next {cs : List Cel} {k : Nat} (hk : k < cs.length) (h : Good (cs.take k)) (hc : GoodC cs[k]) (hkey : ∀ i (hi : i + 1 = k), ltB (cs[i]'(by omega)).key cs[k].key = true) : Good (cs.take (k + 1)) := by
  rw [List.take_succ_eq_append_getElem hk]
  refine ⟨List.pairwise_append.2 ⟨h.sort, List.pairwise_singleton _ _, fun x hx y hy => ?_⟩, fun c hx => ?_⟩
  · obtain rfl := List.mem_singleton.1 hy
    obtain ⟨j, hj, rfl⟩ := List.mem_iff_getElem.1 hx
    have hjk : j < k := by rw [List.length_take] at hj; omega
    rw [List.getElem_take]
    rcases Nat.lt_or_ge (j + 1) k with h1 | h1
    · have h2 := hkey (k - 1) (by omega)
      have h3 := List.pairwise_iff_getElem.1 h.sort j (k - 1) hj (by rw [List.length_take]; omega) (by omega)
      rw [List.getElem_take, List.getElem_take] at h3
      exact ltB_trans h3 h2
    · exact hkey j (by omega)
  · rcases List.mem_append.1 hx with hx | hx
    · exact h.each c hx
    · obtain rfl := List.mem_singleton.1 hx
      exact hc
theorem not_good_key {cs : List Cel} {i : Nat} (hi : i + 1 < cs.length) (h : ltB cs[i].key cs[i + 1].key = false) : ¬ Good cs := fun g => by
  have := List.pairwise_iff_getElem.1 g.sort i (i + 1) (by omega) hi (by omega)
  rw [h] at this
  cases this
theorem not_good_cell {cs : List Cel} {k : Nat} {c : Cel} (hk : k < cs.length) (hc : c = cs[k]) (h : ¬ GoodC c) : ¬ Good cs := fun g => h (by rw [hc]; exact g.each _ (List.getElem_mem hk))
def Clean (l : List Ver) : Prop := ∀ v ∈ l, v.drop = true → v.data = []
theorem vers_next {l : List Ver} {k : Nat} (hk : k < l.length) (h : SortV (l.take k)) (h' : Clean (l.take k)) (hc : l[k].drop = true → l[k].data = []) (hkey : ∀ i (hi : i + 1 = k), lessB (l[i]'(by omega)).at_ l[k].at_ = true) : SortV (l.take (k + 1)) ∧ Clean (l.take (k + 1)) := by
  rw [List.take_succ_eq_append_getElem hk]
  refine ⟨List.pairwise_append.2 ⟨h, List.pairwise_singleton _ _, fun x hx y hy => ?_⟩, fun v hx => ?_⟩
  · obtain rfl := List.mem_singleton.1 hy
    obtain ⟨j, hj, rfl⟩ := List.mem_iff_getElem.1 hx
    have hjk : j < k := by rw [List.length_take] at hj; omega
    rw [List.getElem_take]
    rcases Nat.lt_or_ge (j + 1) k with h1 | h1
    · have h2 := hkey (k - 1) (by omega)
      have h3 := List.pairwise_iff_getElem.1 h j (k - 1) hj (by rw [List.length_take]; omega) (by omega)
      rw [List.getElem_take, List.getElem_take] at h3
      exact less_trans h3 h2
    · exact hkey j (by omega)
  · rcases List.mem_append.1 hx with hx | hx
    · exact h' v hx
    · obtain rfl := List.mem_singleton.1 hx
      exact hc
theorem not_sort {l : List Ver} {i : Nat} (hi : i + 1 < l.length) (h : lessB l[i].at_ l[i + 1].at_ = false) : ¬ SortV l := fun g => by
  have := List.pairwise_iff_getElem.1 g i (i + 1) (by omega) hi (by omega)
  rw [h] at this
  cases this
theorem clean_nil : SortV [] ∧ Clean [] := ⟨List.Pairwise.nil, fun v h => by cases h⟩
/-- What May tells. -/
def MayP (cs : List Cel) (w : World) (e : Ending) (w' : World) : Prop := ∃ b, e = .returned (.bool b) ∧ (b = true ↔ Good cs) ∧ Same (fun _ => True) w w'
theorem MayP.no {cs : List Cel} {w w' : World} (h : ¬ Good cs) (hs : Same (fun _ => True) w w') : MayP cs w (.returned (.bool false)) w' := ⟨false, rfl, ⟨fun h => (by cases h), fun g => absurd g h⟩, hs⟩
theorem MayP.yes {cs : List Cel} {w w' : World} (h : Good cs) (hs : Same (fun _ => True) w w') : MayP cs w (.returned (.bool true)) w' := ⟨true, rfl, ⟨fun _ => h, fun _ => rfl⟩, hs⟩
theorem lck_runne {a b : Lck} (h : a ≠ b) (w : World) : (binOp .neq 30 (lckV a) (lckV b)).run Try.prog w = .ok (.bool true) w := by
  go_simp
  intro p1 p2 p3 p4 p5 p6 p7 p8 p9
  apply h
  obtain ⟨⟨a1, a2, a3, a4⟩, a5, ⟨a6, a7⟩, a8, a9⟩ := a
  obtain ⟨⟨b1, b2, b3, b4⟩, b5, ⟨b6, b7⟩, b8, b9⟩ := b
  have q9 : a9 = b9 := by
    rw [ByteArray.toList_eq, ByteArray.toList_eq] at p9
    exact p9
  simp_all
/-- The key behind the cells ahead of k. -/
def KeyLt (cs : List Cel) (k : Nat) (key : List UInt8) : Prop := ∀ i pc, i + 1 = k → cs[i]? = some pc → ltB pc.key key = true
theorem good_next2 {cs : List Cel} {k : Nat} (hk : k < cs.length) (h : Good (cs.take k)) (h1 : KeyLt cs k cs[k].key) (hc : GoodC cs[k]) : Good (cs.take (k + 1)) :=
  good_next hk h hc fun i hi => h1 i _ hi (List.getElem?_eq_getElem (by omega))
theorem key_zero (cs : List Cel) (key : List UInt8) : KeyLt cs 0 key := fun i _ h => by omega
end Go.Proofs.Ytoldelocfmpccaa
set_option linter.unusedSimpArgs false
set_option linter.unusedVariables false
namespace Go.Proofs.Ytoldelocfmpccaa
open Go.RowKit Go.ChangeShapes Go.WideShapes Go.ChangeAt

def cI : Codec Try.prog 3 Int := cInt .i64 Try.underlying3 (by kernel_rfl)
def cJ : Codec Try.prog 2 Int := cInt .i64 Try.underlying2 (by kernel_rfl)
def cO : Codec Try.prog 4 Bool := cBool Try.underlying4 (by kernel_rfl)
def cS : Codec Try.prog 9 (List UInt8) := cStr Try.underlying9 (by kernel_rfl)
set_option maxRecDepth 100000 in
def cTry : Codec Try.prog 26 TryT :=
  cStruct (fcons 0 1 cI (fcons 1 1 cI (fcons 2 1 cI (fcons 3 1 cI fnil)))) (fun x => ⟨x.1, x.2.1, x.2.2.1, x.2.2.2.1⟩) Try.underlying26
set_option maxRecDepth 100000 in
def cSt : Codec Try.prog 28 St :=
  cStruct (fcons 0 1 cJ (fcons 1 1 cJ fnil)) (fun x => ⟨x.1, x.2.1⟩) Try.underlying28
set_option maxRecDepth 100000 in
def cWr : Codec Try.prog 24 Wr :=
  cStruct (fcons 0 1 cS (fcons 1 1 cO (fcons 2 1 cS fnil))) (fun x => ⟨x.1, x.2.1, x.2.2.1⟩) Try.underlying24
set_option maxRecDepth 100000 in
def cLk : Codec Try.prog 30 Lck :=
  cStruct (fcons 0 4 cTry (fcons 4 1 cI (fcons 5 2 cSt (fcons 7 1 cO (fcons 8 1 cS fnil))))) (fun x => ⟨x.1, x.2.1, x.2.2.1, x.2.2.2.1, x.2.2.2.2.1⟩) Try.underlying30
set_option maxRecDepth 100000 in
def cOp : Codec Try.prog 37 OpT :=
  cStruct (fcons 0 1 cI (fcons 1 3 cWr (fcons 4 9 cLk (fcons 13 1 cO fnil)))) (fun x => ⟨x.1, x.2.1, x.2.2.1, x.2.2.2.1⟩) Try.underlying37
theorem cOp_cells : Try.prog.cellsOf 37 = 14 := by kernel_rfl
section
variable {w : World} {S : Nat → Prop} {vs : List Value}
theorem cTry_ok {t : TryT} (h : cTry.ok w S vs t) : vs = tryCs t := by
  obtain ⟨hlen, ⟨x0, x1, x2, x3, x4⟩, hx, ⟨h0, -⟩, ⟨h1, -⟩, ⟨h2, -⟩, ⟨h3, -⟩, -⟩ := h
  have hlen : vs.length = 4 := hlen.trans (by kernel_rfl)
  match vs, hlen with
  | [a0, a1, a2, a3], _ =>
    obtain rfl := (List.cons.inj h0).1
    obtain rfl := (List.cons.inj h1).1
    obtain rfl := (List.cons.inj h2).1
    obtain rfl := (List.cons.inj h3).1
    rw [hx]; rfl
theorem cSt_ok {t : St} (h : cSt.ok w S vs t) : vs = stCs t := by
  obtain ⟨hlen, ⟨x0, x1, x2⟩, hx, ⟨h0, -⟩, ⟨h1, -⟩, -⟩ := h
  have hlen : vs.length = 2 := hlen.trans (by kernel_rfl)
  match vs, hlen with
  | [a0, a1], _ =>
    obtain rfl := (List.cons.inj h0).1
    obtain rfl := (List.cons.inj h1).1
    rw [hx]; rfl
theorem cWr_ok {t : Wr} (h : cWr.ok w S vs t) : vs = wrCs t ∧ t.key.length ≤ maxLen ∧ t.data.length ≤ maxLen := by
  obtain ⟨hlen, ⟨x0, x1, x2, x3⟩, hx, ⟨h0, k0⟩, h1, ⟨h2, k2⟩, -⟩ := h
  have hlen : vs.length = 3 := hlen.trans (by kernel_rfl)
  match vs, hlen with
  | [a0, a1, a2], _ =>
    obtain rfl := (List.cons.inj h0).1
    obtain rfl := (List.cons.inj h1).1
    obtain rfl := (List.cons.inj h2).1
    subst hx
    exact ⟨rfl, k0, k2⟩
theorem cLk_ok {t : Lck} (h : cLk.ok w S vs t) : vs = lckCs t := by
  obtain ⟨hlen, ⟨x0, x1, x2, x3, x4, x5⟩, hx, h0, ⟨h1, -⟩, h2, h3, ⟨h4, -⟩, -⟩ := h
  have hlen : vs.length = 9 := hlen.trans (by kernel_rfl)
  match vs, hlen with
  | [a0, a1, a2, a3, a4, a5, a6, a7, a8], _ =>
    have e0 : [a0, a1, a2, a3] = tryCs x0 := cTry_ok h0
    have e2 : [a5, a6] = stCs x2 := cSt_ok h2
    obtain rfl := (List.cons.inj h1).1
    obtain rfl := (List.cons.inj h3).1
    obtain rfl := (List.cons.inj h4).1
    simp only [tryCs, List.cons.injEq, and_true] at e0
    simp only [stCs, List.cons.injEq, and_true] at e2
    obtain ⟨rfl, rfl, rfl, rfl⟩ := e0
    obtain ⟨rfl, rfl⟩ := e2
    rw [hx]; rfl
theorem cOp_ok {t : OpT} (h : cOp.ok w S vs t) : vs = opCs t ∧ t.w.key.length ≤ maxLen ∧ t.w.data.length ≤ maxLen := by
  obtain ⟨hlen, ⟨x0, x1, x2, x3, x4⟩, hx, ⟨h0, -⟩, h1, h2, h3, -⟩ := h
  have hlen : vs.length = 14 := hlen.trans (by kernel_rfl)
  match vs, hlen with
  | [a0, a1, a2, a3, a4, a5, a6, a7, a8, a9, a10, a11, a12, a13], _ =>
    obtain ⟨e1, k1, k2⟩ := cWr_ok h1
    have e1 : [a1, a2, a3] = wrCs x1 := e1
    have e2 : [a4, a5, a6, a7, a8, a9, a10, a11, a12] = lckCs x2 := cLk_ok h2
    obtain rfl := (List.cons.inj h0).1
    obtain rfl := (List.cons.inj h3).1
    simp only [wrCs, List.cons.injEq, and_true] at e1
    simp only [lckCs, List.cons.injEq, and_true] at e2
    obtain ⟨rfl, rfl, rfl⟩ := e1
    obtain ⟨rfl, rfl, rfl, rfl, rfl, rfl, rfl, rfl, rfl⟩ := e2
    subst hx
    exact ⟨rfl, k1, k2⟩
end
abbrev OpsR (w : World) (S : Nat → Prop) (v : Value) (ops : List OpT) : Prop := SlOf cOp w S v ops
theorem ops_at {w : World} {S : Nat → Prop} {A : Option Addr} {n c i : Nat} {ops : List OpT} (h : OpsR w S (.slice A n c) ops) (hi : i < ops.length) :
    ∃ ad, A = some ad ∧ S ad.block ∧ (ops[i].w.key.length ≤ maxLen ∧ ops[i].w.data.length ≤ maxLen) ∧ w.cell? (ad.add (i * 14)) = some (.int .i64 ops[i].kind) ∧ ∀ j, 0 < j → j < 14 → w.cell? ⟨(ad.add (i * 14)).block, (ad.add (i * 14)).off + j, none⟩ = (opCs ops[i])[j]? := by
  obtain ⟨A', c', hv, _, _, he⟩ := h
  injection hv with hA
  subst hA
  obtain ⟨ad, us, rfl, hS, hc, hok⟩ := he i ops[i] (List.getElem?_eq_getElem hi)
  obtain ⟨e, k⟩ := cOp_ok hok
  subst e
  rw [cOp_cells] at hc
  have key : ∀ j (hj : j < 14), w.cell? ((ad.add (i * 14)).add j) = (opCs ops[i])[j]? := fun j hj => by
    have hl : j < (opCs ops[i]).length := hj
    rw [add_of_add, List.getElem?_eq_getElem hl]
    exact hc j _ (List.getElem?_eq_getElem hl)
  refine ⟨ad, rfl, hS, k, ?_, fun j h0 hj => ?_⟩
  · have := key 0 (by omega)
    rwa [add_zero] at this
  · have := key j hj
    rwa [addr_add _ j h0] at this
set_option maxRecDepth 100000 in
theorem open_ops8 {H : Type} {enc : TypeId × Value → H} {W : World} {base : Nat} {v : Value} {d : DataW H} {ps : List MemPlace} (hval : Value.okWide Try.prog W .any base 22 v)
    (h : DataW.Trod enc Try.prog W 0 (fun _ => true) true 22 v d ps) : ∃ ops, OpsR W (· < W.heap.size) v ops := by
  obtain ⟨a0, len0, cap0, rfl⟩ := okWide_slice Try.underlying22 hval
  obtain ⟨fuel, hf⟩ := h
  obtain ⟨v, l, hv, hby⟩ := SlOf.opens (C := cOp) Try.underlying22 (by rw [cOp_cells]; omega) hf
  simp [Value.cells] at hv
  subst hv
  exact ⟨l, hby⟩
theorem agg_of {v : Value} {l : List Value} (h : v.cells.toList = l) (hl : 2 ≤ l.length) : v = .agg l.toArray := by
  cases v <;> first
    | (simp [Value.cells] at h; subst h; simp at hl; done)
    | (simp [Value.cells] at h; subst h; simp)
set_option maxRecDepth 100000 in
theorem open_try {H : Type} {enc : TypeId × Value → H} {W : World} {base : Nat} {v : Value} {d : DataW H} {ps : List MemPlace} (hval : Value.okWide Try.prog W .any base 26 v)
    (h : DataW.Trod enc Try.prog W 0 (fun _ => true) true 26 v d ps) : ∃ t : TryT, v = tryV t := by
  obtain ⟨t, ht⟩ := cTry.arg h
  exact ⟨t, agg_of (cTry_ok ht) (by simp [tryCs])⟩
set_option maxRecDepth 100000 in
theorem open_st {H : Type} {enc : TypeId × Value → H} {W : World} {base : Nat} {v : Value} {d : DataW H} {ps : List MemPlace} (hval : Value.okWide Try.prog W .any base 28 v)
    (h : DataW.Trod enc Try.prog W 0 (fun _ => true) true 28 v d ps) : ∃ t : St, v = stV t := by
  obtain ⟨t, ht⟩ := cSt.arg h
  exact ⟨t, agg_of (cSt_ok ht) (by simp [stCs])⟩
set_option maxRecDepth 100000 in
theorem open_wr {H : Type} {enc : TypeId × Value → H} {W : World} {base : Nat} {v : Value} {d : DataW H} {ps : List MemPlace} (hval : Value.okWide Try.prog W .any base 24 v)
    (h : DataW.Trod enc Try.prog W 0 (fun _ => true) true 24 v d ps) : ∃ t : Wr, v = wrV t ∧ t.key.length ≤ maxLen ∧ t.data.length ≤ maxLen := by
  obtain ⟨t, ht⟩ := cWr.arg h
  obtain ⟨h1, h2, h3⟩ := cWr_ok ht
  exact ⟨t, agg_of h1 (by simp [wrCs]), h2, h3⟩
set_option maxRecDepth 100000 in
theorem open_lk {H : Type} {enc : TypeId × Value → H} {W : World} {base : Nat} {v : Value} {d : DataW H} {ps : List MemPlace} (hval : Value.okWide Try.prog W .any base 30 v)
    (h : DataW.Trod enc Try.prog W 0 (fun _ => true) true 30 v d ps) : ∃ t : Lck, v = lckV t := by
  obtain ⟨t, ht⟩ := cLk.arg h
  exact ⟨t, agg_of (cLk_ok ht) (by simp [lckCs])⟩
/-- What light tells: how many operations there are at most. -/
def LightP (most : Int) (ops : List OpT) (w : World) (e : Ending) (w' : World) : Prop := ∃ b, e = .returned (.bool b) ∧ (b = true → (ops.length : Int) ≤ most) ∧ w = w'
set_option maxRecDepth 100000 in
set_option maxHeartbeats 1000000 in
theorem light_any (v : Value) (ops : List OpT) (most : Int) (S : Nat → Prop) (w : World) (hv : OpsR w S v ops) (hm0 : 0 ≤ most ∧ most ≤ 1000) :
    Calls Try.prog 22 #[v, .int .i64 most] w (LightP most ops w) := by
  have hv' := hv
  obtain ⟨A, c, rfl, hc, hm, -⟩ := hv'
  have H := Lib.hid hv
  unfold maxLen at hm
  clear hv
  by_cases hlong : most < ops.length
  · go_enter Try.func22, Try.ntmps22
    go_wp2
    go_ret
    exact ⟨false, rfl, (fun h => by cases h), rfl⟩
  · have Hl := Lib.hid (show (ops.length : Int) ≤ most by omega)
    go_enter Try.func22, Try.ntmps22
    go_wp2
    go_loop [5] (fun i => ∃ k : Nat, k ≤ ops.length ∧ i = .int .i64 k) (fun i => ops.length - (intOf i).toNat)
    case atStart => exact ⟨0, by omega, rfl⟩
    case round =>
      obtain ⟨k, hk, rfl⟩ := hrel
      by_cases hlt : k < ops.length
      · obtain ⟨ad, rfl, -, ⟨hk1, hk2⟩, c0, hcs⟩ := ops_at H.out hlt
        have x1 : (0 : Int) ≤ (k : Int) := by omega
        have x2 : (k : Int) < (ops.length : Int) := by omega
        have c1 : w.cell? ⟨(ad.add (k * 14)).block, (ad.add (k * 14)).off + 1, none⟩ = some (.string (str ops[k].w.key)) := hcs 1 (by omega) (by omega)
        have c3 : w.cell? ⟨(ad.add (k * 14)).block, (ad.add (k * 14)).off + 1 + 2, none⟩ = some (.string (str ops[k].w.data)) := hcs 3 (by omega) (by omega)
        have c3' : w.cell? ⟨(ad.add (k * 14)).block, (ad.add (k * 14)).off + 3, none⟩ = some (.string (str ops[k].w.data)) := c3
        have s1 : (str ops[k].w.key).size = ops[k].w.key.length := str_size _
        have s2 : (str ops[k].w.data).size = ops[k].w.data.length := str_size _
        generalize ops[k] = o at *
        unfold maxLen at hk1 hk2
        clear hcs
        go_wp2
        all_goals first
          | (go_ret; exact ⟨false, rfl, (fun h => by cases h), rfl⟩)
          | exact ⟨⟨k + 1, by omega, by go_num⟩, by simp [intOf]; omega⟩
      · obtain rfl : k = ops.length := by omega
        go_wp2
        go_ret
        exact ⟨true, rfl, fun _ => Hl.out, rfl⟩
end Go.Proofs.Ytoldelocfmpccaa
