/-
  The walks of values' May and Compare, the program's and the document's.
-/
import Derived.Test.YtpbekhcogpkbpaaDoorVaP
import Derived.Test.YtpbekhcogpkbpaaDoorRow
import Derived.Test.YtpbekhcogpkbpaaDoorReg3
set_option linter.unusedSimpArgs false
set_option linter.unusedVariables false
namespace Go.Proofs.YtpbekhcogpkbpaaDoor
open Go.RowKit

@[go_sem] theorem str_toL (l : List UInt8) : (str l).toList = l := by rw [ByteArray.toList_eq]; rfl
def BoolP (b : Bool) (w : World) (e : Ending) (w' : World) : Prop := e = .returned (.bool b) ∧ Same (fun _ => True) w w'
/-- A slice of ints that reads. -/
def InR (w : World) (S : Nat → Prop) (v : Value) (l : List Int) : Prop := RowR (fun k => [.int .i64 k]) 1 w S v l
theorem InR.at_ {w : World} {S : Nat → Prop} {A : Option Addr} {n c : Nat} {l : List Int} (h : InR w S (.slice A n c) l) {i : Nat} (hi : i < l.length) : ∃ ad, A = some ad ∧ S ad.block ∧ w.cell? (ad.add i) = some (.int .i64 l[i]) := by
  obtain ⟨ad, c, h1, _, _, h4, h5⟩ := RowR.at_ h (fun _ => rfl) hi
  injection h1 with h1 _ _
  refine ⟨ad, h1, h4, ?_⟩
  have := h5 0 (by omega)
  rw [add_zero, Nat.mul_one] at this
  exact this
theorem drop_cons {α : Type} {l : List α} {i : Nat} (h : i < l.length) : l.drop i = l[i] :: l.drop (i + 1) := List.drop_eq_getElem_cons h
set_option maxHeartbeats 1000000 in
theorem exMay_any (v : Val) (w : World) : Calls Tryd.prog 16 #[valV v] w (BoolP (mayV v) w) := by
  obtain ⟨k, n, s⟩ := v
  by_cases h0 : k = 0
  · subst h0
    have e : mayV ⟨0, n, s⟩ = (decide (n = 0) && decide (s = [])) := rfl
    by_cases a : n = 0 <;> by_cases c : s = []
    all_goals
      have b1 : (n == 0) = decide (n = 0) := rfl
      have b2 : s.isEmpty = decide (s = []) := by cases s <;> rfl
      simp only [a, c, decide_true, decide_false, Bool.and_true, Bool.true_and, Bool.and_false, Bool.false_and] at e b1 b2
      try subst a
      try subst c
      have E := Lib.hid e
      clear e
      go_enter Tryd.func16, Tryd.ntmps16
      go_wp2
      go_ret
      exact ⟨by simp [E.out], (Same.refl _ _).alloc _⟩
  · have k0 : (k == 0) = false := by simpa using h0
    by_cases h1 : k = 1
    · subst h1
      clear k0 h0
      have e : mayV ⟨1, n, s⟩ = ((decide (n = 0) || decide (n = 1)) && decide (s = [])) := rfl
      by_cases a : n = 0 <;> by_cases d : n = 1 <;> by_cases c : s = []
      all_goals first | (exfalso; omega) | skip
      all_goals
        have b1 : (n == 0) = decide (n = 0) := rfl
        have b3 : (n == 1) = decide (n = 1) := rfl
        have b2 : s.isEmpty = decide (s = []) := by cases s <;> rfl
        simp only [a, d, c, decide_true, decide_false, Bool.and_true, Bool.true_and, Bool.and_false, Bool.false_and, Bool.or_true, Bool.true_or, Bool.or_false, Bool.or_self] at e b1 b2 b3
        try subst a
        try subst d
        try subst c
        have E := Lib.hid e
        clear e
        go_enter Tryd.func16, Tryd.ntmps16
        go_wp2
        go_ret
        exact ⟨by simp [E.out], (Same.refl _ _).alloc _⟩
    · have k1 : (k == 1) = false := by simpa using h1
      by_cases h2 : k = 2
      · subst h2
        clear k0 h0 k1 h1
        have e : mayV ⟨2, n, s⟩ = decide (s = []) := rfl
        by_cases c : s = []
        all_goals
          have b2 : s.isEmpty = decide (s = []) := by cases s <;> rfl
          simp only [c, decide_true, decide_false] at e b2
          try subst c
          have E := Lib.hid e
          clear e
          go_enter Tryd.func16, Tryd.ntmps16
          go_wp2
          go_ret
          exact ⟨by simp [E.out], (Same.refl _ _).alloc _⟩
      · have k2 : (k == 2) = false := by simpa using h2
        by_cases h3 : k = 3
        · subst h3
          clear k0 h0 k1 h1 k2 h2
          have e : mayV ⟨3, n, s⟩ = (decide (n = 0) && decide (s.length ≤ 64)) := rfl
          by_cases a : n = 0 <;> by_cases c : s.length ≤ 64
          all_goals
            have b1 : (n == 0) = decide (n = 0) := rfl
            have hz : (str s).size = s.length := str_size s
            simp only [a, c, decide_true, decide_false, Bool.and_true, Bool.true_and, Bool.and_false, Bool.false_and] at e b1
            try subst a
            have E := Lib.hid e
            clear e
            go_enter Tryd.func16, Tryd.ntmps16
            go_wp2
            go_ret
            exact ⟨by rw [E.out]; simp; try omega, (Same.refl _ _).alloc _⟩
        · have k3 : (k == 3) = false := by simpa using h3
          have e : mayV ⟨k, n, s⟩ = false := by unfold mayV; simp [h0, h1, h2, h3]
          have E := Lib.hid e
          clear e
          go_enter Tryd.func16, Tryd.ntmps16
          go_wp2
          go_ret
          exact ⟨by simp [E.out], (Same.refl _ _).alloc _⟩
set_option maxHeartbeats 1000000 in
theorem refMay_any (v : Val) (w : World) : Calls Tryd.prog 17 #[valV v] w (BoolP (mayV v) w) := by
  obtain ⟨k, n, s⟩ := v
  by_cases h0 : k = 0
  · subst h0
    have e : mayV ⟨0, n, s⟩ = (decide (n = 0) && decide (s = [])) := rfl
    by_cases a : n = 0 <;> by_cases c : s = []
    all_goals
      have b1 : (n == 0) = decide (n = 0) := rfl
      have b2 : s.isEmpty = decide (s = []) := by cases s <;> rfl
      simp only [a, c, decide_true, decide_false, Bool.and_true, Bool.true_and, Bool.and_false, Bool.false_and] at e b1 b2
      try subst a
      try subst c
      have E := Lib.hid e
      clear e
      go_enter Tryd.func17, Tryd.ntmps17
      go_wp2
      go_ret
      exact ⟨by simp [E.out], (Same.refl _ _).alloc _⟩
  · have k0 : (k == 0) = false := by simpa using h0
    by_cases h1 : k = 1
    · subst h1
      clear k0 h0
      have e : mayV ⟨1, n, s⟩ = ((decide (n = 0) || decide (n = 1)) && decide (s = [])) := rfl
      by_cases a : n = 0 <;> by_cases d : n = 1 <;> by_cases c : s = []
      all_goals first | (exfalso; omega) | skip
      all_goals
        have b1 : (n == 0) = decide (n = 0) := rfl
        have b3 : (n == 1) = decide (n = 1) := rfl
        have b2 : s.isEmpty = decide (s = []) := by cases s <;> rfl
        simp only [a, d, c, decide_true, decide_false, Bool.and_true, Bool.true_and, Bool.and_false, Bool.false_and, Bool.or_true, Bool.true_or, Bool.or_false, Bool.or_self] at e b1 b2 b3
        try subst a
        try subst d
        try subst c
        have E := Lib.hid e
        clear e
        go_enter Tryd.func17, Tryd.ntmps17
        go_wp2
        go_ret
        exact ⟨by simp [E.out], (Same.refl _ _).alloc _⟩
    · have k1 : (k == 1) = false := by simpa using h1
      by_cases h2 : k = 2
      · subst h2
        clear k0 h0 k1 h1
        have e : mayV ⟨2, n, s⟩ = decide (s = []) := rfl
        by_cases c : s = []
        all_goals
          have b2 : s.isEmpty = decide (s = []) := by cases s <;> rfl
          simp only [c, decide_true, decide_false] at e b2
          try subst c
          have E := Lib.hid e
          clear e
          go_enter Tryd.func17, Tryd.ntmps17
          go_wp2
          go_ret
          exact ⟨by simp [E.out], (Same.refl _ _).alloc _⟩
      · have k2 : (k == 2) = false := by simpa using h2
        by_cases h3 : k = 3
        · subst h3
          clear k0 h0 k1 h1 k2 h2
          have e : mayV ⟨3, n, s⟩ = (decide (n = 0) && decide (s.length ≤ 64)) := rfl
          by_cases a : n = 0 <;> by_cases c : s.length ≤ 64
          all_goals
            have b1 : (n == 0) = decide (n = 0) := rfl
            have hz : (str s).size = s.length := str_size s
            simp only [a, c, decide_true, decide_false, Bool.and_true, Bool.true_and, Bool.and_false, Bool.false_and] at e b1
            try subst a
            have E := Lib.hid e
            clear e
            go_enter Tryd.func17, Tryd.ntmps17
            go_wp2
            go_ret
            exact ⟨by rw [E.out]; simp; try omega, (Same.refl _ _).alloc _⟩
        · have k3 : (k == 3) = false := by simpa using h3
          have e : mayV ⟨k, n, s⟩ = false := by unfold mayV; simp [h0, h1, h2, h3]
          have E := Lib.hid e
          clear e
          go_enter Tryd.func17, Tryd.ntmps17
          go_wp2
          go_ret
          exact ⟨by simp [E.out], (Same.refl _ _).alloc _⟩
set_option maxHeartbeats 400000 in
theorem refsign_any (b : Bool) (w : World) : Calls Tryd.prog 44 #[.bool b] w fun e w' => e = .returned (.int .i64 (if b then -1 else 1)) ∧ w = w' := by
  cases b
  all_goals
    go_enter Tryd.func44, Tryd.ntmps44
    go_wp2
    go_ret
    exact ⟨rfl, rfl⟩

theorem cmpint_sgn (a b : Int) : Lib.compareInt a b = sgn a b := by unfold Lib.compareInt sgn; rfl
theorem excmpi_any (a b : Int) (w : World) : Calls Tryd.prog 41 #[.int .i64 a, .int .i64 b] w fun e w' => e = .returned (.int .i64 (sgn a b)) ∧ w = w' := by
  refine (Tryd.cmp_Compare_int a b w).mono ?_
  rintro e w' ⟨rfl, rfl⟩
  exact ⟨by rw [cmpint_sgn], rfl⟩
set_option maxHeartbeats 400000 in
theorem excmp64_any (a b : Int) (w : World) : Calls Tryd.prog 42 #[.int .i64 a, .int .i64 b] w fun e w' => e = .returned (.int .i64 (sgn a b)) ∧ w = w' := by
  have nan : ∀ (x : Int) (w : World), Calls Tryd.prog 64 #[.int .i64 x] w fun e w' => e = .returned (.bool false) ∧ w = w' := by
    intro x w
    go_enter Tryd.func64, Tryd.ntmps64
    go_wp2
    go_ret
    exact ⟨by simp, rfl⟩
  by_cases h1 : a < b
  · have K : sgn a b = -1 := by unfold sgn; rw [if_pos h1]
    rw [K]
    clear K
    go_enter Tryd.func42, Tryd.ntmps42
    go_wp2_with (go_at_call 64; refine (nan _ _).mono ?_; rintro e w' ⟨rfl, rfl⟩)
    go_ret
    exact ⟨rfl, rfl⟩
  · by_cases h2 : b < a
    · have K : sgn a b = 1 := by unfold sgn; rw [if_neg h1, if_pos h2]
      rw [K]
      clear K
      go_enter Tryd.func42, Tryd.ntmps42
      go_wp2_with (go_at_call 64; refine (nan _ _).mono ?_; rintro e w' ⟨rfl, rfl⟩)
      go_ret
      exact ⟨rfl, rfl⟩
    · have K : sgn a b = 0 := by unfold sgn; rw [if_neg h1, if_neg h2]
      rw [K]
      clear K
      go_enter Tryd.func42, Tryd.ntmps42
      go_wp2_with (go_at_call 64; refine (nan _ _).mono ?_; rintro e w' ⟨rfl, rfl⟩)
      go_ret
      exact ⟨rfl, rfl⟩
theorem ret_i64 {a b : Int} (h : a = b) : Ending.returned (.int .i64 a) = .returned (.int .i64 b) := by rw [h]
def orL : List Int → Int
  | [] => 0
  | a :: l => if a = 0 then orL l else a
set_option maxHeartbeats 1000000 in
theorem exor_any (v : Value) (l : List Int) (S : Nat → Prop) (w : World) (hv : InR w S v l) : Calls Tryd.prog 40 #[v] w fun e w' => e = .returned (.int .i64 (orL l)) ∧ w = w' := by
  obtain ⟨A, cp, rfl, hc, hm, _⟩ := id hv
  have Hv := Lib.hid hv
  unfold maxLen at hm
  clear hv
  go_enter Tryd.func40, Tryd.ntmps40
  go_wp2
  go_loop [5, 8] (fun _ i => ∃ j : Nat, j ≤ l.length ∧ i = .int .i64 j ∧ orL l = orL (l.drop j)) (fun _ i => l.length - (intOf i).toNat)
  case atStart => exact ⟨0, Nat.zero_le _, rfl, rfl⟩
  case round =>
    obtain ⟨j, hj, rfl, hrel⟩ := hrel
    have Hrel := Lib.hid hrel
    clear hrel
    by_cases hlt : j < l.length
    · obtain ⟨ad, rfl, -, hcell⟩ := Hv.out.at_ hlt
      have hd : orL (l.drop j) = if l[j] = 0 then orL (l.drop (j + 1)) else l[j] := by rw [drop_cons hlt]; rfl
      have x1 : (0 : Int) ≤ (j : Int) := by omega
      have x2 : (j : Int) < (l.length : Int) := by omega
      generalize l[j] = x at *
      by_cases h1 : x = 0
      · have Hd := Lib.hid hd
        have b1 : (x != 0) = false := by simpa using h1
        have H1 := Lib.hid h1
        clear hd h1
        go_wp2
        go_round
        case rel => exact ⟨j + 1, by omega, by go_num, by rw [Hrel.out, Hd.out, if_pos H1.out]⟩
        case measure => simp [intOf]; omega
      · have Hd := Lib.hid hd
        have b1 : (x != 0) = true := by simpa using h1
        have H1 := Lib.hid h1
        clear hd h1
        go_wp2
        go_ret
        exact ⟨ret_i64 (by rw [Hrel.out, Hd.out, if_neg H1.out]), rfl⟩
    · have e : orL l = 0 := by rw [Hrel.out, List.drop_of_length_le (by omega)]; rfl
      have E := Lib.hid e
      clear e
      go_wp2
      go_ret
      exact ⟨ret_i64 E.out.symm, rfl⟩
def SP.ints (l : List Int) : SP := ⟨fun v w => InR w (fun _ => True) v l, fun _ _ _ h k => RowR.keepAll h k⟩
theorem flat_map (f : Int → Value) : ∀ l : List Int, (l.flatMap fun k => [f k]) = l.map f
  | [] => rfl
  | a :: l => by simp [flat_map f l]
theorem InR.fresh (w : World) (e : TypeId) (l : List Int) (hm : l.length ≤ maxLen) : InR (w.alloc (.cells (l.map (Value.int .i64)).toArray e)) (fun _ => True) (.slice (some ⟨w.heap.size, 0, none⟩) l.length l.length) l := by
  refine ⟨_, _, rfl, Nat.le_refl _, hm, ?_⟩
  have h := (Row.new w e (l.map (Value.int .i64))).sl (size := 1) (off := 0) (n := l.length) (by simp)
  rw [List.drop_zero, List.take_of_length_le (by simp)] at h
  have e1 : (l.flatMap fun k => [Value.int .i64 k]) = l.map (Value.int .i64) := flat_map _ l
  rw [e1]
  exact h.mono (fun _ _ _ => trivial)
theorem cmpV_or (a b : Val) : orL [sgn a.kind b.kind, sgn a.n b.n, Lib.compareBytes a.s b.s] = cmpV a b := by
  unfold cmpV orL orL orL orL
  by_cases h1 : sgn a.kind b.kind = 0 <;> by_cases h2 : sgn a.n b.n = 0 <;> by_cases h3 : Lib.compareBytes a.s b.s = 0 <;> simp [h1, h2, h3]
set_option maxRecDepth 100000 in
set_option maxHeartbeats 1000000 in
theorem exCompare_any (a b : Val) (w : World) : Calls Tryd.prog 21 #[valV a, valV b] w fun e w' => e = .returned (.int .i64 (cmpV a b)) ∧ Same (fun _ => True) w w' := by
  have HL := Lib.hid (cmpV_or a b)
  have gs := fun W => Tryd.strings_Compare (str a.s) (str b.s) W
  rw [show (str a.s).data.toList = a.s from rfl, show (str b.s).data.toList = b.s from rfl] at gs
  go_enter Tryd.func21, Tryd.ntmps21
  go_wp2
  obtain ⟨W, hW⟩ : ∃ W, W = (w.alloc (.cells #[.int .i64 a.kind, .int .i64 a.n, .string (str a.s)] 24)).alloc (.cells #[.int .i64 b.kind, .int .i64 b.n, .string (str b.s)] 24) := ⟨_, rfl⟩
  have hr1 : Row W w.heap.size 24 (valCs a) := by rw [hW]; exact (Row.new w 24 (valCs a)).keep ((Same.refl (fun _ => True) _).alloc _) trivial
  have hr2 : Row W (w.heap.size + 1) 24 (valCs b) := by
    have := Row.new (w.alloc (.cells #[.int .i64 a.kind, .int .i64 a.n, .string (str a.s)] 24)) 24 (valCs b)
    rw [World.size_alloc] at this
    rw [hW]; exact this
  have hS : Same (fun _ => True) w W := by rw [hW]; exact ((Same.refl _ _).alloc _).alloc _
  have c0 : W.cell? ⟨w.heap.size, 0, none⟩ = some (.int .i64 a.kind) := hr1.cell 0
  have c1 : W.cell? ⟨w.heap.size, 1, none⟩ = some (.int .i64 a.n) := hr1.cell 1
  have c2 : W.cell? ⟨w.heap.size, 2, none⟩ = some (.string (str a.s)) := hr1.cell 2
  have d0 : W.cell? ⟨w.heap.size + 1, 0, none⟩ = some (.int .i64 b.kind) := hr2.cell 0
  have d1 : W.cell? ⟨w.heap.size + 1, 1, none⟩ = some (.int .i64 b.n) := hr2.cell 1
  have d2 : W.cell? ⟨w.heap.size + 1, 2, none⟩ = some (.string (str b.s)) := hr2.cell 2
  rw [← hW]
  have HS := Lib.hid hS
  clear hr1 hr2 hW hS
  generalize w.heap.size + 1 = q at *
  generalize hp : w.heap.size = p at *
  clear hp
  refine wp_region_vals_lit (L := [.eq (.pointer (some ⟨p, 0, none⟩)), .eq (.int .i64 a.kind), .eq (.pointer (some ⟨q, 0, none⟩)), .eq (.int .i64 b.kind), .eq (.int .i64 (sgn a.kind b.kind)), .eq (.pointer (some ⟨p, 1, none⟩)), .eq (.int .i64 a.n), .eq (.pointer (some ⟨q, 1, none⟩)), .eq (.int .i64 b.n), .eq (.int .i64 (sgn a.n b.n)), .eq (.pointer (some ⟨p, 2, none⟩)), .eq (.string (str a.s)), .eq (.pointer (some ⟨q, 2, none⟩)), .eq (.string (str b.s)), .eq (.int .i64 (Lib.compareBytes a.s b.s)), .ints [sgn a.kind b.kind, sgn a.n b.n, Lib.compareBytes a.s b.s], .eq (.int .i64 (orL [sgn a.kind b.kind, sgn a.n b.n, Lib.compareBytes a.s b.s])), .eq (.int .i64 (orL [sgn a.kind b.kind, sgn a.n b.n, Lib.compareBytes a.s b.s]))]) (by kernel_rfl) (by kernel_rfl) rfl rfl ?_ ?_
  · refine ⟨?_, ?_, ?_, ?_, ?_, ?_, ?_, ?_, ?_, ?_, ?_, ?_, ?_, ?_, ?_, ?_, ?_, ?_, trivial⟩
    · intro ac wc hs hd hz hf hw K hK
      have e0 : ac.eval (.tmp 2) = (.pointer (some ⟨p, 0, none⟩)) := hf 2 rfl
      clear hd hz hf hw
      simp only [Region.wanted, if_true, Oper.wp, execOp, resolve, List.map_toArray, List.map_cons, List.map_nil, Option.map_some, Option.map_none, e0]
      go_simp
      exact hK _ _ rfl (Same.refl _ _)
    · intro ac wc hs hd hz hf hw K hK
      have e0 : ac.eval (.tmp 5) = (.pointer (some ⟨p, 0, none⟩)) := hw 0 rfl
      have m0 : wc.cell? ⟨p, 0, none⟩ = some (.int .i64 a.kind) := hs.cell (p := ⟨p, 0, none⟩) trivial c0
      clear hd hz hf hw
      simp only [Region.wanted, if_true, Oper.wp, execOp, resolve, List.map_toArray, List.map_cons, List.map_nil, Option.map_some, Option.map_none, e0]
      go_simp
      exact hK _ _ rfl (Same.refl _ _)
    · intro ac wc hs hd hz hf hw K hK
      have e0 : ac.eval (.tmp 3) = (.pointer (some ⟨q, 0, none⟩)) := hf 3 rfl
      clear hd hz hf hw
      simp only [Region.wanted, if_true, Oper.wp, execOp, resolve, List.map_toArray, List.map_cons, List.map_nil, Option.map_some, Option.map_none, e0]
      go_simp
      exact hK _ _ rfl (Same.refl _ _)
    · intro ac wc hs hd hz hf hw K hK
      have e0 : ac.eval (.tmp 7) = (.pointer (some ⟨q, 0, none⟩)) := hw 2 rfl
      have m0 : wc.cell? ⟨q, 0, none⟩ = some (.int .i64 b.kind) := hs.cell (p := ⟨q, 0, none⟩) trivial d0
      clear hd hz hf hw
      simp only [Region.wanted, if_true, Oper.wp, execOp, resolve, List.map_toArray, List.map_cons, List.map_nil, Option.map_some, Option.map_none, e0]
      go_simp
      exact hK _ _ rfl (Same.refl _ _)
    · intro ac wc hs hd hz hf hw K hK
      have e0 : ac.eval (.tmp 6) = (.int .i64 a.kind) := hw 1 rfl
      have e1 : ac.eval (.tmp 8) = (.int .i64 b.kind) := hw 3 rfl
      clear hd hz hf hw
      simp only [Region.wanted, if_true, Oper.wp, execOp, resolve, List.map_toArray, List.map_cons, List.map_nil, Option.map_some, Option.map_none, e0, e1]
      go_simp
      refine (excmpi_any _ _ _).mono ?_
      rintro e wd ⟨rfl, rfl⟩
      exact hK _ _ rfl (Same.refl _ _)
    · intro ac wc hs hd hz hf hw K hK
      have e0 : ac.eval (.tmp 2) = (.pointer (some ⟨p, 0, none⟩)) := hf 2 rfl
      clear hd hz hf hw
      simp only [Region.wanted, if_true, Oper.wp, execOp, resolve, List.map_toArray, List.map_cons, List.map_nil, Option.map_some, Option.map_none, e0]
      go_simp
      exact hK _ _ rfl (Same.refl _ _)
    · intro ac wc hs hd hz hf hw K hK
      have e0 : ac.eval (.tmp 10) = (.pointer (some ⟨p, 1, none⟩)) := hw 5 rfl
      have m0 : wc.cell? ⟨p, 1, none⟩ = some (.int .i64 a.n) := hs.cell (p := ⟨p, 1, none⟩) trivial c1
      clear hd hz hf hw
      simp only [Region.wanted, if_true, Oper.wp, execOp, resolve, List.map_toArray, List.map_cons, List.map_nil, Option.map_some, Option.map_none, e0]
      go_simp
      exact hK _ _ rfl (Same.refl _ _)
    · intro ac wc hs hd hz hf hw K hK
      have e0 : ac.eval (.tmp 3) = (.pointer (some ⟨q, 0, none⟩)) := hf 3 rfl
      clear hd hz hf hw
      simp only [Region.wanted, if_true, Oper.wp, execOp, resolve, List.map_toArray, List.map_cons, List.map_nil, Option.map_some, Option.map_none, e0]
      go_simp
      exact hK _ _ rfl (Same.refl _ _)
    · intro ac wc hs hd hz hf hw K hK
      have e0 : ac.eval (.tmp 12) = (.pointer (some ⟨q, 1, none⟩)) := hw 7 rfl
      have m0 : wc.cell? ⟨q, 1, none⟩ = some (.int .i64 b.n) := hs.cell (p := ⟨q, 1, none⟩) trivial d1
      clear hd hz hf hw
      simp only [Region.wanted, if_true, Oper.wp, execOp, resolve, List.map_toArray, List.map_cons, List.map_nil, Option.map_some, Option.map_none, e0]
      go_simp
      exact hK _ _ rfl (Same.refl _ _)
    · intro ac wc hs hd hz hf hw K hK
      have e0 : ac.eval (.tmp 11) = (.int .i64 a.n) := hw 6 rfl
      have e1 : ac.eval (.tmp 13) = (.int .i64 b.n) := hw 8 rfl
      clear hd hz hf hw
      simp only [Region.wanted, if_true, Oper.wp, execOp, resolve, List.map_toArray, List.map_cons, List.map_nil, Option.map_some, Option.map_none, e0, e1]
      go_simp
      refine (excmp64_any _ _ _).mono ?_
      rintro e wd ⟨rfl, rfl⟩
      exact hK _ _ rfl (Same.refl _ _)
    · intro ac wc hs hd hz hf hw K hK
      have e0 : ac.eval (.tmp 2) = (.pointer (some ⟨p, 0, none⟩)) := hf 2 rfl
      clear hd hz hf hw
      simp only [Region.wanted, if_true, Oper.wp, execOp, resolve, List.map_toArray, List.map_cons, List.map_nil, Option.map_some, Option.map_none, e0]
      go_simp
      exact hK _ _ rfl (Same.refl _ _)
    · intro ac wc hs hd hz hf hw K hK
      have e0 : ac.eval (.tmp 15) = (.pointer (some ⟨p, 2, none⟩)) := hw 10 rfl
      have m0 : wc.cell? ⟨p, 2, none⟩ = some (.string (str a.s)) := hs.cell (p := ⟨p, 2, none⟩) trivial c2
      clear hd hz hf hw
      simp only [Region.wanted, if_true, Oper.wp, execOp, resolve, List.map_toArray, List.map_cons, List.map_nil, Option.map_some, Option.map_none, e0]
      go_simp
      exact hK _ _ rfl (Same.refl _ _)
    · intro ac wc hs hd hz hf hw K hK
      have e0 : ac.eval (.tmp 3) = (.pointer (some ⟨q, 0, none⟩)) := hf 3 rfl
      clear hd hz hf hw
      simp only [Region.wanted, if_true, Oper.wp, execOp, resolve, List.map_toArray, List.map_cons, List.map_nil, Option.map_some, Option.map_none, e0]
      go_simp
      exact hK _ _ rfl (Same.refl _ _)
    · intro ac wc hs hd hz hf hw K hK
      have e0 : ac.eval (.tmp 17) = (.pointer (some ⟨q, 2, none⟩)) := hw 12 rfl
      have m0 : wc.cell? ⟨q, 2, none⟩ = some (.string (str b.s)) := hs.cell (p := ⟨q, 2, none⟩) trivial d2
      clear hd hz hf hw
      simp only [Region.wanted, if_true, Oper.wp, execOp, resolve, List.map_toArray, List.map_cons, List.map_nil, Option.map_some, Option.map_none, e0]
      go_simp
      exact hK _ _ rfl (Same.refl _ _)
    · intro ac wc hs hd hz hf hw K hK
      have e0 : ac.eval (.tmp 16) = (.string (str a.s)) := hw 11 rfl
      have e1 : ac.eval (.tmp 18) = (.string (str b.s)) := hw 13 rfl
      clear hd hz hf hw
      simp only [Region.wanted, if_true, Oper.wp, execOp, resolve, List.map_toArray, List.map_cons, List.map_nil, Option.map_some, Option.map_none, e0, e1]
      go_simp
      refine (gs _).mono ?_
      rintro e wd ⟨rfl, rfl⟩
      exact hK _ _ rfl (Same.refl _ _)
    · intro ac wc hs hd hz hf hw K hK
      have e0 : ac.eval (.tmp 9) = (.int .i64 (sgn a.kind b.kind)) := hw 4 rfl
      have e1 : ac.eval (.tmp 14) = (.int .i64 (sgn a.n b.n)) := hw 9 rfl
      have e2 : ac.eval (.tmp 19) = (.int .i64 (Lib.compareBytes a.s b.s)) := hw 14 rfl
      clear hd hz hf hw
      simp only [Region.wanted, if_true, Oper.wp, execOp, resolve, List.map_toArray, List.map_cons, List.map_nil, Option.map_some, Option.map_none, e0, e1, e2]
      go_simp
      exact hK _ _ (InR.fresh wc _ [sgn a.kind b.kind, sgn a.n b.n, Lib.compareBytes a.s b.s] (by simp [maxLen])) ((Same.refl _ _).alloc _)
    · intro ac wc hs hd hz hf hw K hK
      have p0 : (.ints [sgn a.kind b.kind, sgn a.n b.n, Lib.compareBytes a.s b.s] : SP).p (ac.eval (.tmp 20)) wc := hw 15 rfl
      obtain ⟨u0, e0⟩ : ∃ u, ac.eval (.tmp 20) = u := ⟨_, rfl⟩
      rw [e0] at p0
      clear hd hz hf hw
      simp only [Region.wanted, if_true, Oper.wp, execOp, resolve, List.map_toArray, List.map_cons, List.map_nil, Option.map_some, Option.map_none, e0]
      go_simp
      refine (exor_any _ _ _ _ p0).mono ?_
      rintro e wd ⟨rfl, rfl⟩
      exact hK _ _ rfl (Same.refl _ _)
    · intro ac wc hs hd hz hf hw K hK
      have e0 : ac.eval (.tmp 21) = (.int .i64 (orL [sgn a.kind b.kind, sgn a.n b.n, Lib.compareBytes a.s b.s])) := hw 16 rfl
      clear hd hz hf hw
      simp only [Region.wanted, if_true, Oper.wp, execOp, resolve, List.map_toArray, List.map_cons, List.map_nil, Option.map_some, Option.map_none, e0]
      go_simp
      exact hK _ _ rfl (Same.refl _ _)
  · intro vs wR hvl hvp hsR
    rcases vs with _ | ⟨z0, _ | ⟨z1, _ | ⟨z2, _ | ⟨z3, _ | ⟨z4, _ | ⟨z5, _ | ⟨z6, _ | ⟨z7, _ | ⟨z8, _ | ⟨z9, _ | ⟨z10, _ | ⟨z11, _ | ⟨z12, _ | ⟨z13, _ | ⟨z14, _ | ⟨z15, _ | ⟨z16, _ | ⟨z17, _ | ⟨zz, zr⟩⟩⟩⟩⟩⟩⟩⟩⟩⟩⟩⟩⟩⟩⟩⟩⟩⟩⟩
    rotate_right 1
    · simp at hvl
    · simp at hvl
    · simp at hvl
    · simp at hvl
    · simp at hvl
    · simp at hvl
    · simp at hvl
    · simp at hvl
    · simp at hvl
    · simp at hvl
    · simp at hvl
    · simp at hvl
    · simp at hvl
    · simp at hvl
    · simp at hvl
    · simp at hvl
    · simp at hvl
    · simp at hvl
    · simp at hvl
    · obtain rfl : z0 = (.pointer (some ⟨p, 0, none⟩)) := hvp 0 (by simp) (by simp)
      obtain rfl : z1 = (.int .i64 a.kind) := hvp 1 (by simp) (by simp)
      obtain rfl : z2 = (.pointer (some ⟨q, 0, none⟩)) := hvp 2 (by simp) (by simp)
      obtain rfl : z3 = (.int .i64 b.kind) := hvp 3 (by simp) (by simp)
      obtain rfl : z4 = (.int .i64 (sgn a.kind b.kind)) := hvp 4 (by simp) (by simp)
      obtain rfl : z5 = (.pointer (some ⟨p, 1, none⟩)) := hvp 5 (by simp) (by simp)
      obtain rfl : z6 = (.int .i64 a.n) := hvp 6 (by simp) (by simp)
      obtain rfl : z7 = (.pointer (some ⟨q, 1, none⟩)) := hvp 7 (by simp) (by simp)
      obtain rfl : z8 = (.int .i64 b.n) := hvp 8 (by simp) (by simp)
      obtain rfl : z9 = (.int .i64 (sgn a.n b.n)) := hvp 9 (by simp) (by simp)
      obtain rfl : z10 = (.pointer (some ⟨p, 2, none⟩)) := hvp 10 (by simp) (by simp)
      obtain rfl : z11 = (.string (str a.s)) := hvp 11 (by simp) (by simp)
      obtain rfl : z12 = (.pointer (some ⟨q, 2, none⟩)) := hvp 12 (by simp) (by simp)
      obtain rfl : z13 = (.string (str b.s)) := hvp 13 (by simp) (by simp)
      obtain rfl : z14 = (.int .i64 (Lib.compareBytes a.s b.s)) := hvp 14 (by simp) (by simp)
      have hsl : (.ints [sgn a.kind b.kind, sgn a.n b.n, Lib.compareBytes a.s b.s] : SP).p z15 wR := hvp 15 (by simp) (by simp)
      obtain rfl : z16 = (.int .i64 (orL [sgn a.kind b.kind, sgn a.n b.n, Lib.compareBytes a.s b.s])) := hvp 16 (by simp) (by simp)
      obtain rfl : z17 = (.int .i64 (orL [sgn a.kind b.kind, sgn a.n b.n, Lib.compareBytes a.s b.s])) := hvp 17 (by simp) (by simp)
      clear hvl hvp
      simp only [putAll, Act.put, List.setIfInBounds_toArray, List.set_cons_succ, List.set_cons_zero]
      go_wp2
      go_ret
      exact ⟨ret_i64 HL.out, HS.out.trans hsR⟩
theorem sgn_lt {a b : Int} (h : a ≠ b) : sgn a b = if a < b then -1 else 1 := by unfold sgn; split <;> (try split) <;> omega
set_option maxHeartbeats 1000000 in
theorem refCompare_any (a b : Val) (w : World) : Calls Tryd.prog 22 #[valV a, valV b] w fun e w' => e = .returned (.int .i64 (cmpV a b)) ∧ Same (fun _ => True) w w' := by
  have gs := fun B W => refsign_any B W
  by_cases h1 : a.kind = b.kind
  · by_cases h2 : a.n = b.n
    · by_cases h3 : a.s = b.s
      · have K : cmpV a b = 0 := by
          unfold cmpV
          rw [if_neg (by rw [sgn_eq.2 h1]; simp), if_neg (by rw [sgn_eq.2 h2]; simp), cmpB_eq, h3, ltB_irrefl]
          simp
        rw [K]
        clear K
        go_enter Tryd.func22, Tryd.ntmps22
        go_wp2
        go_ret
        exact ⟨rfl, ((Same.refl _ _).alloc _).alloc _⟩
      · have K : cmpV a b = if ltB a.s b.s then -1 else 1 := by
          unfold cmpV
          rw [if_neg (by rw [sgn_eq.2 h1]; simp), if_neg (by rw [sgn_eq.2 h2]; simp), cmpB_eq, if_neg h3]
        rw [K]
        have b3 : (a.s == b.s) = false := by simpa using h3
        have b4 : (a.s != b.s) = true := by simpa using h3
        have e1 : Op.bytesLess a.s b.s = ltB a.s b.s := rfl
        clear K
        cases hl : ltB a.s b.s
        all_goals
          rw [hl] at e1
          clear hl
          go_enter Tryd.func22, Tryd.ntmps22
          go_wp2_with (go_at_call 44; refine (gs _ _).mono ?_; rintro e w' ⟨rfl, rfl⟩)
          go_ret
          exact ⟨rfl, ((Same.refl _ _).alloc _).alloc _⟩
    · have K : cmpV a b = if a.n < b.n then -1 else 1 := by
        unfold cmpV
        rw [if_neg (by rw [sgn_eq.2 h1]; simp), if_pos (by rw [Ne, sgn_eq]; exact h2), sgn_lt h2]
      rw [K]
      have b3 : (a.n != b.n) = true := by simpa using h2
      clear K
      by_cases hl : a.n < b.n
      all_goals
        try have hl' : decide (a.n < b.n) = false := by simpa using hl
        go_enter Tryd.func22, Tryd.ntmps22
        go_wp2_with (go_at_call 44; refine (gs _ _).mono ?_; rintro e w' ⟨rfl, rfl⟩)
        go_ret
        exact ⟨by simp [hl], ((Same.refl _ _).alloc _).alloc _⟩
  · have K : cmpV a b = if a.kind < b.kind then -1 else 1 := by
      unfold cmpV
      rw [if_pos (by rw [Ne, sgn_eq]; exact h1), sgn_lt h1]
    rw [K]
    have b3 : (a.kind != b.kind) = true := by simpa using h1
    clear K
    by_cases hl : a.kind < b.kind
    all_goals
      try have hl' : decide (a.kind < b.kind) = false := by simpa using hl
      go_enter Tryd.func22, Tryd.ntmps22
      go_wp2_with (go_at_call 44; refine (gs _ _).mono ?_; rintro e w' ⟨rfl, rfl⟩)
      go_ret
      exact ⟨by simp [hl], ((Same.refl _ _).alloc _).alloc _⟩
end Go.Proofs.YtpbekhcogpkbpaaDoor
