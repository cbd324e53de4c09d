/-
  LexJoins: the tokens of two texts with a line end between are those of both.
-/
import Derived.Test.YtcckifllammpbaaLexI
set_option linter.unusedSimpArgs false
set_option linter.unusedVariables false
namespace Go.Proofs.Ytcckifllammpbaa
open Go.RowKit Go.ChangeShapes Go.WideShapes Go.ChangeAt

def shiftT (n : Nat) (x : Nat × Tok) : Nat × Tok := (x.1 + n, x.2)
theorem lexF_ok {s : List UInt8} (h : (lexF s).1 = 0) : s.length ≤ 2000 ∧ (lexFrom 0 s).1 = 0 ∧ (lexF s).2 = (lexFrom 0 s).2 ++ [(s.length, ⟨0, [], 0⟩)] := by
  unfold lexF at h ⊢
  by_cases h1 : 2000 < s.length
  · rw [if_pos h1] at h; simp at h
  · rw [if_neg h1] at h ⊢
    by_cases h2 : (lexFrom 0 s).1 = 0
    · rw [if_pos h2]
      exact ⟨by omega, h2, rfl⟩
    · rw [if_neg h2] at h
      exact absurd h h2
theorem lexF_join {a b : List UInt8} (ha : a.length ≤ 900) (hb : b.length ≤ 900) (h1 : (lexF a).1 = 0) (h2 : (lexF b).1 = 0) :
    lexF (a ++ 10 :: b) = (0, (lexFrom 0 a).2 ++ (lexF b).2.map (shiftT (a.length + 1))) := by
  obtain ⟨_, a1, _⟩ := lexF_ok h1
  obtain ⟨_, b1, b2⟩ := lexF_ok h2
  unfold lexF
  rw [if_neg (by simp; omega), lexFrom_app stop10 b _ a 0 (Nat.le_refl _) a1, lexFrom_at _ b (0 + a.length + 1) (Nat.le_refl _)]
  unfold thenL
  simp only [b1, if_true]
  rw [if_neg (by omega)]
  simp only [List.map_append, List.map_cons, List.map_nil, shiftT, List.append_assoc, Nat.zero_add, List.length_append, List.length_cons]
  rw [show a.length + (b.length + 1) = b.length + (a.length + 1) from by omega]
  simp only [Prod.mk.injEq, true_and]
  rfl
/-- A token's place lies within its text. -/
theorem lexFrom_place : ∀ (k : Nat) (s : List UInt8) (i : Nat), s.length ≤ k → ∀ x ∈ (lexFrom i s).2, x.1 ≤ i + s.length := by
  intro k
  induction k with
  | zero =>
    intro s i hl x hx
    have : s = [] := List.eq_nil_of_length_eq_zero (by omega)
    subst this
    rw [lexFrom_nil] at hx; simp at hx
  | succ k ih =>
    intro s i hl x hx
    by_cases hs : s = []
    · subst hs
      rw [lexFrom_nil] at hx; simp at hx
    · by_cases he : (tokF s).e = 0
      · have hp := tokF_pos he
        rw [lexFrom_go hs he] at hx
        have h2 := ih (s.drop (tokF s).n) (i + (tokF s).n) (by simp; omega)
        rw [List.length_drop] at h2
        split at hx
        · rcases List.mem_append.1 hx with h3 | h3
          · split at h3
            · simp at h3
            · simp at h3
              rw [h3]
              simp
          · have := h2 x h3
            omega
        · simp at hx
      · rw [lexFrom_err hs he] at hx; simp at hx
/-- What stands at each place of the joined tokens. -/
theorem join_at {X Y : List (Nat × Tok)} {n : Nat} (e : Nat × Tok) (i : Nat) (hi : i < (X ++ Y.map (shiftT n)).length) :
    (∀ h : i < X.length, (X ++ Y.map (shiftT n))[i] = (X ++ [e])[i]'(by simp; omega)) ∧ (∀ h : X.length ≤ i, ∃ h2 : i - X.length < Y.length, (X ++ Y.map (shiftT n))[i] = shiftT n Y[i - X.length]) := by
  constructor
  · intro h
    rw [List.getElem_append_left h, List.getElem_append_left h]
  · intro h
    have h2 : i - X.length < Y.length := by simp at hi; omega
    refine ⟨h2, ?_⟩
    rw [List.getElem_append_right h]
    simp
theorem add_nl (a b : ByteArray) (ha : a.size ≤ 1000) (hb : b.size ≤ 1000) (w : World) :
    (Op.stringOp .add a ⟨#[10]⟩).run Try.prog w = .ok (.string (str (bl a ++ [10]))) w ∧ (Op.stringOp .add (str (bl a ++ [10])) b).run Try.prog w = .ok (.string (str (bl a ++ 10 :: bl b))) w := by
  constructor
  · have : a ++ (⟨#[10]⟩ : ByteArray) = str (bl a ++ [10]) := str_app (bl a) [10]
    rw [← this]
    exact run_string_add_sum _ _ _ (by show a.size + 1 ≤ _; omega)
  · have : str (bl a ++ [10]) ++ b = str (bl a ++ 10 :: bl b) := by
      have e : str (bl a ++ [10]) ++ str (bl b) = str (bl a ++ 10 :: bl b) := by rw [str_app]; simp
      exact e
    rw [← this]
    exact run_string_add_sum _ _ _ (by rw [str_size, List.length_append, bl_len]; simp; omega)
set_option maxHeartbeats 2000000 in
theorem lexjoins_walk (a b : ByteArray) (w : World) (hm : Mx w) : Calls Try.prog 6 #[.string a, .string b] w (TrueP w) := by
  by_cases hlong : 900 < a.size ∨ 900 < b.size
  · by_cases h1 : 900 < a.size
    · have d1 : decide ((900 : Int) < a.size) = true := decide_eq_true (by omega)
      clear hlong
      go_enter Try.func6, Try.ntmps6
      go_wp2_with (go_at_call 14; refine (lexbegun_any _ hm).mono ?_; rintro e w1 ⟨rfl, hS1⟩)
      go_ret
      exact ⟨rfl, hS1⟩
    · have h2 : 900 < b.size := by omega
      have d1 : decide ((900 : Int) < a.size) = false := decide_eq_false (by omega)
      have d2 : decide ((900 : Int) < b.size) = true := decide_eq_true (by omega)
      clear hlong
      go_enter Try.func6, Try.ntmps6
      go_wp2_with (go_at_call 14; refine (lexbegun_any _ hm).mono ?_; rintro e w1 ⟨rfl, hS1⟩)
      go_ret
      exact ⟨rfl, hS1⟩
  · have ha : a.size ≤ 900 := by omega
    have hb : b.size ≤ 900 := by omega
    have d1 : decide ((900 : Int) < a.size) = false := decide_eq_false (by omega)
    have d2 : decide ((900 : Int) < b.size) = false := decide_eq_false (by omega)
    clear hlong
    obtain ⟨r1, hr1⟩ : ∃ r, lexF (bl a) = r := ⟨_, rfl⟩
    obtain ⟨r2, hr2⟩ : ∃ r, lexF (bl b) = r := ⟨_, rfl⟩
    have g1 := fun W => lexlex_any a W (by omega)
    have g2 := fun W => lexlex_any b W (by omega)
    rw [hr1] at g1
    rw [hr2] at g2
    by_cases hok : r1.1 = 0 ∧ r2.1 = 0
    · obtain ⟨o1, o2⟩ := hok
      have hj := lexF_join (a := bl a) (b := bl b) (by rw [bl_len]; exact ha) (by rw [bl_len]; exact hb) (by rw [hr1]; exact o1) (by rw [hr2]; exact o2)
      obtain ⟨_, _, e1⟩ := lexF_ok (s := bl a) (by rw [hr1]; exact o1)
      obtain ⟨_, _, e2⟩ := lexF_ok (s := bl b) (by rw [hr2]; exact o2)
      obtain ⟨X, hX⟩ : ∃ X, (lexFrom 0 (bl a)).2 = X := ⟨_, rfl⟩
      have lX := lexFrom_len _ (bl a) 0 (Nat.le_refl _)
      have lY := lexFrom_len _ (bl b) 0 (Nat.le_refl _)
      have lY' : r2.2.length ≤ 901 := by rw [← hr2, e2, List.length_append, List.length_cons, List.length_nil]; rw [bl_len] at lY; omega
      rw [hX, bl_len] at lX
      clear lY
      have pY : ∀ x ∈ r2.2, x.1 ≤ 901 := by
        intro x hx
        rw [← hr2, e2] at hx
        rcases List.mem_append.1 hx with h3 | h3
        · have := lexFrom_place _ (bl b) 0 (Nat.le_refl _) x h3
          rw [bl_len] at this
          omega
        · simp at h3
          rw [h3]
          have := bl_len b
          show (bl b).length ≤ 901
          omega
      have PY := Lib.hid pY
      clear pY
      rw [hr1, hX] at e1
      rw [hr2] at e2
      rw [hr2, hX] at hj
      have hlY : 1 ≤ r2.2.length := by rw [e2]; simp
      obtain ⟨n1, y1⟩ := r1
      obtain ⟨n2, Y⟩ := r2
      dsimp only at o1 o2 e1 hj hlY g1 g2 lY' PY
      subst o1 o2 e1
      rw [bl_len] at hj
      obtain ⟨Z, hZ⟩ : ∃ Z, Z = X ++ Y.map (shiftT (a.size + 1)) := ⟨_, rfl⟩
      rw [← hZ] at hj
      have g3 := fun W => lexlex_any (str (bl a ++ 10 :: bl b)) W (by rw [str_size, List.length_append, List.length_cons, bl_len, bl_len]; omega)
      rw [show bl (str (bl a ++ 10 :: bl b)) = bl a ++ 10 :: bl b from rfl, hj] at g3
      have hlZ : Z.length = X.length + Y.length := by rw [hZ]; simp
      have hlZa : Z.length ≤ X.length + Y.length := by omega
      have hlZb : X.length + Y.length ≤ Z.length := by omega
      have HlZ := Lib.hid hlZ
      have s1 := fun W => (add_nl a b (by omega) (by omega) W).1
      have s2 := fun W => (add_nl a b (by omega) (by omega) W).2
      have HZ := Lib.hid hZ
      clear hr1 hr2 hX e2 hj hZ hlZ
      go_enter Try.func6, Try.ntmps6
      go_wp2_with (first | (go_at_call 14; refine (lexbegun_any _ hm).mono ?_; rintro e w1 ⟨rfl, hS1⟩; have hS1 := Lib.hid hS1) | (go_at_call 15; refine stopAt ?_))
      unfold Hid
      refine (g1 _).mono ?_
      rintro e w2 ⟨v1, rfl, hown1, hS2⟩
      obtain ⟨ga, c1, rfl, b1, b2, b3, b4, t1⟩ := hown1.from_ (by simp)
      unfold maxLen at b4
      have T1 := Lib.hid t1
      have HS2 := Lib.hid hS2
      clear t1 hown1 hS2
      go_wp2_with (go_at_call 15; refine stopAt ?_)
      unfold Hid
      refine (g2 _).mono ?_
      rintro e w3 ⟨v2, rfl, hown2, hS3⟩
      obtain ⟨gb, c2, rfl, b5, b6, b7, b8, t2⟩ := hown2.from_ hlY
      unfold maxLen at b8
      have T2 := Lib.hid t2
      have HS3 := Lib.hid hS3
      clear t2 hown2 hS3
      go_wp2_with (go_at_call 15; refine stopAt ?_)
      unfold Hid
      refine (g3 _).mono ?_
      rintro e w4 ⟨v3, rfl, hown3, hS4⟩
      have hlZ2 : 1 ≤ Z.length := by omega
      obtain ⟨gc, c3, rfl, b9, b10, b11, b12, t3⟩ := hown3.from_ hlZ2
      unfold maxLen at b12
      have T3 := Lib.hid t3
      have HS4 := Lib.hid hS4
      have T1' := Lib.hid ((T1.out.keep HS3.out trivial).keep HS4.out trivial)
      have T2' := Lib.hid (T2.out.keep HS4.out trivial)
      have HSq := Lib.hid (((hS1.out.trans HS2.out).trans HS3.out).trans HS4.out)
      have hg1 : ga < w4.heap.size := by have := HS3.out.size; have := HS4.out.size; omega
      have hg2 : gb < w4.heap.size := by have := HS4.out.size; omega
      clear t3 hown3 hS4 T1 T2 HS2 HS3 HS4 s1 s2 g1 g2 g3 b1 b2 b5 b6 b9
      simp only [List.length_append, List.length_cons, List.length_nil, Nat.zero_add] at b3 ⊢
      have z1 : ((Z.length : Int) != (X.length : Int) + 1 + (Y.length : Int) - 1) = false := by simp; omega
      go_wp2
      go_loopw [11, 12] (fun i _ wq => ∃ j : Nat, j ≤ Z.length ∧ i = .int .i64 j ∧ Same (fun _ => True) w4 wq) (fun i _ _ => Z.length - (intOf i).toNat)
      case atStart => exact ⟨0, Nat.zero_le _, rfl, Same.refl _ _⟩
      case round =>
        obtain ⟨j, hj, rfl, hSr⟩ := hrel
        have HSr := Lib.hid hSr
        have hwr := hSr.size
        have k1 : ga < wr.heap.size := by omega
        have k2 : gb < wr.heap.size := by omega
        have k3 : gc < wr.heap.size := by omega
        clear hSr hwr
        by_cases hlt : j < Z.length
        · have x1 : (0 : Int) ≤ j := by omega
          have x2 : (j : Int) < Z.length := by omega
          obtain ⟨p0, p1, p2, p3⟩ := (T3.out.keep HSr.out trivial).cells j hlt (Nat.zero_le _)
          by_cases hX : j < X.length
          · obtain ⟨q0, q1, q2, q3⟩ := (T1'.out.keep HSr.out trivial).cells j (by simp; omega) (Nat.zero_le _)
            have heq : Z[j] = (X ++ [((bl a).length, ⟨0, [], 0⟩)])[j]'(by simp; omega) := by
              have := (join_at (X := X) (Y := Y) (n := a.size + 1) ((bl a).length, ⟨0, [], 0⟩) j (by rw [← HZ.out]; exact hlt)).1 hX
              rw [← this]
              congr 1
            rw [heq] at p0 p1 p2 p3
            generalize (X ++ [((bl a).length, (⟨0, [], 0⟩ : Tok))])[j]'(by simp; omega) = tk at *
            clear heq
            go_wp2
            go_quiet (fail)
            go_wp2
            exact ⟨⟨j + 1, by omega, by go_num, (HSr.out.alloc _).drewN _⟩, by simp [intOf]; omega⟩
          · obtain ⟨d, rfl⟩ : ∃ d, j = X.length + d := ⟨j - X.length, by omega⟩
            have hdY : d < Y.length := by omega
            obtain ⟨q0, q1, q2, q3⟩ := (T2'.out.keep HSr.out trivial).cells d hdY (Nat.zero_le _)
            have heq : Z[X.length + d] = shiftT (a.size + 1) Y[d] := by
              obtain ⟨h2, h3⟩ := (join_at (X := X) (Y := Y) (n := a.size + 1) (0, ⟨0, [], 0⟩) (X.length + d) (by rw [← HZ.out]; exact hlt)).2 (by omega)
              have h4 : Z[X.length + d] = (X ++ Y.map (shiftT (a.size + 1)))[X.length + d]'(by rw [← HZ.out]; exact hlt) := by congr 1; first | done | exact HZ.out
              rw [h4, h3]
              congr 2
              omega
            rw [heq] at p0 p1 p2 p3
            have hpl := PY.out Y[d] (List.getElem_mem hdY)
            generalize Y[d] = tk at *
            obtain ⟨pl, tk⟩ := tk
            simp only [shiftT] at p0 p1 p2 p3 q0 q1 q2 q3 hpl
            have p1' : wr.cell? ⟨gc, (X.length + d) * 4 + 1, none⟩ = some (.int .i64 ((pl : Int) + (a.size : Int) + 1)) := by
              rw [p1]; congr 2
            have x3 : (X.length : Int) + (d : Int) - ((X.length : Int) + 1) + 1 = (d : Int) := by omega
            have x4 : ¬ (d : Int) < 0 := by omega
            have x5 : (d : Int) < Y.length := by omega
            clear heq p1
            go_wp2
            go_quiet (fail)
            go_wp2
            exact ⟨⟨X.length + d + 1, by omega, by go_num, (HSr.out.alloc _).drewN _⟩, by simp [intOf]; omega⟩
        · obtain rfl : j = Z.length := by omega
          go_wp2
          go_ret
          exact ⟨rfl, HSq.out.trans HSr.out⟩
    · by_cases o1 : r1.1 = 0
      · have o2 : ¬ r2.1 = 0 := fun h => hok ⟨o1, h⟩
        have e1 : ((r1.1 : Int) != 0) = false := by rw [o1]; rfl
        have e2 : ((r2.1 : Int) != 0) = true := by simp; exact o2
        clear hok o1 o2 hr1 hr2
        go_enter Try.func6, Try.ntmps6
        go_wp2_with (first | (go_at_call 14; refine (lexbegun_any _ hm).mono ?_; rintro e w1 ⟨rfl, hS1⟩; have hS1 := Lib.hid hS1) | (go_at_call 15; refine stopAt ?_))
        unfold Hid
        refine (g1 _).mono ?_
        rintro e w2 ⟨v1, rfl, hown1, hS2⟩
        have HS2 := Lib.hid hS2
        clear hown1 hS2
        go_wp2_with (go_at_call 15; refine stopAt ?_)
        unfold Hid
        refine (g2 _).mono ?_
        rintro e w3 ⟨v2, rfl, hown2, hS3⟩
        have HS3 := Lib.hid hS3
        clear hown2 hS3
        go_wp2
        go_ret
        exact ⟨rfl, (hS1.out.trans HS2.out).trans HS3.out⟩
      · have e1 : ((r1.1 : Int) != 0) = true := by simp; exact o1
        clear hok o1 hr1 hr2
        go_enter Try.func6, Try.ntmps6
        go_wp2_with (first | (go_at_call 14; refine (lexbegun_any _ hm).mono ?_; rintro e w1 ⟨rfl, hS1⟩; have hS1 := Lib.hid hS1) | (go_at_call 15; refine stopAt ?_))
        unfold Hid
        refine (g1 _).mono ?_
        rintro e w2 ⟨v1, rfl, hown1, hS2⟩
        have HS2 := Lib.hid hS2
        clear hown1 hS2
        go_wp2_with (go_at_call 15; refine stopAt ?_)
        unfold Hid
        refine (g2 _).mono ?_
        rintro e w3 ⟨v2, rfl, hown2, hS3⟩
        have HS3 := Lib.hid hS3
        clear hown2 hS3
        go_wp2
        go_ret
        exact ⟨rfl, (hS1.out.trans HS2.out).trans HS3.out⟩
end Go.Proofs.Ytcckifllammpbaa
