/-
  LexAll: for every text, lex.Lex's tokens, or its error, are the document's.
-/
import Derived.Test.YtcckifllammpbaaLexH
set_option linter.unusedSimpArgs false
set_option linter.unusedVariables false
namespace Go.Proofs.Ytcckifllammpbaa
open Go.RowKit Go.ChangeShapes Go.WideShapes Go.ChangeAt

/-- A row whose elements from the i-th on are these tokens. -/
def TokFrom (w : World) (g cap i : Nat) (l : List (Nat × Tok)) : Prop :=
  ∃ cur, Row w g 28 cur ∧ cur.length = cap * 4 ∧ ∀ k j (_ : k < l.length), i ≤ k → j < 4 → cur[k * 4 + j]? = (tokCs l[k])[j]?
theorem TokFrom.cells {w : World} {g cap i : Nat} {l : List (Nat × Tok)} (h : TokFrom w g cap i l) (k : Nat) (hk : k < l.length) (hi : i ≤ k) :
    w.cell? ⟨g, k * 4, none⟩ = some (.int .i64 l[k].2.kind) ∧ w.cell? ⟨g, k * 4 + 1, none⟩ = some (.int .i64 l[k].1) ∧ w.cell? ⟨g, k * 4 + 2, none⟩ = some (.string (str l[k].2.s)) ∧ w.cell? ⟨g, k * 4 + 3, none⟩ = some (.int .i64 l[k].2.n) := by
  obtain ⟨cur, hrow, _, hc⟩ := h
  exact ⟨(hrow.cell _).trans (hc k 0 hk hi (by omega)), (hrow.cell _).trans (hc k 1 hk hi (by omega)), (hrow.cell _).trans (hc k 2 hk hi (by omega)), (hrow.cell _).trans (hc k 3 hk hi (by omega))⟩
theorem TokFrom.free {w : World} {g cap i : Nat} {l : List (Nat × Tok)} (h : TokFrom w g cap i l) (k : Nat) : w.frozen? ⟨g, k, none⟩ = false := by
  obtain ⟨cur, hrow, _, _⟩ := h
  exact hrow.frozen k
theorem TokFrom.keep {w w' : World} {S : Nat → Prop} {g cap i : Nat} {l : List (Nat × Tok)} (h : TokFrom w g cap i l) (hs : Same S w w') (hg : S g) : TokFrom w' g cap i l := by
  obtain ⟨cur, hrow, h1, h2⟩ := h
  exact ⟨cur, hrow.keep hs hg, h1, h2⟩
theorem TokFrom.next {w : World} {g cap i : Nat} {l : List (Nat × Tok)} (h : TokFrom w g cap i l) (a b c d : Value) :
    TokFrom ((((w.setCell ⟨g, i * 4, none⟩ a).setCell ⟨g, i * 4 + 1, none⟩ b).setCell ⟨g, i * 4 + 2, none⟩ c).setCell ⟨g, i * 4 + 3, none⟩ d) g cap (i + 1) l := by
  obtain ⟨cur, hrow, h1, h2⟩ := h
  refine ⟨(((cur.set (i * 4) a).set (i * 4 + 1) b).set (i * 4 + 2) c).set (i * 4 + 3) d, (((hrow.set_ _ a).set_ _ b).set_ _ c).set_ _ d, by simpa using h1, fun k j hk hi hj => ?_⟩
  rw [List.getElem?_set_ne (by omega), List.getElem?_set_ne (by omega), List.getElem?_set_ne (by omega), List.getElem?_set_ne (by omega)]
  exact h2 k j hk (by omega) hj
theorem OwnT.from_ {w : World} {B : Nat} {v : Value} {l : List (Nat × Tok)} (h : OwnT w B v l) (hne : 0 < l.length) :
    ∃ g cap, v = .slice (some ⟨g, 0, none⟩) l.length cap ∧ B ≤ g ∧ g < w.heap.size ∧ l.length ≤ cap ∧ cap ≤ maxLen ∧ TokFrom w g cap 0 l := by
  obtain ⟨g, cap, cur, h1, h2, h3, h4, h5, h6, h7⟩ := h.row hne
  exact ⟨g, cap, h1, h2, h3.lt, h4, h5, cur, h3, h6, fun k j hk _ hj => h7 k j hk hj⟩
set_option maxHeartbeats 2000000 in
theorem lexall_walk (s : ByteArray) (w : World) (hm : Mx w) : Calls Try.prog 3 #[.string s] w (TrueP w) := by
  by_cases h : 2100 < s.size
  · have d1 : decide ((2100 : Int) < s.size) = true := decide_eq_true (by omega)
    go_enter Try.func3, Try.ntmps3
    go_wp2_with (go_at_call 14; refine (lexbegun_any _ hm).mono ?_; rintro e w1 ⟨rfl, hS1⟩)
    go_ret
    exact ⟨rfl, hS1⟩
  · have hs : s.size ≤ 100000 := by omega
    go_enter Try.func3, Try.ntmps3
    go_wp2_with (go_at_call 14; refine (lexbegun_any _ hm).mono ?_; rintro e w1 ⟨rfl, hS1⟩)
    go_loopw [3, 4, 5, 6, 7, 8] (fun t _ _ _ _ _ wr => ∃ k : Nat, k ≤ 2 ∧ t = .int .i64 k ∧ Same (fun _ => True) w wr) (fun t _ _ _ _ _ _ => 2 - (intOf t).toNat)
    case atStart => exact ⟨0, by omega, rfl, hS1⟩
    case round =>
      obtain ⟨k, hk, rfl, hS⟩ := hrel
      clear hS1
      have HS := Lib.hid hS
      have hsz0 : w.heap.size ≤ wr.heap.size := hS.size
      clear hS
      by_cases hlt : k < 2
      · obtain ⟨r, hr⟩ : ∃ r, lexF (bl s) = r := ⟨_, rfl⟩
        have g1 := fun W => lexlex_any s W hs
        have g2 := fun W => reflex_any s W hs
        rw [hr] at g1 g2
        go_wp2_with (first | (go_at_call 15; refine (g1 _).mono ?_; rintro e w2 ⟨v1, rfl, hown1, hS2⟩; obtain ⟨A1, c1, rfl, b1, b2⟩ := hown1.form; have Hown1 := Lib.hid hown1; have HS2 := Lib.hid hS2; have hsz1 := hS2.size; clear hown1 hS2; unfold maxLen at b2) | (go_at_call 16; refine (g2 _).mono ?_; rintro e w3 ⟨v2, rfl, hown2, hS3⟩; obtain ⟨A2, c2, rfl, b3, b4⟩ := hown2.form; have Hown2 := Lib.hid hown2; have HS3 := Lib.hid hS3; have hsz2 := hS3.size; clear hown2 hS3; unfold maxLen at b4))
        by_cases hn : r.2.length = 0
        · have HS3' := Lib.hid ((HS.out.trans HS2.out).trans HS3.out)
          go_loopw [8] (fun i wq => i = .int .i64 0 ∧ Same (fun _ => True) w wq) (fun _ _ => 0)
          case atStart => exact ⟨rfl, HS3'.out⟩
          case round =>
            obtain ⟨rfl, hSq⟩ := hrel
            have HSq := Lib.hid hSq
            clear hSq HS3'
            go_wp2
            go_roundw
            case rel => exact ⟨k + 1, by omega, by go_num, HSq.out⟩
            case measure => simp [intOf]; omega
        · have hn' : 0 < r.2.length := by omega
          obtain ⟨ga, ca, ea, b5, b6, b7, b8, ht1⟩ := Hown1.out.from_ hn'
          obtain ⟨gb, cb, eb, b9, b10, b11, b12, ht2⟩ := Hown2.out.from_ hn'
          injection ea with ea1 ea2 ea3
          injection eb with eb1 eb2 eb3
          subst ea1 ea3 eb1 eb3
          have ht1' := ht1.keep HS3.out trivial
          have HT1 := Lib.hid ht1'
          have HT2 := Lib.hid ht2
          have hg : ga ≠ gb := by omega
          clear ht1 ht2 ht1' b8 b12
          go_loopw [8] (fun i wq => ∃ j : Nat, j ≤ r.2.length ∧ i = .int .i64 j ∧ TokFrom wq ga c1 j r.2 ∧ TokFrom wq gb c2 0 r.2 ∧ Same (fun _ => True) w wq) (fun i _ => r.2.length - (intOf i).toNat)
          case atStart => exact ⟨0, Nat.zero_le _, rfl, HT1.out, HT2.out, (HS.out.trans HS2.out).trans HS3.out⟩
          case round =>
            obtain ⟨j, hj, rfl, t1, t2, hSq⟩ := hrel
            clear HT1 HT2
            have HT1 := Lib.hid t1
            have HT2 := Lib.hid t2
            have HSq := Lib.hid hSq
            by_cases hlt2 : j < r.2.length
            · have x1 : (0 : Int) ≤ j := by omega
              have x2 : (j : Int) < r.2.length := by omega
              obtain ⟨y0, y1, y2, y3⟩ := t1.cells j hlt2 (Nat.le_refl _)
              obtain ⟨z0, z1, z2, z3⟩ := t2.cells j hlt2 (Nat.zero_le _)
              have f0 := t1.free (j * 4)
              have f1 := t1.free (j * 4 + 1)
              have f2 := t1.free (j * 4 + 2)
              have f3 := t1.free (j * 4 + 3)
              clear t1 t2 hSq
              go_wp2
              go_quiet (fail)
              rename_i nq
              go_wp2
              refine ⟨⟨j + 1, by omega, by go_num, (HT1.out.keep ((Same.refl (fun _ => True) wr).drewN nq) trivial).next _ _ _ _, HT2.out.keep (S := fun i => i ≠ ga) ((((((Same.refl _ wr).drewN nq).setCell (fun _ h => h rfl) _).setCell (fun _ h => h rfl) _).setCell (fun _ h => h rfl) _).setCell (fun _ h => h rfl) _) (fun e => hg e.symm), ((((HSq.out.drewN nq).setCell (fun h => absurd h (by simp; omega)) _).setCell (fun h => absurd h (by simp; omega)) _).setCell (fun h => absurd h (by simp; omega)) _).setCell (fun h => absurd h (by simp; omega)) _⟩, by simp [intOf]; omega⟩
            · obtain rfl : j = r.2.length := by omega
              clear t1 t2 hSq
              go_wp2
              go_roundw
              case rel => exact ⟨k + 1, by omega, by go_num, HSq.out⟩
              case measure => simp [intOf]; omega
      · obtain rfl : k = 2 := by omega
        go_wp2
        go_ret
        exact ⟨rfl, HS.out⟩
end Go.Proofs.Ytcckifllammpbaa
