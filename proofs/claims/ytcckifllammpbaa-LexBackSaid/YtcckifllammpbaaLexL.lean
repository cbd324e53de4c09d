/-
  The walk of lex.Lex: the tokens of a text.
-/
import Derived.Test.YtcckifllammpbaaLexK
set_option linter.unusedSimpArgs false
set_option linter.unusedVariables false
namespace Go.Proofs.Ytcckifllammpbaa
open Go.RowKit

def tokCs (x : Nat × Tok) : List Value := [.int .i64 x.2.kind, .int .i64 x.1, .string (str x.2.s), .int .i64 x.2.n]
theorem TT : SlT Try.prog 23 28 4 40 (.agg #[.int .i64 0, .int .i64 0, .string ⟨#[]⟩, .int .i64 0]) := ⟨by kernel_rfl, by kernel_rfl, rfl, by omega⟩
/-- A row of tokens that the call owns. -/
def OwnT (w : World) (B : Nat) (v : Value) (l : List (Nat × Tok)) : Prop := w.ownsRow B 28 4 v l.length (l.flatMap tokCs)
theorem OwnT.nil (w : World) (B : Nat) : OwnT w B (.slice none 0 0) [] := World.ownsRow_nil _ _ _ _
theorem OwnT.keep {w w' : World} {S : Nat → Prop} {B : Nat} {v : Value} {l : List (Nat × Tok)} (h : OwnT w B v l) (hs : Same S w w') (hS : ∀ k, B ≤ k → k < w.heap.size → S k) : OwnT w' B v l :=
  own_keep h (hs.mono (S' := fun k => S k) fun _ _ h => h) fun k hk => hS k (own_ge h hk.symm) (h.lt k hk).2
theorem OwnT.keepAll {w w' : World} {B : Nat} {v : Value} {l : List (Nat × Tok)} (h : OwnT w B v l) (hs : Same (fun _ => True) w w') : OwnT w' B v l := own_keepAll h hs
theorem OwnT.form {w : World} {B : Nat} {v : Value} {l : List (Nat × Tok)} (h : OwnT w B v l) : ∃ A c, v = .slice A l.length c ∧ l.length ≤ c ∧ c ≤ maxLen := own_cap h
theorem tokCs_one (x : Nat × Tok) : ∀ u ∈ tokCs x, u.oneCell' = true := by
  intro u hu
  simp only [tokCs, List.mem_cons, List.not_mem_nil, or_false] at hu
  rcases hu with rfl | rfl | rfl | rfl <;> rfl
/-- One token behind a row that the call owns: its cells were laid into a block of their own. -/
theorem wpList_appT1 {w : World} {ops : Array Oper} {rest : List Oper} {o : Oper} {a : Act} {Q : Exit → Act → World → Prop} (hgd : o.guard = none) (s x : Operand)
    (ho : o.op = .call { callee := .builtin .append, args := #[s, x], argTypes := #[23, 23] }) {B : Nat} {v : Value} {l : List (Nat × Tok)} {c : Nat × Tok}
    (hs : a.eval s = v) {g : Nat} (hx : a.eval x = .slice (some ⟨g, 0, none⟩) 1 1) (hg : g = w.heap.size) (hown : OwnT w B v l) (hB : B ≤ w.heap.size) (hlen : l.length + 1 ≤ 1000000)
    (hK : ∀ v' w', OwnT w' B v' (l ++ [c]) → Same (fun k => k < B) w w' → wpList Try.prog ops Q rest (a.put o.dst v') w') : wpList Try.prog ops Q (o :: rest) a (w.alloc (.cells (tokCs c).toArray 28)) := by
  subst hg
  have h1 : Same (fun _ => True) w (w.alloc (.cells (tokCs c).toArray 28)) := (Same.refl _ _).alloc _
  have hrow := Row.new w 28 (tokCs c)
  have hsl := hrow.sl (size := 4) (off := 0) (n := 1) (by simp [tokCs])
  rw [List.drop_zero, List.take_of_length_le (by simp [tokCs])] at hsl
  refine wpList_app TT _ hgd s x ho B v l.length (l.flatMap tokCs) hs (hown.keepAll h1) _ _ 1 1 (tokCs c) hx hsl (tokCs_one c) (by simp only [maxLen]; omega) (by omega) (by simp; omega) ?_
  intro v' w' h2 h3 h4
  refine hK v' w' ?_ ((h1.mono fun _ _ _ => trivial).trans (h3.mono fun k _ hk e => by have := (hown.keepAll h1 : OwnT _ B v l).lt k e.symm; omega))
  unfold OwnT
  rw [List.length_append, List.flatMap_append]
  simpa using h2
def LexPost (r : Nat × List (Nat × Tok)) (w : World) (e : Ending) (w' : World) : Prop :=
  ∃ v, e = .returned (.tuple #[v, .int .i64 r.1]) ∧ OwnT w' w.heap.size v r.2 ∧ Same (fun _ => True) w w'
/-- What Lex's loop holds. -/
def LexRel (s : ByteArray) (r : Nat × List (Nat × Tok)) (w : World) (k : Nat) (l : List (Nat × Tok)) (v : Value) (wr : World) : Prop :=
  OwnT wr w.heap.size v l ∧ l.length ≤ k ∧ r = thenL (0, l) (lexFrom k ((bl s).drop k)) ∧ Same (fun _ => True) w wr
theorem thenL_nil (y : Nat × List (Nat × Tok)) (i : Nat) (s : List UInt8) (h : y = lexFrom i s) : thenL (0, []) y = y := by
  subst h
  unfold thenL
  exact (lexFrom_pair i s).symm
theorem thenL_thenL (a b : List (Nat × Tok)) (y : Nat × List (Nat × Tok)) : thenL (0, a) (thenL (0, b) y) = thenL (0, a ++ b) y := by
  unfold thenL
  by_cases h : y.1 = 0
  · simp [h]
  · simp [h]
theorem lexFrom_then {i : Nat} {s : List UInt8} (hs : s ≠ []) (h : (tokF s).e = 0) :
    lexFrom i s = thenL (0, if (tokF s).t.kind = 0 then [] else [(i, (tokF s).t)]) (lexFrom (i + (tokF s).n) (s.drop (tokF s).n)) := lexFrom_go hs h
set_option maxHeartbeats 1000000 in
theorem lexlex_any (s : ByteArray) (w : World) (hs : s.size ≤ 100000) : Calls Try.prog 15 #[.string s] w (LexPost (lexF (bl s)) w) := by
  have hbl := bl_len s
  by_cases hlong : 2000 < s.size
  · have K : lexF (bl s) = (3, []) := by unfold lexF; rw [if_pos (by rw [hbl]; exact hlong)]
    have HK := Lib.hid K
    clear K hbl
    go_enter Try.func15, Try.ntmps15
    go_wp2
    go_ret2
    rw [HK.out]
    exact ⟨_, rfl, OwnT.nil _ _, Same.refl _ _⟩
  · obtain ⟨r, hr⟩ : ∃ r, r = lexFrom 0 (bl s) := ⟨_, rfl⟩
    have K : lexF (bl s) = if r.1 = 0 then (0, r.2 ++ [(s.size, ⟨0, [], 0⟩)]) else (r.1, []) := by unfold lexF; rw [if_neg (by rw [hbl]; exact hlong), hr, hbl]
    have hr0 : r = thenL (0, []) (lexFrom 0 ((bl s).drop 0)) := by rw [List.drop_zero, ← hr]; exact (thenL_nil r 0 (bl s) hr).symm
    have HK := Lib.hid K
    have Hr0 := Lib.hid hr0
    have Hbl := Lib.hid hbl
    clear K hr hr0 hbl
    go_enter Try.func15, Try.ntmps15
    go_wp2
    go_loopw [4, 5, 6, 7, 8] (fun v i _ _ _ wr => ∃ (k : Nat) (l : List (Nat × Tok)), k ≤ s.size ∧ i = .int .i64 k ∧ LexRel s r w k l v wr) (fun _ i _ _ _ _ => s.size - (intOf i).toNat)
    case atStart => exact ⟨0, [], Nat.zero_le _, rfl, OwnT.nil _ _, by simp, Hr0.out, Same.refl _ _⟩
    case round =>
      obtain ⟨k, l, hk, rfl, hown, hl, hgo, hS⟩ := hrel
      clear Hr0
      have Hown := Lib.hid hown
      have HS := Lib.hid hS
      obtain ⟨A, c, rfl, hc1, hc2⟩ := hown.form
      have hsz : w.heap.size ≤ wr.heap.size := hS.size
      unfold maxLen at hc2
      clear hown hS
      by_cases hlt : k < s.size
      · have hne : (bl s).drop k ≠ [] := by
          intro e
          have := congrArg List.length e
          rw [List.length_drop, Hbl.out] at this
          simp at this
          omega
        obtain ⟨R, hR⟩ : ∃ R, R = tokF ((bl s).drop k) := ⟨_, rfl⟩
        have HR := Lib.hid hR
        go_wp2_with (go_at_call 34; refine stopAt ?_)
        unfold Hid
        rw [ext_drop]
        refine (lextoken_any _ _ (by rw [show (str ((bl s).drop k)).size = _ from str_size _, List.length_drop, Hbl.out]; omega) (by rw [show (str ((bl s).drop k)).size = _ from str_size _, List.length_drop, Hbl.out]; omega)).mono ?_
        rw [bl_str, ← hR]
        rintro e w1 ⟨rfl, hS1⟩
        by_cases he : R.e = 0
        · have hpos := tokF_pos (s := (bl s).drop k) (by rw [← hR]; exact he)
          rw [← hR, List.length_drop, Hbl.out] at hpos
          have hstep := lexFrom_then (i := k) hne (by rw [← hR]; exact he)
          rw [← hR, List.drop_drop] at hstep
          rw [hstep, thenL_thenL] at hgo
          have Hgo := Lib.hid hgo
          have HS1 := Lib.hid hS1
          have e1 : ((R.e : Int) != 0) = false := by rw [he]; rfl
          clear hgo hstep hS1 hR hne he
          by_cases hkind : R.t.kind = 0
          · have e2 : ((R.t.kind : Int) != 0) = false := by rw [hkind]; rfl
            have Hk := Lib.hid hkind
            clear hkind
            go_wp2
            go_roundw
            case rel =>
              refine ⟨k + R.n, l, by omega, by go_num, (Hown.out.keepAll HS1.out).keepAll ((Same.refl _ _).alloc _), by omega, ?_, (HS.out.trans HS1.out).alloc _⟩
              have := Hgo.out
              rw [if_pos Hk.out, List.append_nil] at this
              exact this
            case measure => simp [intOf]; omega
          · have e2 : ((R.t.kind : Int) != 0) = true := by simp; exact hkind
            have Hk := Lib.hid hkind
            clear hkind
            go_wp2_with (at_builtin; refine stopAt ?_)
            unfold Hid
            refine wpList_appT1 (c := (k, R.t)) rfl (.tmp 32) (.tmp 34) rfl rfl rfl (by simp) ((Hown.out.keepAll HS1.out).keepAll ((Same.refl _ _).alloc _)) (by have := HS1.out.size; simp; omega) (by omega) ?_
            intro v' w2 hown2 hS2
            have Hown2 := Lib.hid hown2
            have HS2 := Lib.hid hS2
            clear hown2 hS2
            go_wp2
            go_roundw
            case rel =>
              refine ⟨k + R.n, l ++ [(k, R.t)], by omega, by go_num, Hown2.out, by simp; omega, ?_, ((HS.out.trans HS1.out).alloc _).trans' HS2.out (fun i hi _ => by omega)⟩
              have := Hgo.out
              rw [if_neg Hk.out] at this
              exact this
            case measure => simp [intOf]; omega
        · have e1 : ((R.e : Int) != 0) = true := by simp; exact he
          have hstep := lexFrom_err (i := k) hne (by rw [← hR]; exact he)
          rw [← hR] at hstep
          rw [hstep] at hgo
          have hr1 : r = (R.e, []) := by rw [hgo]; unfold thenL; rw [if_neg he]
          have Hr1 := Lib.hid hr1
          have He := Lib.hid he
          have HS1 := Lib.hid hS1
          clear hgo hstep hS1 hR hne hr1 he
          go_wp2
          go_ret2
          rw [HK.out, Hr1.out, if_neg He.out]
          exact ⟨_, rfl, OwnT.nil _ _, (HS.out.trans HS1.out).alloc _⟩
      · obtain rfl : k = s.size := by omega
        rw [List.drop_eq_nil_of_le (by rw [Hbl.out]; exact Nat.le_refl _), lexFrom_nil] at hgo
        have hr1 : r = (0, l) := by rw [hgo]; simp [thenL]
        have Hr1 := Lib.hid hr1
        clear hgo hr1
        go_wp2_with (at_builtin; refine stopAt ?_)
        unfold Hid
        refine wpList_appT1 (c := (s.size, ⟨0, [], 0⟩)) rfl (.tmp 39) (.tmp 43) rfl rfl rfl (by simp) Hown.out hsz (by omega) ?_
        intro v' w2 hown2 hS2
        have Hown2 := Lib.hid hown2
        have HS2 := Lib.hid hS2
        clear hown2 hS2
        go_wp2
        go_ret2
        rw [HK.out, Hr1.out]
        exact ⟨_, rfl, Hown2.out, HS.out.trans' HS2.out (fun i hi _ => by omega)⟩
end Go.Proofs.Ytcckifllammpbaa
