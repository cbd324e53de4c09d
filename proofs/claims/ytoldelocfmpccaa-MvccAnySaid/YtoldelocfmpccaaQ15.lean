/-
  The words, plain models and short walks of mvcc that the claims share (written by bundle.py out of: MvA4). No condition.
-/
import Derived.Test.YtoldelocfmpccaaMvA5H
import Derived.Test.YtoldelocfmpccaaQ13
import Derived.Test.YtoldelocfmpccaaMvA1H
set_option linter.unusedSimpArgs false
set_option linter.unusedVariables false
namespace Go.Proofs.Ytoldelocfmpccaa
open Go.RowKit

/-- Cells that may be, and are few. -/
structure Fine (n : Nat) (cs : List Cel) : Prop where
  good : Good cs
  few : Few n cs
section
variable {n : Nat} {cs : List Cel}
theorem Fine.len (h : Fine n cs) (hn : n ≤ 100000 := by omega) : cs.length ≤ 100000 := Nat.le_trans h.few.1 hn
theorem Fine.vers (h : Fine n cs) (hn : n ≤ 100000 := by omega) : ∀ c ∈ cs, c.vers.length ≤ 1000000 := fun c hc => by have := h.few.2 c hc; omega
theorem Fine.sort (h : Fine n cs) : ∀ c ∈ cs, SortV c.vers := fun c hc => (h.good.each c hc).sort
theorem Fine.op (h : Fine n cs) (o : OpT) : Fine (n + 1) (opF cs o) := ⟨opF_good h.good o, opF_few h.good h.few o⟩
theorem Fine.setl (h : Fine n cs) (b : TryT) (y : Bool) : Fine (n + 1) (setlF cs b y) := by
  have := h.op ⟨1, ⟨[], false, []⟩, { Lck.zero with by_ := b }, y⟩
  exact this
theorem Fine.trim (h : Fine n cs) (a : St) : Fine (n + 1) (trimF cs a) := by
  have := h.op ⟨2, ⟨[], false, []⟩, { Lck.zero with at_ := a }, false⟩
  exact this
theorem Fine.lock (h : Fine n cs) (x : Wr) (l : Lck) : Fine (n + 1) (lockF cs x.key (lockW x l)) := by
  have := h.op ⟨0, x, l, false⟩
  exact this
end
theorem run_fine (ops : List OpT) (k : Nat) (hk : k ≤ ops.length) : Fine k (runF (ops.take k)) := ⟨(run_good ops k hk).1, (run_good ops k hk).2⟩
theorem cel_none (w : World) (S : Nat → Prop) : CelR w S (.slice none 0 0) [] := ⟨[], rfl, RowR.nil_ _ _ _ _ (by simp [maxLen]), fun i h => absurd h (Nat.not_lt_zero _)⟩
def bgL : Lck := ⟨⟨1, 0, 0, 0⟩, 0, ⟨5, 0⟩, false, []⟩
def bgW : Wr := ⟨[107], false, [120]⟩
def bgC : List Cel := lockF [] bgW.key (lockW bgW bgL)
def bgD : List Cel := setlF bgC bgL.by_ true
theorem bgC_fine : Fine 1 bgC := Fine.lock (n := 0) ⟨good_nil, by simp [Few]⟩ _ _
theorem bgD_fine : Fine 2 bgD := bgC_fine.setl _ _
theorem bg_get1 : getF bgC [107] ⟨9, 0⟩ = ([], false) := by decide
theorem bg_get2 : getF bgD [107] ⟨5, 0⟩ = ([120], true) := by decide
theorem bg_mine1 : mineF bgC bgL.by_ = true := by decide
theorem bg_mine2 : mineF bgD bgL.by_ = false := by decide
set_option maxHeartbeats 2000000 in
theorem begun_any (w : World) : Calls Try.prog 21 #[] w fun e w' => e = .returned (.bool true) ∧ Same (fun _ => True) w w' := by
  have rl := Row.new w 30 (lckCs bgL)
  have hS1 := (Same.refl (fun _ => True) w).alloc (.cells (lckCs bgL).toArray 30)
  have hgl := fun W => mvlock_any (.slice none 0 0) [] bgW bgL (fun _ => True) W (cel_none _ _) (by simp) (by simp) (by intro i j hi; simp at hi)
  have e1 : wrV bgW = .agg #[.string ⟨#[107]⟩, .bool false, .string ⟨#[120]⟩] := rfl
  have e2 : lckV bgL = .agg #[.int .i64 1, .int .i64 0, .int .i64 0, .int .i64 0, .int .i64 0, .int .i64 5, .int .i64 0, .bool false, .string ⟨#[]⟩] := rfl
  rw [e1, e2] at hgl
  clear e1 e2
  go_enter Try.func21, Try.ntmps21
  go_wp2_with (go_at_call 26; refine stopAt ?_)
  unfold Hid
  have rl : Row (w.alloc (.cells #[.int .i64 1, .int .i64 0, .int .i64 0, .int .i64 0, .int .i64 0, .int .i64 5, .int .i64 0, .bool false, .string ⟨#[]⟩] 30)) w.heap.size 30 [.int .i64 1, .int .i64 0, .int .i64 0, .int .i64 0, .int .i64 0, .int .i64 5, .int .i64 0, .bool false, .string ⟨#[]⟩] := rl
  have hS1 : Same (fun _ => True) w (w.alloc (.cells #[.int .i64 1, .int .i64 0, .int .i64 0, .int .i64 0, .int .i64 0, .int .i64 5, .int .i64 0, .bool false, .string ⟨#[]⟩] 30)) := hS1
  revert rl hS1
  generalize w.alloc (.cells _ 30) = w1
  intro rl hS1
  refine (hgl _).mono ?_
  rintro e w2 ⟨v2, rfl, hown2, hS2⟩
  have hS2' := hS1.trans hS2
  have rl2 := rl.keep hS2 trivial
  have hown2 : OwnC w2 w1.heap.size v2 bgC := hown2
  have Hown2 := Lib.hid hown2
  have HS2 := Lib.hid hS2'
  have RL2 := Lib.hid rl2
  clear hown2 hS2' hS2 hS1 rl rl2 hgl
  go_wp2_with (go_at_call 27; refine stopAt ?_)
  unfold Hid
  have g1 := mvget_any v2 bgC [107] ⟨9, 0⟩ _ w2 Hown2.out.reads bgC_fine.good.sorted (by decide)
  rw [bg_get1] at g1
  refine g1.mono ?_
  rintro e w3 ⟨rfl, hS3⟩
  have rl3 := RL2.out.keep hS3 trivial
  have c0 : w3.cell? ⟨w.heap.size, 0, none⟩ = some (.int .i64 1) := rl3.cell 0
  have c1 : w3.cell? ⟨w.heap.size, 1, none⟩ = some (.int .i64 0) := rl3.cell 1
  have c2 : w3.cell? ⟨w.heap.size, 2, none⟩ = some (.int .i64 0) := rl3.cell 2
  have c3 : w3.cell? ⟨w.heap.size, 3, none⟩ = some (.int .i64 0) := rl3.cell 3
  have hown3 := Hown2.out.keepAll hS3
  have gs := mvsettle_any v2 bgC bgL.by_ true _ w3 hown3.reads bgC_fine.len bgC_fine.vers bgC_fine.sort
  have Hown3 := Lib.hid hown3
  have HS3 := Lib.hid (HS2.out.trans hS3)
  have RL3 := Lib.hid rl3
  clear hS3 rl3 hown3 g1
  go_wp2_with (go_at_call 25; refine stopAt ?_)
  unfold Hid
  refine Calls.mono (show Calls _ _ _ _ (AllP bgD w3) from gs) ?_
  rintro e w4 ⟨v4, rfl, hown4, hS4⟩
  have HS4 := Lib.hid (HS3.out.trans hS4)
  have RL4 := Lib.hid (RL3.out.keep hS4 trivial)
  have Hown2 := Lib.hid (Hown3.out.keepAll hS4)
  have Hown4 := Lib.hid hown4
  clear hown4 hS4 gs c0 c1 c2 c3
  go_wp2_with (go_at_call 27; refine stopAt ?_)
  unfold Hid
  have g1 := mvget_any v4 bgD [107] ⟨5, 0⟩ _ w4 Hown4.out.reads bgD_fine.good.sorted (by decide)
  rw [bg_get2] at g1
  have g1 : Calls Try.prog 27 #[v4, .string (str [107]), stV ⟨5, 0⟩] w4 fun e w' => e = .returned (.tuple #[.string ⟨#[120]⟩, .bool true]) ∧ Same (fun _ => True) w4 w' := g1
  refine g1.mono ?_
  rintro e w5 ⟨rfl, hS5⟩
  have rl5 := RL4.out.keep hS5 trivial
  have c0 : w5.cell? ⟨w.heap.size, 0, none⟩ = some (.int .i64 1) := rl5.cell 0
  have c1 : w5.cell? ⟨w.heap.size, 1, none⟩ = some (.int .i64 0) := rl5.cell 1
  have c2 : w5.cell? ⟨w.heap.size, 2, none⟩ = some (.int .i64 0) := rl5.cell 2
  have c3 : w5.cell? ⟨w.heap.size, 3, none⟩ = some (.int .i64 0) := rl5.cell 3
  have HS5 := Lib.hid (HS4.out.trans hS5)
  have RL5 := Lib.hid rl5
  have Hown2 := Lib.hid (Hown2.out.keepAll hS5)
  have Hown4 := Lib.hid (Hown4.out.keepAll hS5)
  clear hS5 rl5 g1
  have gm1 := mvmine_any v2 bgC bgL.by_ _ w5 Hown2.out.reads (by decide)
  rw [bg_mine1] at gm1
  go_wp2_with (go_at_call 24; refine stopAt ?_)
  unfold Hid
  refine gm1.mono ?_
  rintro e w6 ⟨rfl, hS6⟩
  have rl6 := RL5.out.keep hS6 trivial
  have c0 : w6.cell? ⟨w.heap.size, 0, none⟩ = some (.int .i64 1) := rl6.cell 0
  have c1 : w6.cell? ⟨w.heap.size, 1, none⟩ = some (.int .i64 0) := rl6.cell 1
  have c2 : w6.cell? ⟨w.heap.size, 2, none⟩ = some (.int .i64 0) := rl6.cell 2
  have c3 : w6.cell? ⟨w.heap.size, 3, none⟩ = some (.int .i64 0) := rl6.cell 3
  have HS6 := Lib.hid (HS5.out.trans hS6)
  have Hown4 := Lib.hid (Hown4.out.keepAll hS6)
  clear hS6 rl6 gm1
  have gm2 := mvmine_any v4 bgD bgL.by_ _ w6 Hown4.out.reads (by decide)
  rw [bg_mine2] at gm2
  go_wp2_with (go_at_call 24; refine stopAt ?_)
  unfold Hid
  refine gm2.mono ?_
  rintro e w7 ⟨rfl, hS7⟩
  have HS7 := Lib.hid (HS6.out.trans hS7)
  have Hown4 := Lib.hid (Hown4.out.keepAll hS7)
  clear hS7 gm2
  go_wp2_with (go_at_call 31; refine stopAt ?_)
  unfold Hid
  refine (mvmay_any v4 bgD _ w7 Hown4.out.reads bgD_fine.good bgD_fine.len bgD_fine.vers).mono ?_
  rintro e w8 ⟨rfl, hS8⟩
  have HS8 := Lib.hid (HS7.out.trans hS8)
  clear hS8
  go_wp2
  go_ret
  exact ⟨rfl, HS8.out⟩
end Go.Proofs.Ytoldelocfmpccaa
