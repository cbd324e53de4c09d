/-
  Plain laws of nulls and of three-valued logic; no program in sight.
-/
import Derived.Test.YtakbikibahhepaaExL5
set_option linter.unusedSimpArgs false
set_option linter.unusedVariables false
namespace Go.Proofs.Ytakbikibahhepaa

theorem small_ok : ∀ (e : Ex) (d q : Nat), d + e.deep ≤ 65 → q + e.size ≤ 4096 → smallF e d q = (true, q + e.size) := by
  apply Ex.ind
  intro k s v l ih d q hd hq
  have hl : ∀ l : List Ex, (∀ a ∈ l, ∀ d q : Nat, d + a.deep ≤ 65 → q + a.size ≤ 4096 → smallF a d q = (true, q + a.size)) → ∀ d q : Nat, d + 1 + deepL l ≤ 65 → q + sizeL l ≤ 4096 → smallL l d q = (true, q + sizeL l) := by
    intro l
    induction l with
    | nil => intro _ d q _ _; simp [smallL, sizeL]
    | cons a l ihl =>
      intro h d q hd hq
      simp only [deepL, sizeL] at hd hq ⊢
      rw [smallL, h a (by simp) (d + 1) q (by omega) (by omega)]
      simp only [if_true]
      rw [ihl (fun b hb => h b (by simp [hb])) d _ (by omega) (by omega), Nat.add_assoc]
  simp only [Ex.deep, Ex.size] at hd hq ⊢
  rw [smallF, if_neg (by omega), hl l ih d _ (by omega) (by omega)]
  simp only [Prod.mk.injEq, true_and]
  omega
/-- A tree that is small enough, weighed with a row. -/
def evN (cols : List Clm) (row : List Val) (e : Ex) : Val × Int := if (typedF cols e).2 ≠ 0 then (.zero, (typedF cols e).2) else if mayRowB cols row then evalF cols row e else (.zero, 9)
theorem evalTF_small {cols : List Clm} {row : List Val} {e : Ex} (hd : e.deep ≤ 64) (hs : e.size ≤ 4096) : evalTF cols row e = evN cols row e := by
  unfold evalTF evN typeF
  rw [small_ok e 1 0 (by omega) (by omega)]
  rfl
def opE (s : List UInt8) (l : List Ex) : Ex := .mk 3 s .zero l
theorem typed_opE (cols : List Clm) (s : List UInt8) (l : List Ex) : typedF cols (opE s l) = (match typedL cols l with | .error e => (0, e) | .ok ks => operF (opk s) ks) := by
  unfold opE
  rw [typedF]
  rw [if_neg (by decide), if_neg (by decide), if_pos rfl]
  cases typedL cols l <;> simp
theorem eval_opE (cols : List Clm) (row : List Val) (s : List UInt8) (l : List Ex) : evalF cols row (opE s l) = (match evalL cols row l with | .error e => (.zero, e) | .ok vs => doesF (opk s) vs) := by
  unfold opE
  rw [evalF]
  rw [if_neg (by decide), if_neg (by decide)]
  cases evalL cols row l <;> rfl
def nullE : Ex := .mk 1 [] .zero []
theorem typed_nullE (cols : List Clm) : typedF cols nullE = (0, 0) := by unfold nullE; rw [typedF]; simp [mayV, Val.zero]
theorem eval_nullE (cols : List Clm) (row : List Val) : evalF cols row nullE = (.zero, 0) := by unfold nullE; rw [evalF]; simp
def sumO (o : Opk) : Bool := cmpO o || (arithB o && decide (argsF o = 2))
theorem does_null {o : Opk} (h : sumO o = true) (a : Val) : doesF o [a, .zero] = (.zero, 0) ∧ doesF o [.zero, a] = (.zero, 0) := by
  cases o <;> first | (simp [sumO, cmpO, arithB, argsF] at h; done) | exact ⟨by simp [doesF, Val.zero], by simp [doesF, Val.zero]⟩
theorem oper_null {o : Opk} (h : sumO o = true) (k : Int) : operF o [k, 0] = operF o [0, k] := by
  cases o <;> first | (simp [sumO, cmpO, arithB, argsF] at h; done) | simp [operF, kAll, pairB, Bool.and_comm, Bool.or_comm, eq_comm]
/-- What ExprNull needs of its six values. -/
structure NullFacts (V W N X Y Z : Val × Int) : Prop where
  f : W.2 = V.2
  g : N.2 = V.2
  i : Y.2 = X.2
  j : Z.2 = X.2
  nul : V.2 = 0 → V.1 = .zero ∧ W.1 = .zero ∧ isTrue N.1 = true
  tell : X.2 = 0 → isTrue Y.1 = decide (X.1.kind = 0) ∧ isTrue Z.1 = !decide (X.1.kind = 0)
theorem null_core (cols : List Clm) (row : List Val) (a : Ex) (s : List UInt8) (hs : sumO (opk s) = true) :
    NullFacts (evN cols row (opE s [a, nullE])) (evN cols row (opE s [nullE, a])) (evN cols row (opE [73, 83, 78, 85, 76, 76] [opE s [a, nullE]])) (evN cols row a) (evN cols row (opE [73, 83, 78, 85, 76, 76] [a])) (evN cols row (opE [78, 79, 84, 78, 85, 76, 76] [a])) := by
  have hk1 : opk [73, 83, 78, 85, 76, 76] = .isnull := rfl
  have hk2 : opk [78, 79, 84, 78, 85, 76, 76] = .notnull := rfl
  by_cases ht : (typedF cols a).2 = 0
  · have t1 : typedF cols (opE s [a, nullE]) = operF (opk s) [(typedF cols a).1, 0] := by rw [typed_opE]; simp [typedL, ht, typed_nullE]
    have t2 : typedF cols (opE s [nullE, a]) = operF (opk s) [(typedF cols a).1, 0] := by rw [typed_opE, oper_null hs]; simp [typedL, ht, typed_nullE]
    have t4 : typedF cols (opE [73, 83, 78, 85, 76, 76] [a]) = (1, 0) := by rw [typed_opE, hk1]; simp [typedL, ht, operF, toldF]
    have t5 : typedF cols (opE [78, 79, 84, 78, 85, 76, 76] [a]) = (1, 0) := by rw [typed_opE, hk2]; simp [typedL, ht, operF, toldF]
    have t3 : (typedF cols (opE [73, 83, 78, 85, 76, 76] [opE s [a, nullE]])).2 = (operF (opk s) [(typedF cols a).1, 0]).2 := by
      rw [typed_opE, hk1]
      generalize operF (opk s) [(typedF cols a).1, 0] = O at t1
      by_cases h0 : O.2 = 0
      · have tl : typedL cols [opE s [a, nullE]] = .ok [O.1] := by simp [typedL, t1, h0]
        rw [tl, h0]
        rfl
      · have tl : typedL cols [opE s [a, nullE]] = .error O.2 := by simp [typedL, t1, h0]
        rw [tl]
    obtain ⟨O, hO⟩ : ∃ O, operF (opk s) [(typedF cols a).1, 0] = O := ⟨_, rfl⟩
    rw [hO] at t1 t2 t3
    cases hr : mayRowB cols row
    · have e1 : ∀ e, evN cols row e = (.zero, if (typedF cols e).2 ≠ 0 then (typedF cols e).2 else 9) := fun e => by unfold evN; rw [hr]; split <;> simp
      have n9 : ∀ {x : Int}, ¬ (if x ≠ 0 then x else 9) = 0 := fun {x} => by split <;> simp_all
      simp only [e1, t1, t2, t3, t4, t5, ht]
      exact ⟨rfl, rfl, rfl, rfl, fun h => absurd h (by show ¬ (if O.2 ≠ 0 then O.2 else 9) = 0; exact n9), fun h => absurd h (by show ¬ (if (0 : Int) ≠ 0 then (0 : Int) else 9) = 0; exact n9)⟩
    · have e1 : ∀ e, evN cols row e = if (typedF cols e).2 ≠ 0 then (.zero, (typedF cols e).2) else evalF cols row e := fun e => by unfold evN; rw [hr]; simp
      have hd := does_null hs (evalF cols row a).1
      by_cases he : (evalF cols row a).2 = 0
      · have v1 : evalF cols row (opE s [a, nullE]) = (.zero, 0) := by rw [eval_opE]; simp [evalL, he, eval_nullE, hd.1]
        have v2 : evalF cols row (opE s [nullE, a]) = (.zero, 0) := by rw [eval_opE]; simp [evalL, he, eval_nullE, hd.2]
        have v3 : evalF cols row (opE [73, 83, 78, 85, 76, 76] [opE s [a, nullE]]) = (truthV true, 0) := by rw [eval_opE, hk1]; simp [evalL, v1, doesF, Val.zero]
        have v4 : evalF cols row (opE [73, 83, 78, 85, 76, 76] [a]) = (truthV (decide ((evalF cols row a).1.kind = 0)), 0) := by rw [eval_opE, hk1]; simp [evalL, he, doesF]
        have v5 : evalF cols row (opE [78, 79, 84, 78, 85, 76, 76] [a]) = (truthV (decide ((evalF cols row a).1.kind ≠ 0)), 0) := by rw [eval_opE, hk2]; simp [evalL, he, doesF]
        have x4 : evN cols row (opE [73, 83, 78, 85, 76, 76] [a]) = (truthV (decide ((evalF cols row a).1.kind = 0)), 0) := by rw [e1, t4, v4]; simp
        have x5 : evN cols row (opE [78, 79, 84, 78, 85, 76, 76] [a]) = (truthV (decide ((evalF cols row a).1.kind ≠ 0)), 0) := by rw [e1, t5, v5]; simp
        have x0 : evN cols row a = evalF cols row a := by rw [e1, ht]; simp
        have tell : isTrue (truthV (decide ((evalF cols row a).1.kind = 0))) = decide ((evalF cols row a).1.kind = 0) ∧ isTrue (truthV (decide ((evalF cols row a).1.kind ≠ 0))) = !decide ((evalF cols row a).1.kind = 0) := by
          rw [isTrue_truth, isTrue_truth]; simp
        by_cases h0 : O.2 = 0
        · have x1 : evN cols row (opE s [a, nullE]) = (.zero, 0) := by rw [e1, t1, v1]; simp [h0]
          have x2 : evN cols row (opE s [nullE, a]) = (.zero, 0) := by rw [e1, t2, v2]; simp [h0]
          have x3 : evN cols row (opE [73, 83, 78, 85, 76, 76] [opE s [a, nullE]]) = (truthV true, 0) := by rw [e1, t3, v3]; simp [h0]
          rw [x0, x1, x2, x3, x4, x5]
          exact ⟨rfl, rfl, he.symm, he.symm, fun _ => ⟨rfl, rfl, rfl⟩, fun _ => tell⟩
        · have x1 : evN cols row (opE s [a, nullE]) = (.zero, O.2) := by rw [e1, t1]; simp [h0]
          have x2 : evN cols row (opE s [nullE, a]) = (.zero, O.2) := by rw [e1, t2]; simp [h0]
          have x3 : evN cols row (opE [73, 83, 78, 85, 76, 76] [opE s [a, nullE]]) = (.zero, O.2) := by rw [e1, t3]; simp [h0]
          rw [x0, x1, x2, x3, x4, x5]
          exact ⟨rfl, rfl, he.symm, he.symm, fun h => absurd h h0, fun _ => tell⟩
      · have v1 : evalF cols row (opE s [a, nullE]) = (.zero, (evalF cols row a).2) := by rw [eval_opE]; simp [evalL, he]
        have v2 : evalF cols row (opE s [nullE, a]) = (.zero, (evalF cols row a).2) := by rw [eval_opE]; simp [evalL, he, eval_nullE]
        have v3 : evalF cols row (opE [73, 83, 78, 85, 76, 76] [opE s [a, nullE]]) = (.zero, (evalF cols row a).2) := by rw [eval_opE]; simp [evalL, v1, he]
        have v4 : evalF cols row (opE [73, 83, 78, 85, 76, 76] [a]) = (.zero, (evalF cols row a).2) := by rw [eval_opE]; simp [evalL, he]
        have v5 : evalF cols row (opE [78, 79, 84, 78, 85, 76, 76] [a]) = (.zero, (evalF cols row a).2) := by rw [eval_opE]; simp [evalL, he]
        have x4 : evN cols row (opE [73, 83, 78, 85, 76, 76] [a]) = (.zero, (evalF cols row a).2) := by rw [e1, t4, v4]; simp
        have x5 : evN cols row (opE [78, 79, 84, 78, 85, 76, 76] [a]) = (.zero, (evalF cols row a).2) := by rw [e1, t5, v5]; simp
        have x0 : evN cols row a = evalF cols row a := by rw [e1, ht]; simp
        have x1 : evN cols row (opE s [a, nullE]) = (.zero, if O.2 ≠ 0 then O.2 else (evalF cols row a).2) := by rw [e1, t1, v1]; split <;> rfl
        have x2 : evN cols row (opE s [nullE, a]) = (.zero, if O.2 ≠ 0 then O.2 else (evalF cols row a).2) := by rw [e1, t2, v2]; split <;> rfl
        have x3 : evN cols row (opE [73, 83, 78, 85, 76, 76] [opE s [a, nullE]]) = (.zero, if O.2 ≠ 0 then O.2 else (evalF cols row a).2) := by rw [e1, t3, v3]; split <;> rfl
        have n9 : ¬ (if O.2 ≠ 0 then O.2 else (evalF cols row a).2) = 0 := by split <;> simp_all
        rw [x0, x1, x2, x3, x4, x5]
        exact ⟨rfl, rfl, rfl, rfl, fun h => absurd h n9, fun h => absurd h he⟩
  · have bad : ∀ s' l, typedL cols l = .error (typedF cols a).2 → evN cols row (opE s' l) = (.zero, (typedF cols a).2) ∧ typedF cols (opE s' l) = (0, (typedF cols a).2) := fun s' l h => by
      have h1 : typedF cols (opE s' l) = (0, (typedF cols a).2) := by rw [typed_opE, h]
      exact ⟨by unfold evN; rw [h1]; simp [ht], h1⟩
    have b1 := bad s [a, nullE] (by simp [typedL, ht])
    have b2 := bad s [nullE, a] (by simp [typedL, ht, typed_nullE])
    have b3 := bad [73, 83, 78, 85, 76, 76] [opE s [a, nullE]] (by simp [typedL, b1.2, ht])
    have b4 := bad [73, 83, 78, 85, 76, 76] [a] (by simp [typedL, ht])
    have b5 := bad [78, 79, 84, 78, 85, 76, 76] [a] (by simp [typedL, ht])
    have x0 : (evN cols row a).2 = (typedF cols a).2 := by unfold evN; rw [if_pos ht]
    rw [b1.1, b2.1, b3.1, b4.1, b5.1]
    exact ⟨rfl, rfl, x0.symm, x0.symm, fun h => absurd h ht, fun h => absurd (x0.symm.trans h) ht⟩
theorem null_facts (cols : List Clm) (row : List Val) (a : Ex) (s : List UInt8) (hs : sumO (opk s) = true) (hd : a.deep ≤ 50) (hz : a.size ≤ 100) :
    NullFacts (evalTF cols row (opE s [a, nullE])) (evalTF cols row (opE s [nullE, a])) (evalTF cols row (opE [73, 83, 78, 85, 76, 76] [opE s [a, nullE]])) (evalTF cols row a) (evalTF cols row (opE [73, 83, 78, 85, 76, 76] [a])) (evalTF cols row (opE [78, 79, 84, 78, 85, 76, 76] [a])) := by
  have d : nullE.deep = 1 ∧ nullE.size = 1 := ⟨rfl, rfl⟩
  rw [evalTF_small (e := opE s [a, nullE]), evalTF_small (e := opE s [nullE, a]), evalTF_small (e := opE [73, 83, 78, 85, 76, 76] [opE s [a, nullE]]), evalTF_small (e := a), evalTF_small (e := opE [73, 83, 78, 85, 76, 76] [a]), evalTF_small (e := opE [78, 79, 84, 78, 85, 76, 76] [a])]
  · exact null_core cols row a s hs
  all_goals first
    | omega
    | (simp only [opE, Ex.deep, Ex.size, deepL, sizeL, d.1, d.2]; omega)
end Go.Proofs.Ytakbikibahhepaa
