/-
  Plain laws of kinds: a value that there is has the kind that was told, or is null; no program in sight.
-/
import Derived.Test.YtakbikibahhepaaExL1
set_option linter.unusedSimpArgs false
set_option linter.unusedVariables false
namespace Go.Proofs.Ytakbikibahhepaa

theorem told_err {m s : Bool} {k : Int} (h : (toldF m s k).2 ≠ 0) : (toldF m s k).1 = 0 := by
  unfold toldF at h ⊢
  split
  · rfl
  · split
    · rfl
    · rename_i h1 h2; simp [h1, h2] at h
theorem oper_err {o : Opk} {l : List Int} (h : (operF o l).2 ≠ 0) : (operF o l).1 = 0 := by
  cases o <;> first | rfl | exact told_err h
theorem typed_err (cols : List Clm) (e : Ex) (h : (typedF cols e).2 ≠ 0) : (typedF cols e).1 = 0 := by
  rw [typedF_eq] at h ⊢
  split
  · rename_i h1
    rw [if_pos h1] at h
    split
    · rfl
    · rename_i h2; rw [if_neg h2] at h; exact absurd rfl h
  · rename_i h1
    rw [if_neg h1] at h
    split
    · rename_i h2
      rw [if_pos h2] at h
      cases hc : colF cols e.s with
      | none => rfl
      | some i =>
        rw [hc] at h
        simp only at h ⊢
        split
        · rfl
        · rename_i h3; rw [if_neg h3] at h; exact absurd rfl h
    · rename_i h2
      rw [if_neg h2] at h
      split
      · rename_i h3
        rw [if_pos h3] at h
        unfold typR at h ⊢
        cases ht : typedL cols e.args with
        | error x => rfl
        | ok ks =>
          rw [ht] at h
          simp only at h ⊢
          unfold opFin at h ⊢
          split
          · rfl
          · rename_i h4; rw [if_neg h4] at h; exact oper_err h
      · rfl
theorem type_err (cols : List Clm) (e : Ex) (h : (typeF cols e).2 ≠ 0) : (typeF cols e).1 = 0 := by
  unfold typeF at h ⊢
  split
  · rename_i h1; rw [if_pos h1] at h; exact typed_err cols e h
  · rfl
/-- A value of a kind, or null. -/
def OfK (k : Int) (v : Val) : Prop := (v.kind = k ∨ v.kind = 0) ∧ mayV v = true
theorem OfK.zero (k : Int) : OfK k .zero := ⟨.inr rfl, rfl⟩
theorem OfK.truth (b : Bool) : OfK 1 (truthV b) := ⟨.inl rfl, by cases b <;> rfl⟩
/-- What an evaluation may be, when the kind is told. -/
def EvK (k : Int) (r : Val × Int) : Prop := (r.2 = 0 ∧ OfK k r.1) ∨ (r.1 = .zero ∧ (r.2 = 5 ∨ r.2 = 17))
theorem EvK.num {r : Int × Int} (h : r.2 = 0 ∨ r.2 = 5 ∨ r.2 = 17) : EvK 2 (numF r) := by
  unfold numF
  split
  · rename_i h1
    rcases h with h | h
    · exact absurd h h1
    · exact .inr ⟨rfl, h⟩
  · exact .inl ⟨rfl, .inl rfl, rfl⟩
theorem fit_err (n : Int) : (fitF n).2 = 0 ∨ (fitF n).2 = 5 ∨ (fitF n).2 = 17 := by unfold fitF; split <;> simp
theorem reck_err (o : Opk) (a b : Int) : (reckF o a b).2 = 0 ∨ (reckF o a b).2 = 5 ∨ (reckF o a b).2 = 17 := by
  unfold reckF
  split
  · exact fit_err _
  · exact fit_err _
  · exact fit_err _
  · split <;> simp
  · split
    · simp
    · exact fit_err _
theorem told_ok {m s : Bool} {k : Int} (h : (toldF m s k).2 = 0) : m = true ∧ s = true ∧ (toldF m s k).1 = k := by
  unfold toldF at h ⊢
  cases m <;> cases s <;> simp at h ⊢
theorem both_ofk {wins : Int} {a b : Val} (ha : OfK 1 a) (hb : OfK 1 b) : OfK 1 (bothF wins a b) := by
  unfold bothF
  split
  · exact ha
  · split
    · exact hb
    · split
      · exact .zero 1
      · exact .truth _
theorem ofk_all {k j : Int} {a : Val} (h : OfK k a) (hk : (decide (k = j) || decide (k = 0)) = true) : OfK j a := by
  simp only [Bool.or_eq_true, decide_eq_true_eq] at hk
  obtain ⟨h3, h4⟩ := h
  refine ⟨?_, h4⟩
  rcases h3 with h3 | h3
  · rcases hk with h5 | h5
    · exact .inl (h3.trans h5)
    · exact .inr (h3.trans h5)
  · exact .inr h3
theorem does_kind1 {o : Opk} {k : Int} {a : Val} (h : (operF o [k]).2 = 0) (ha : OfK k a) : EvK (operF o [k]).1 (doesF o [a]) := by
  have un : ∀ {x : Val × Int} {j : Int}, EvK j x → EvK j (if a.kind = 0 then (.zero, 0) else x) := fun hx => by
    split
    · exact .inl ⟨rfl, .zero _⟩
    · exact hx
  cases o
  case isnull => exact .inl ⟨rfl, .truth _⟩
  case notnull => exact .inl ⟨rfl, .truth _⟩
  case not_ =>
    obtain ⟨_, _, e⟩ := told_ok (show (toldF (decide ([k].length = 1)) (kAll [k] 1) 1).2 = 0 from h)
    show EvK (toldF (decide ([k].length = 1)) (kAll [k] 1) 1).1 _
    rw [e]
    exact un (.inl ⟨rfl, .truth _⟩)
  case neg =>
    obtain ⟨_, _, e⟩ := told_ok (show (toldF (decide ([k].length = 1)) (kAll [k] 2) 2).2 = 0 from h)
    show EvK (toldF (decide ([k].length = 1)) (kAll [k] 2) 2).1 _
    rw [e]
    exact un (.num (fit_err _))
  all_goals (simp [operF, toldF] at h)
theorem does_kind2 {o : Opk} {k j : Int} {a b : Val} (h : (operF o [k, j]).2 = 0) (ha : OfK k a) (hb : OfK j b) : EvK (operF o [k, j]).1 (doesF o [a, b]) := by
  have bi : ∀ {x : Val × Int} {m : Int}, EvK m x → EvK m (if a.kind = 0 ∨ b.kind = 0 then (.zero, 0) else x) := fun hx => by
    split
    · exact .inl ⟨rfl, .zero _⟩
    · exact hx
  have lg : ∀ {w : Int}, (toldF (decide ([k, j].length = 2)) (kAll [k, j] 1) 1).2 = 0 → EvK (toldF (decide ([k, j].length = 2)) (kAll [k, j] 1) 1).1 (bothF w a b, 0) := fun h => by
    obtain ⟨_, hs, e⟩ := told_ok h
    rw [e]
    simp only [kAll, List.all_cons, List.all_nil, Bool.and_true, Bool.and_eq_true] at hs
    exact .inl ⟨rfl, both_ofk (ofk_all ha hs.1) (ofk_all hb hs.2)⟩
  have ar : ∀ {o : Opk}, (toldF (decide ([k, j].length = 2)) (kAll [k, j] 2) 2).2 = 0 → EvK (toldF (decide ([k, j].length = 2)) (kAll [k, j] 2) 2).1 (if a.kind = 0 ∨ b.kind = 0 then (.zero, 0) else numF (reckF o a.n b.n)) := fun h => by
    obtain ⟨_, _, e⟩ := told_ok h
    rw [e]
    exact bi (.num (reck_err _ _ _))
  have cm : ∀ {o : Opk}, (toldF (decide ([k, j].length = 2)) (pairB [k, j]) 1).2 = 0 → EvK (toldF (decide ([k, j].length = 2)) (pairB [k, j]) 1).1 (if a.kind = 0 ∨ b.kind = 0 then (.zero, 0) else (truthV (holdsF o (cmpV a b)), 0)) := fun h => by
    obtain ⟨_, _, e⟩ := told_ok h
    rw [e]
    exact bi (.inl ⟨rfl, .truth _⟩)
  cases o
  case or_ => exact lg h
  case and_ => exact lg h
  case add => exact ar h
  case sub => exact ar h
  case mul => exact ar h
  case div => exact ar h
  case mod => exact ar h
  case eq => exact cm h
  case ne => exact cm h
  case lt => exact cm h
  case le => exact cm h
  case gt => exact cm h
  case ge => exact cm h
  all_goals (simp [operF, toldF] at h)
theorem does_kind {o : Opk} {ks : List Int} {vs : List Val} (h : (operF o ks).2 = 0) (hl : vs.length = ks.length) (hv : ∀ i (h : i < ks.length) (h' : i < vs.length), OfK ks[i] vs[i]) : EvK (operF o ks).1 (doesF o vs) := by
  obtain ⟨hlen, hno⟩ := oper_len h
  have h12 : ks.length = 1 ∨ ks.length = 2 := by
    rw [hlen]
    cases o <;> first | exact absurd rfl hno | exact .inl rfl | exact .inr rfl
  rcases h12 with h1 | h1
  · match ks, vs, h1, hl with
    | [k], [a], _, _ => exact does_kind1 h (hv 0 (by simp) (by simp))
  · match ks, vs, h1, hl with
    | [k, j], [a, b], _, _ => exact does_kind2 h (hv 0 (by simp) (by simp)) (hv 1 (by simp) (by simp))
theorem evalL_kinds {cols : List Clm} {row : List Val} : ∀ {l : List Ex} {ks : List Int}, typedL cols l = .ok ks → (∀ a ∈ l, (typedF cols a).2 = 0 → EvK (typedF cols a).1 (evalF cols row a)) →
    (∃ x, evalL cols row l = .error x ∧ (x = 5 ∨ x = 17)) ∨ ∃ vs, evalL cols row l = .ok vs ∧ vs.length = ks.length ∧ ∀ i (h : i < ks.length) (h' : i < vs.length), OfK ks[i] vs[i]
  | [], ks, h, _ => by
    simp only [typedL] at h; injection h with h; subst h
    exact .inr ⟨[], rfl, rfl, fun i h => absurd h (Nat.not_lt_zero _)⟩
  | a :: l, ks, h, ha => by
    simp only [typedL] at h
    split at h
    · cases h
    · rename_i h0
      have h0 : (typedF cols a).2 = 0 := by simpa using h0
      cases ht : typedL cols l with
      | error x => rw [ht] at h; cases h
      | ok ks' =>
        rw [ht] at h
        injection h with h
        subst h
        simp only [evalL]
        rcases ha a (by simp) h0 with ⟨h1, h2⟩ | ⟨h1, h2⟩
        · rw [if_neg (by simp [h1])]
          rcases evalL_kinds ht (fun b hb => ha b (by simp [hb])) with ⟨x, hx, hx2⟩ | ⟨vs, hvs, hl, hk⟩
          · left; exact ⟨x, by rw [hx], hx2⟩
          · right
            refine ⟨(evalF cols row a).1 :: vs, by rw [hvs], by simp [hl], fun i hi hi' => ?_⟩
            cases i with
            | zero => exact h2
            | succ i => exact hk i (by simpa using hi) (by simpa using hi')
        · left
          have hne : (evalF cols row a).2 ≠ 0 := by rcases h2 with h2 | h2 <;> rw [h2] <;> decide
          exact ⟨_, by rw [if_pos hne], h2⟩
theorem row_ofk {cols : List Clm} {row : List Val} (h : mayRowB cols row = true) {i : Nat} (hi : i < cols.length) : ∃ hr : i < row.length, OfK cols[i].kind row[i] := by
  unfold mayRowB at h
  simp only [Bool.and_eq_true, decide_eq_true_eq] at h
  obtain ⟨hl, ha⟩ := h
  have hr : i < row.length := by omega
  refine ⟨hr, ?_⟩
  have hz : i < (row.zip cols).length := by simp; omega
  have := List.all_eq_true.1 ha _ (List.getElem_mem hz)
  simp only [List.getElem_zip, Bool.and_eq_true, Bool.or_eq_true, decide_eq_true_eq] at this
  exact ⟨this.2, this.1⟩
theorem eval_kind {cols : List Clm} {row : List Val} (hrow : mayRowB cols row = true) : ∀ e : Ex, (typedF cols e).2 = 0 → EvK (typedF cols e).1 (evalF cols row e) := by
  apply Ex.ind
  intro k s v l ih h
  by_cases h1 : k = 1
  · subst h1
    rw [typedF, if_pos rfl] at h ⊢
    rw [evalF, if_pos rfl]
    split at h
    · cases h
    · rename_i hn
      rw [if_neg hn]
      exact .inl ⟨rfl, .inl rfl, by
        cases hm : mayV v
        · exact absurd (.inr (.inr hm)) hn
        · rfl⟩
  · by_cases h2 : k = 2
    · subst h2
      rw [typedF, if_neg (by decide), if_pos rfl] at h ⊢
      rw [evalF, if_neg (by decide), if_pos rfl]
      cases hc : colF cols s with
      | none => rw [hc] at h; cases h
      | some i =>
        rw [hc] at h
        simp only at h ⊢
        split at h
        · cases h
        · rename_i hn
          rw [if_neg hn]
          have hi := colF_lt hc
          obtain ⟨hr, hk⟩ := row_ofk hrow hi
          rw [Option.getD_some, List.getElem?_eq_getElem hr, List.getElem?_eq_getElem hi]
          exact .inl ⟨rfl, hk⟩
    · obtain ⟨h3, hv, ks, hks, hF⟩ := typed_op h1 h2 h
      rw [hF] at h ⊢
      rw [evalF, if_neg h1, if_neg h2]
      rcases evalL_kinds (row := row) hks ih with ⟨x, hx, hx2⟩ | ⟨vs, hvs, hl, hk⟩
      · rw [hx]; exact .inr ⟨rfl, hx2⟩
      · rw [hvs]; exact does_kind h hl hk
/-- What ExprKinds needs. -/
def KindFacts (r : Int × Int) (v : Val × Int) : Prop :=
  (r.2 ≠ 0 → v.2 = r.2 ∧ r.1 = 0 ∧ v.1 = .zero) ∧ (r.2 = 0 → (v.2 = 0 ∧ (v.1.kind = r.1 ∨ v.1.kind = 0)) ∨ (v.1 = .zero ∧ (v.2 = 9 ∨ v.2 = 5 ∨ v.2 = 17)))
theorem kind_facts (cols : List Clm) (row : List Val) (e : Ex) : KindFacts (typeF cols e) (evalTF cols row e) := by
  refine ⟨fun h => ⟨?_, type_err cols e h, ?_⟩, fun h => ?_⟩
  · unfold evalTF; rw [if_pos h]
  · unfold evalTF; rw [if_pos h]
  · unfold evalTF
    rw [if_neg (by simp [h])]
    cases hr : mayRowB cols row
    · right; exact ⟨rfl, .inl rfl⟩
    · rw [if_pos rfl]
      unfold typeF at h ⊢
      split at h
      · rename_i hs
        rw [if_pos hs]
        rcases eval_kind hr e h with ⟨h1, h2, _⟩ | ⟨h1, h2⟩
        · exact .inl ⟨h1, h2⟩
        · exact .inr ⟨h1, .inr h2⟩
      · cases h
end Go.Proofs.Ytakbikibahhepaa
