/-
  Plain laws of three-valued logic; no program in sight.
-/
import Derived.Test.YtakbikibahhepaaExL8
set_option linter.unusedSimpArgs false
set_option linter.unusedVariables false
namespace Go.Proofs.Ytakbikibahhepaa

/-- What a tree is for a logic operator: a truth of three, or nothing. -/
def lgF (cols : List Clm) (row : List Val) (e : Ex) : Option Val :=
  if (typedF cols e).2 = 0 ∧ ((typedF cols e).1 = 1 ∨ (typedF cols e).1 = 0) ∧ mayRowB cols row = true ∧ (evalF cols row e).2 = 0 then some (evalF cols row e).1 else none
theorem lg_val {cols : List Clm} {row : List Val} {e : Ex} {v : Val} (h : lgF cols row e = some v) : v = .zero ∨ v = truthV false ∨ v = truthV true := by
  unfold lgF at h
  split at h
  · rename_i hc
    obtain ⟨h1, h2, h3, h4⟩ := hc
    injection h with h
    subst h
    rcases eval_kind h3 e h1 with ⟨_, hk, hm⟩ | ⟨hz, _⟩
    · generalize (evalF cols row e).1 = x at hk hm ⊢
      obtain ⟨k, n, s⟩ := x
      have hk : k = 1 ∨ k = 0 := by
        rcases hk with hk | hk
        · rcases h2 with h2 | h2
          · exact .inl (hk.trans h2)
          · exact .inr (hk.trans h2)
        · exact .inr hk
      rcases hk with rfl | rfl
      · have e : mayV ⟨1, n, s⟩ = ((decide (n = 0) || decide (n = 1)) && decide (s = [])) := rfl
        rw [e] at hm
        simp only [Bool.and_eq_true, Bool.or_eq_true, decide_eq_true_eq] at hm
        obtain ⟨hn, rfl⟩ := hm
        rcases hn with rfl | rfl
        · exact .inr (.inl rfl)
        · exact .inr (.inr rfl)
      · have e : mayV ⟨0, n, s⟩ = (decide (n = 0) && decide (s = [])) := rfl
        rw [e] at hm
        simp only [Bool.and_eq_true, decide_eq_true_eq] at hm
        obtain ⟨rfl, rfl⟩ := hm
        exact .inl rfl
    · exact .inl hz
  · cases h
def lgO (o : Opk) : Bool := match o with | .or_ | .and_ => true | _ => false
theorem lg_not (cols : List Clm) (row : List Val) (a : Ex) : lgF cols row (opE [78, 79, 84] [a]) = (lgF cols row a).map fun v => (doesF .not_ [v]).1 := by
  have hk : opk [78, 79, 84] = .not_ := rfl
  have d0 : ∀ v : Val, (doesF .not_ [v]).2 = 0 := fun v => by simp only [doesF]; split <;> rfl
  unfold lgF
  rw [typed_opE, eval_opE, hk]
  by_cases h1 : (typedF cols a).2 = 0
  · have t : typedL cols [a] = .ok [(typedF cols a).1] := by simp [typedL, h1]
    rw [t]
    by_cases h2 : (typedF cols a).1 = 1 ∨ (typedF cols a).1 = 0
    · have o : operF .not_ [(typedF cols a).1] = (1, 0) := by
        simp only [operF, toldF, kAll]
        rcases h2 with h2 | h2 <;> simp [h2]
      simp only [o]
      by_cases h4 : (evalF cols row a).2 = 0
      · have v : evalL cols row [a] = .ok [(evalF cols row a).1] := by simp [evalL, h4]
        rw [v]
        cases h3 : mayRowB cols row <;> simp [h1, h2, h4, d0]
      · have v : evalL cols row [a] = .error (evalF cols row a).2 := by simp [evalL, h4]
        rw [v]
        simp [h4]
    · have kf : kAll [(typedF cols a).1] 1 = false := by simp only [kAll, List.all_cons, List.all_nil, Bool.and_true]; simpa using h2
      have o : (operF .not_ [(typedF cols a).1]).2 ≠ 0 := by
        show (toldF true (kAll [(typedF cols a).1] 1) 1).2 ≠ 0
        rw [kf]; decide
      simp only [o, h2, false_and, and_false, if_false, Option.map_none]
  · have t : typedL cols [a] = .error (typedF cols a).2 := by simp [typedL, h1]
    rw [t]
    simp [h1]
theorem lg_two (cols : List Clm) (row : List Val) (s : List UInt8) (hs : lgO (opk s) = true) (a b : Ex) : lgF cols row (opE s [a, b]) = (lgF cols row a).bind fun v => (lgF cols row b).map fun u => (doesF (opk s) [v, u]).1 := by
  have d0 : ∀ v u : Val, (doesF (opk s) [v, u]).2 = 0 := fun v u => by cases ho : opk s <;> rw [ho] at hs <;> first | rfl | (simp [lgO] at hs)
  have op : ∀ k j, operF (opk s) [k, j] = toldF true (kAll [k, j] 1) 1 := fun k j => by cases ho : opk s <;> rw [ho] at hs <;> first | rfl | (simp [lgO] at hs)
  unfold lgF
  rw [typed_opE, eval_opE]
  by_cases h1 : (typedF cols a).2 = 0
  · by_cases g1 : (typedF cols b).2 = 0
    · have t : typedL cols [a, b] = .ok [(typedF cols a).1, (typedF cols b).1] := by simp [typedL, h1, g1]
      rw [t]
      simp only [op]
      by_cases h2 : (typedF cols a).1 = 1 ∨ (typedF cols a).1 = 0
      · by_cases g2 : (typedF cols b).1 = 1 ∨ (typedF cols b).1 = 0
        · have o : toldF true (kAll [(typedF cols a).1, (typedF cols b).1] 1) 1 = (1, 0) := by
            simp only [toldF, kAll]
            rcases h2 with h2 | h2 <;> rcases g2 with g2 | g2 <;> simp [h2, g2]
          simp only [o]
          by_cases h4 : (evalF cols row a).2 = 0
          · by_cases g4 : (evalF cols row b).2 = 0
            · have v : evalL cols row [a, b] = .ok [(evalF cols row a).1, (evalF cols row b).1] := by simp [evalL, h4, g4]
              rw [v]
              cases h3 : mayRowB cols row <;> simp [h1, h2, h4, g1, g2, g4, d0]
            · have v : evalL cols row [a, b] = .error (evalF cols row b).2 := by simp [evalL, h4, g4]
              rw [v]
              simp [g4]
          · have v : evalL cols row [a, b] = .error (evalF cols row a).2 := by simp [evalL, h4]
            rw [v]
            simp [h4]
        · have kf : kAll [(typedF cols a).1, (typedF cols b).1] 1 = false := by
            simp only [kAll, List.all_cons, List.all_nil, Bool.and_true, Bool.and_eq_false_iff]
            right; simpa using g2
          have o : (toldF true (kAll [(typedF cols a).1, (typedF cols b).1] 1) 1).2 ≠ 0 := by rw [kf]; decide
          simp [o, g2]
      · have kf : kAll [(typedF cols a).1, (typedF cols b).1] 1 = false := by
          simp only [kAll, List.all_cons, List.all_nil, Bool.and_true, Bool.and_eq_false_iff]
          left; simpa using h2
        have o : (toldF true (kAll [(typedF cols a).1, (typedF cols b).1] 1) 1).2 ≠ 0 := by rw [kf]; decide
        simp [o, h2]
    · have t : typedL cols [a, b] = .error (typedF cols b).2 := by simp [typedL, h1, g1]
      rw [t]
      simp [g1]
  · have t : typedL cols [a, b] = .error (typedF cols a).2 := by simp [typedL, h1]
    rw [t]
    simp [h1]
/-- A tree under a logic operator has the kind of truths, if it has one. -/
theorem lg_kind {cols : List Clm} {s : List UInt8} {l : List Ex} (hs : logicB (opk s) = true) (h : (typedF cols (opE s l)).2 = 0) : (typedF cols (opE s l)).1 = 1 := by
  rw [typed_opE] at h ⊢
  cases hl : typedL cols l with
  | error e => rw [hl] at h; exact absurd h (typedL_err l e hl)
  | ok ks =>
    rw [hl] at h
    simp only at h ⊢
    cases ho : opk s <;> rw [ho] at hs h <;> first | (simp [logicB] at hs; done) | exact (told_ok h).2.2
/-- A tree's value, when a logic operator stands on top. -/
theorem ev_lg {cols : List Clm} {row : List Val} {e : Ex} (hk : (typedF cols e).2 = 0 → (typedF cols e).1 = 1) :
    (lgF cols row e = none → (evN cols row e).1 = .zero ∧ (evN cols row e).2 ≠ 0) ∧ (∀ v, lgF cols row e = some v → evN cols row e = (v, 0)) := by
  unfold lgF evN
  by_cases h1 : (typedF cols e).2 = 0
  · have h2 := hk h1
    cases h3 : mayRowB cols row
    · simp [h1]
    · by_cases h4 : (evalF cols row e).2 = 0
      · simp only [h1, h2, h4, true_or, and_self, if_true, ne_eq, not_true_eq_false, if_false]
        refine ⟨fun h => (by simp at h), fun v h => ?_⟩
        injection h with h
        subst h
        exact Prod.ext rfl h4
      · simp only [h1, h2, h4, and_false, if_false, if_true, ne_eq, not_true_eq_false, not_false_eq_true, and_true]
        refine ⟨fun _ => ?_, fun v h => by cases h⟩
        rcases eval_kind h3 e h1 with ⟨h, _⟩ | ⟨hz, _⟩
        · exact absurd h h4
        · exact hz
  · simp [h1]
/-- As ev_lg, for any tree. -/
theorem ev_any {cols : List Clm} {row : List Val} {e : Ex} {v : Val} (h : lgF cols row e = some v) : evN cols row e = (v, 0) := by
  unfold lgF at h
  split at h
  · rename_i hc
    obtain ⟨h1, h2, h3, h4⟩ := hc
    injection h with h
    unfold evN
    rw [if_neg (by simp [h1]), if_pos h3]
    exact Prod.ext h h4
  · cases h
def notT (a : Ex) : Ex := opE [78, 79, 84] [a]
def andT (a b : Ex) : Ex := opE [65, 78, 68] [a, b]
def orT (a b : Ex) : Ex := opE [79, 82] [a, b]
/-- What ExprLogic needs of its seven values. -/
structure LogicFacts (X Y Z V P Q L : Val × Int) : Prop where
  fg : decide (X.2 = 0) = decide (Y.2 = 0)
  xy : X.1 = Y.1
  hl : decide (Z.2 = 0) = decide (L.2 = 0)
  zv : Z.2 = 0 → Z.1 = V.1
  jk : decide (P.2 = 0) = decide (Q.2 = 0)
  pq : P.1 = Q.1
theorem lg_pair {cols : List Clm} {row : List Val} {s s' : List UInt8} {l l' : List Ex} (hs : logicB (opk s) = true) (hs' : logicB (opk s') = true) (h : lgF cols row (opE s l) = lgF cols row (opE s' l')) :
    decide ((evN cols row (opE s l)).2 = 0) = decide ((evN cols row (opE s' l')).2 = 0) ∧ (evN cols row (opE s l)).1 = (evN cols row (opE s' l')).1 := by
  have a := ev_lg (row := row) (fun h => lg_kind (l := l) (cols := cols) hs h)
  have b := ev_lg (row := row) (fun h => lg_kind (l := l') (cols := cols) hs' h)
  rw [h] at a
  cases hc : lgF cols row (opE s' l') with
  | none =>
    rw [hc] at a b
    obtain ⟨a1, a2⟩ := a.1 rfl
    obtain ⟨b1, b2⟩ := b.1 rfl
    exact ⟨by simp [a2, b2], by rw [a1, b1]⟩
  | some v =>
    rw [hc] at a b
    rw [a.2 v rfl, b.2 v rfl]
    exact ⟨rfl, rfl⟩
theorem logic_core (cols : List Clm) (row : List Val) (a b c : Ex) :
    LogicFacts (evN cols row (notT (andT a b))) (evN cols row (orT (notT a) (notT b))) (evN cols row (notT (notT a))) (evN cols row a) (evN cols row (andT a (orT b c))) (evN cols row (orT (andT a b) (andT a c))) (evN cols row (notT a)) := by
  have nt : ∀ e, lgF cols row (notT e) = (lgF cols row e).map fun v => (doesF .not_ [v]).1 := lg_not cols row
  have an : ∀ e f, lgF cols row (andT e f) = (lgF cols row e).bind fun v => (lgF cols row f).map fun u => (doesF .and_ [v, u]).1 := lg_two cols row [65, 78, 68] rfl
  have or : ∀ e f, lgF cols row (orT e f) = (lgF cols row e).bind fun v => (lgF cols row f).map fun u => (doesF .or_ [v, u]).1 := lg_two cols row [79, 82] rfl
  have ca : lgF cols row a = none ∨ lgF cols row a = some .zero ∨ lgF cols row a = some (truthV false) ∨ lgF cols row a = some (truthV true) := by
    cases h : lgF cols row a with
    | none => exact .inl rfl
    | some v => rcases lg_val h with rfl | rfl | rfl <;> simp
  have cb : lgF cols row b = none ∨ lgF cols row b = some .zero ∨ lgF cols row b = some (truthV false) ∨ lgF cols row b = some (truthV true) := by
    cases h : lgF cols row b with
    | none => exact .inl rfl
    | some v => rcases lg_val h with rfl | rfl | rfl <;> simp
  have cc : lgF cols row c = none ∨ lgF cols row c = some .zero ∨ lgF cols row c = some (truthV false) ∨ lgF cols row c = some (truthV true) := by
    cases h : lgF cols row c with
    | none => exact .inl rfl
    | some v => rcases lg_val h with rfl | rfl | rfl <;> simp
  have h1 : lgF cols row (notT (andT a b)) = lgF cols row (orT (notT a) (notT b)) := by
    rw [nt, an, or, nt, nt]
    rcases ca with ha | ha | ha | ha <;> rcases cb with hb | hb | hb | hb <;> rw [ha, hb] <;> rfl
  have h2 : lgF cols row (andT a (orT b c)) = lgF cols row (orT (andT a b) (andT a c)) := by
    rw [an, or, or, an, an]
    rcases ca with ha | ha | ha | ha <;> rcases cb with hb | hb | hb | hb <;> rcases cc with hc | hc | hc | hc <;> rw [ha, hb, hc] <;> rfl
  have h3 : lgF cols row (notT (notT a)) = lgF cols row a := by
    rw [nt, nt]
    rcases ca with ha | ha | ha | ha <;> rw [ha] <;> rfl
  have p1 := lg_pair (cols := cols) (row := row) (s := [78, 79, 84]) (s' := [79, 82]) rfl rfl h1
  have p2 := lg_pair (cols := cols) (row := row) (s := [65, 78, 68]) (s' := [79, 82]) rfl rfl h2
  have z := ev_lg (row := row) (fun h => lg_kind (l := [notT a]) (s := [78, 79, 84]) (cols := cols) rfl h)
  have n := ev_lg (row := row) (fun h => lg_kind (l := [a]) (s := [78, 79, 84]) (cols := cols) rfl h)
  refine ⟨p1.1, p1.2, ?_, ?_, p2.1, p2.2⟩
  · change decide ((evN cols row (opE [78, 79, 84] [notT a])).2 = 0) = decide ((evN cols row (opE [78, 79, 84] [a])).2 = 0)
    have e1 : lgF cols row (opE [78, 79, 84] [notT a]) = lgF cols row a := h3
    have e2 : lgF cols row (opE [78, 79, 84] [a]) = _ := nt a
    rw [e1] at z
    rw [e2] at n
    cases hc : lgF cols row a with
    | none =>
      rw [hc] at z n
      simp [(z.1 rfl).2, (n.1 rfl).2]
    | some v =>
      rw [hc] at z n
      rw [z.2 _ rfl, n.2 _ rfl]
  · intro h0
    change (evN cols row (opE [78, 79, 84] [notT a])).2 = 0 at h0
    change (evN cols row (opE [78, 79, 84] [notT a])).1 = _
    have e1 : lgF cols row (opE [78, 79, 84] [notT a]) = lgF cols row a := h3
    rw [e1] at z
    cases hc : lgF cols row a with
    | none => rw [hc] at z; exact absurd h0 (z.1 rfl).2
    | some v =>
      rw [hc] at z
      rw [z.2 _ rfl, ev_any hc]
theorem logic_facts (cols : List Clm) (row : List Val) (a b c : Ex) (da : a.deep ≤ 50) (db : b.deep ≤ 50) (dc : c.deep ≤ 50) (za : a.size ≤ 100) (zb : b.size ≤ 100) (zc : c.size ≤ 100) :
    LogicFacts (evalTF cols row (notT (andT a b))) (evalTF cols row (orT (notT a) (notT b))) (evalTF cols row (notT (notT a))) (evalTF cols row a) (evalTF cols row (andT a (orT b c))) (evalTF cols row (orT (andT a b) (andT a c))) (evalTF cols row (notT a)) := by
  rw [evalTF_small (e := notT (andT a b)), evalTF_small (e := orT (notT a) (notT b)), evalTF_small (e := notT (notT a)), evalTF_small (e := a), evalTF_small (e := andT a (orT b c)), evalTF_small (e := orT (andT a b) (andT a c)), evalTF_small (e := notT a)]
  · exact logic_core cols row a b c
  all_goals first
    | omega
    | (simp only [notT, andT, orT, opE, Ex.deep, Ex.size, deepL, sizeL]; omega)
end Go.Proofs.Ytakbikibahhepaa
