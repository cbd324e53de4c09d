/-
  The walks of the laws' measures: Light, Deep.
-/
import Derived.Test.YtakbikibahhepaaExW14
import Derived.WalkLawsBesides
set_option linter.unusedSimpArgs false
set_option linter.unusedVariables false
namespace Go.Proofs.Ytakbikibahhepaa
open Go.RowKit

theorem lightF_eq (e : Ex) (q : Nat) : lightF e q = if q = 0 ∨ 100 < e.s.length ∨ 200 < e.v.s.length then 0 else lightL e.args (q - 1) := by
  obtain ⟨k, s, v, l⟩ := e
  rw [lightF]
  rfl
theorem lightL_drop {l : List Ex} {j q : Nat} (h : j < l.length) : lightL (l.drop j) q = if q = 0 then 0 else lightL (l.drop (j + 1)) (lightF l[j] q) := by
  rw [drop_cons h, lightL]
theorem lightF_le : ∀ (e : Ex) (q : Nat), lightF e q ≤ q := by
  intro e q
  by_cases h : lightF e q = 0
  · omega
  · have := light_size e q h; omega
set_option maxRecDepth 100000 in
set_option maxHeartbeats 4000000 in
theorem light_any (S : Nat → Prop) : ∀ (e : Ex) (u : Value) (q : Nat) (w : World), ExR w S u e → q ≤ 1000 →
    Calls Try.prog 11 #[exV u e, .int .i64 q] w (fun en w' => en = .returned (.int .i64 (lightF e q)) ∧ Same (fun _ => True) w w') := by
  apply Ex.ind2
  intro e ih u q w hv hq
  have hl := hv.toL
  obtain ⟨A, c, rfl, hc, hm⟩ := hl.form
  unfold maxLen at hm
  have hK := lightF_eq e q
  obtain ⟨F, hF⟩ : ∃ F, lightF e q = F := ⟨_, rfl⟩
  rw [hF] at hK ⊢
  have hS0 := (Same.refl (fun _ => True) w).alloc (.cells (exCs (.slice A e.args.length c) e).toArray 26)
  have hre := Row.new w 26 (exCs (.slice A e.args.length c) e)
  have HK := Lib.hid hK
  have Hl := Lib.hid hl
  have Ih := Lib.hid ih
  have HS0 := Lib.hid hS0
  have Hre := Lib.hid hre
  have z1 : (str e.s).size = e.s.length := str_size e.s
  have z2 : (str e.v.s).size = e.v.s.length := str_size e.v.s
  clear hK hF hv hl ih hS0 hre
  by_cases h0 : q = 0
  · subst h0
    have E := HK.out.trans (if_pos (.inl rfl))
    have HE := Lib.hid E
    clear E
    go_enter Try.func11, Try.ntmps11
    go_wp2
    go_ret
    exact ⟨ret_i64 (by rw [HE.out]; rfl), HS0.out⟩
  · have x1 : (0 : Int) < (q : Int) := by omega
    by_cases h1 : 100 < e.s.length
    · have E := HK.out.trans (if_pos (.inr (.inl h1)))
      have HE := Lib.hid E
      have x2 : (100 : Int) < (e.s.length : Int) := by omega
      clear E h0 h1
      go_enter Try.func11, Try.ntmps11
      go_wp2
      go_ret
      exact ⟨ret_i64 (by rw [HE.out]; rfl), HS0.out⟩
    · have x2 : (e.s.length : Int) ≤ 100 := by omega
      by_cases h2 : 200 < e.v.s.length
      · have E := HK.out.trans (if_pos (.inr (.inr h2)))
        have HE := Lib.hid E
        have x3 : (200 : Int) < (e.v.s.length : Int) := by omega
        clear E h0 h1 h2
        go_enter Try.func11, Try.ntmps11
        go_wp2
        go_ret
        exact ⟨ret_i64 (by rw [HE.out]; rfl), HS0.out⟩
      · have x3 : (e.v.s.length : Int) ≤ 200 := by omega
        have E := HK.out.trans (if_neg (by omega))
        have HE := Lib.hid E
        have hq1 : (q : Int) - 1 = ((q - 1 : Nat) : Int) := by omega
        have Hq1 := Lib.hid hq1
        have HQ : Hid (0 < q) := Lib.hid (by omega)
        clear E h0 h1 h2 hq1
        go_enter Try.func11, Try.ntmps11
        go_wp2
        go_loopw [1, 5] (fun p i wr => ∃ j q' : Nat, j ≤ e.args.length ∧ i = .int .i64 j ∧ p = .int .i64 q' ∧ q' ≤ 1000 ∧ F = lightL (e.args.drop j) q' ∧ Same (fun _ => True) w wr ∧ Row wr w.heap.size 26 (exCs (.slice A e.args.length c) e)) (fun _ i _ => e.args.length - (intOf i).toNat)
        case atStart => exact ⟨0, q - 1, Nat.zero_le _, rfl, by rw [Hq1.out], by have := HQ.out; omega, HE.out, HS0.out, Hre.out⟩
        case round =>
          obtain ⟨j, q', hj, rfl, rfl, hq', hrel, hS, hr⟩ := hrel
          have Hrel := Lib.hid hrel
          have HS := Lib.hid hS
          have Hr := Lib.hid hr
          have k5 : wr.cell? ⟨w.heap.size, 5, none⟩ = some (.slice A e.args.length c) := hr.cell 5
          have zz := hr.lt
          clear hrel
          by_cases hlt : j < e.args.length
          · by_cases hz : q' = 0
            · subst hz
              have K := Hrel.out.trans ((lightL_drop hlt).trans (if_pos rfl))
              have HKK := Lib.hid K
              have x4 : (j : Int) < (e.args.length : Int) := by omega
              clear K hS hr
              go_wp2
              go_ret
              exact ⟨ret_i64 (by rw [HKK.out]), HS.out⟩
            · obtain ⟨ad, uj, rfl, -, hvj, d0, d1, d2, d3, d4, d5⟩ := ExL.cells (Hl.out.keepAll hS) hlt
              have hd := (lightL_drop (q := q') hlt).trans (if_neg hz)
              have ihj := fun (W : World) (h1 : ExR W S uj (e.args[j]'hlt)) => Ih.out (e.args[j]'hlt) (List.getElem_mem hlt) uj q' W h1 hq'
              have hle := lightF_le (e.args[j]'hlt) q'
              have x3 : (0 : Int) ≤ (j : Int) := by omega
              have x4 : (j : Int) < (e.args.length : Int) := by omega
              have x5 : (0 : Int) < (q' : Int) := by omega
              generalize e.args[j] = x at *
              have hvj : ExR wr S uj x := (ExR.iff uj x).2 hvj
              obtain ⟨Au, cu, rfl, -, -⟩ := hvj.toL.form
              have Hvj := Lib.hid hvj
              have Hd := Lib.hid hd
              obtain ⟨R, hR⟩ : ∃ R, lightF x q' = R := ⟨_, rfl⟩
              rw [hR] at ihj hle
              have HR := Lib.hid hR
              have hab := World.block_lt_of_cell? wr _ d0
              clear hd hvj hR hS hr hz
              go_wp2_with (go_at_call 11; refine stopAt ?_)
              unfold Hid
              refine (ihj _ Hvj.out).mono ?_
              rintro e' w3 ⟨rfl, hS3⟩
              have HS3 := Lib.hid hS3
              clear hS3 ihj d0 d1 d2 d3 d4 d5 k5
              go_wp2
              go_roundw
              case rel => exact ⟨j + 1, R, by omega, by go_num, rfl, by omega, by rw [Hrel.out, Hd.out, HR.out], HS.out.trans HS3.out, Hr.out.keep HS3.out trivial⟩
              case measure => simp [intOf]; omega
          · have K := Hrel.out.trans (by rw [List.drop_of_length_le (by omega), lightL])
            have HKK : Hid (F = q') := Lib.hid K
            have x4 : (e.args.length : Int) ≤ (j : Int) := by omega
            clear K hS hr
            go_wp2
            go_ret
            exact ⟨ret_i64 (by rw [HKK.out]), HS.out⟩
theorem deep_eq (e : Ex) : e.deep = deepL e.args + 1 := by cases e; rw [Ex.deep]; rfl
theorem deep_size : ∀ e : Ex, e.deep ≤ e.size := by
  apply Ex.ind
  intro k s v l ih
  have hl : ∀ l : List Ex, (∀ a ∈ l, a.deep ≤ a.size) → deepL l ≤ sizeL l := by
    intro l
    induction l with
    | nil => intro _; simp [deepL]
    | cons a l ihl =>
      intro h
      have h1 := h a (by simp)
      have h2 := ihl fun b hb => h b (by simp [hb])
      simp only [deepL, sizeL]
      omega
  have := hl l ih
  simp only [Ex.deep, Ex.size]
  omega
theorem deepL_take {l : List Ex} {j : Nat} (h : j < l.length) : deepL (l.take (j + 1)) = max (deepL (l.take j)) l[j].deep := by
  rw [List.take_succ_eq_append_getElem h]
  have key : ∀ (a : List Ex) (x : Ex), deepL (a ++ [x]) = max (deepL a) x.deep := by
    intro a x
    induction a with
    | nil => simp [deepL]
    | cons b a ih => simp only [List.cons_append, deepL, ih]; omega
  exact key _ _
set_option maxRecDepth 100000 in
set_option maxHeartbeats 4000000 in
theorem deep_any (S : Nat → Prop) : ∀ (e : Ex), e.size ≤ 100000 → ∀ (u : Value) (w : World), ExR w S u e →
    Calls Try.prog 19 #[exV u e] w (fun en w' => en = .returned (.int .i64 e.deep) ∧ Same (fun _ => True) w w') := by
  apply Ex.ind2 (P := fun e => e.size ≤ 100000 → ∀ (u : Value) (w : World), ExR w S u e → Calls Try.prog 19 #[exV u e] w (fun en w' => en = .returned (.int .i64 e.deep) ∧ Same (fun _ => True) w w'))
  intro e ih hsz u w hv
  have hl := hv.toL
  obtain ⟨A, c, rfl, hc, hm⟩ := hl.form
  unfold maxLen at hm
  have hd0 := deep_size e
  have hK := deep_eq e
  have hsl : ∀ a ∈ e.args, a.size ≤ 100000 := fun a ha => by
    have := size_mem ha
    obtain ⟨k, s, v, l⟩ := e
    simp only [Ex.size] at hsz
    exact Nat.le_trans this (by show sizeL l ≤ _; omega)
  have hdl : ∀ j, deepL (e.args.take j) ≤ deepL e.args := by
    intro j
    have key : ∀ (l : List Ex) (j : Nat), deepL (l.take j) ≤ deepL l := by
      intro l
      induction l with
      | nil => intro j; simp
      | cons a l ihl =>
        intro j
        cases j with
        | zero => simp [deepL]
        | succ j => have := ihl j; simp only [List.take_succ_cons, deepL]; omega
    exact key _ _
  have hbd : deepL e.args ≤ 100000 := by omega
  obtain ⟨F, hF⟩ : ∃ F, e.deep = F := ⟨_, rfl⟩
  rw [hF] at hK ⊢
  have hS0 := (Same.refl (fun _ => True) w).alloc (.cells (exCs (.slice A e.args.length c) e).toArray 26)
  have hre := Row.new w 26 (exCs (.slice A e.args.length c) e)
  have HK := Lib.hid hK
  have Hl := Lib.hid hl
  have Ih := Lib.hid ih
  have Hsl := Lib.hid hsl
  have Hdl := Lib.hid hdl
  have HS0 := Lib.hid hS0
  have Hre := Lib.hid hre
  clear hK hF hv hl ih hS0 hre hsl hdl hd0 hsz
  go_enter Try.func19, Try.ntmps19
  go_wp2
  go_loopw [3, 4] (fun d i wr => ∃ j : Nat, j ≤ e.args.length ∧ i = .int .i64 j ∧ d = .int .i64 (deepL (e.args.take j)) ∧ Same (fun _ => True) w wr ∧ Row wr w.heap.size 26 (exCs (.slice A e.args.length c) e)) (fun _ i _ => e.args.length - (intOf i).toNat)
  case atStart => exact ⟨0, Nat.zero_le _, rfl, by simp [deepL], HS0.out, Hre.out⟩
  case round =>
    obtain ⟨j, hj, rfl, rfl, hS, hr⟩ := hrel
    have HS := Lib.hid hS
    have Hr := Lib.hid hr
    have k5 : wr.cell? ⟨w.heap.size, 5, none⟩ = some (.slice A e.args.length c) := hr.cell 5
    have zz := hr.lt
    by_cases hlt : j < e.args.length
    · obtain ⟨ad, uj, rfl, -, hvj, d0, d1, d2, d3, d4, d5⟩ := ExL.cells (Hl.out.keepAll hS) hlt
      have hd := deepL_take hlt
      have hdj := Hdl.out j
      have ihj := fun (W : World) (h1 : ExR W S uj (e.args[j]'hlt)) => Ih.out (e.args[j]'hlt) (List.getElem_mem hlt) (Hsl.out _ (List.getElem_mem hlt)) uj W h1
      have hxd := deep_mem (List.getElem_mem hlt)
      have x3 : (0 : Int) ≤ (j : Int) := by omega
      have x4 : (j : Int) < (e.args.length : Int) := by omega
      generalize e.args[j] = x at *
      have hvj : ExR wr S uj x := (ExR.iff uj x).2 hvj
      obtain ⟨Au, cu, rfl, -, -⟩ := hvj.toL.form
      have Hvj := Lib.hid hvj
      generalize deepL (e.args.take j) = D at *
      obtain ⟨X, hX⟩ : ∃ X, x.deep = X := ⟨_, rfl⟩
      rw [hX] at hd hxd ihj
      have Hd := Lib.hid hd
      have hab := World.block_lt_of_cell? wr _ d0
      clear hvj hS hr hX hd
      go_wp2_with (go_at_call 19; refine stopAt ?_)
      unfold Hid
      refine (ihj _ Hvj.out).mono ?_
      rintro e' w3 ⟨rfl, hS3⟩
      have HS3 := Lib.hid hS3
      clear hS3 ihj d0 d1 d2 d3 d4 d5 k5
      go_wp2
      go_roundw
      case rel => exact ⟨j + 1, by omega, by go_num, by rw [Hd.out]; exact congrArg (Value.int .i64) (by omega), HS.out.trans HS3.out, Hr.out.keep HS3.out trivial⟩
      case measure => simp [intOf]; omega
    · obtain rfl : j = e.args.length := by omega
      have K : F = deepL (e.args.take e.args.length) + 1 := by rw [List.take_length]; exact HK.out
      have hdj := Hdl.out e.args.length
      have HKK := Lib.hid K
      have x4 : (e.args.length : Int) ≤ (e.args.length : Int) := by omega
      generalize deepL (e.args.take e.args.length) = D at *
      clear K hS hr
      go_wp2
      go_ret
      exact ⟨ret_i64 (by rw [HKK.out]; omega), HS.out⟩
end Go.Proofs.Ytakbikibahhepaa
