/-
  The walks of the document's great, Col and Type.
-/
import Derived.Test.YtakbikibahhepaaExW16
set_option linter.unusedSimpArgs false
set_option linter.unusedVariables false
namespace Go.Proofs.Ytakbikibahhepaa
open Go.RowKit

def GreatP (r : Nat × Bool) (w : World) (e : Ending) (w' : World) : Prop := e = .returned (.tuple #[.int .i64 r.1, .bool r.2]) ∧ Same (fun _ => True) w w'
theorem GreatP.mk' {r : Nat × Bool} {w w' : World} {a : Int} {b : Bool} {n : Nat} (h : r = (n, b)) (ha : a = (n : Int)) (hs : Same (fun _ => True) w w') : GreatP r w (.returned (.tuple #[.int .i64 a, .bool b])) w' := by subst h ha; exact ⟨rfl, hs⟩
theorem greatF_eq (e : Ex) (d q : Nat) : greatF e d q = if 64 < d ∨ q = 0 then (0, true) else greatL e.args d (q - 1) := by
  cases e; rw [greatF]; rfl
theorem greatL_drop {l : List Ex} {j d q : Nat} (h : j < l.length) : greatL (l.drop j) d q = if (greatF l[j] (d + 1) q).2 then (0, true) else greatL (l.drop (j + 1)) d (greatF l[j] (d + 1) q).1 := by
  rw [drop_cons h, greatL]
theorem great_le : ∀ (e : Ex) (d q : Nat), (greatF e d q).1 ≤ q := by
  apply Ex.ind
  intro k s v l ih d q
  have hl : ∀ l : List Ex, (∀ a ∈ l, ∀ d q : Nat, (greatF a d q).1 ≤ q) → ∀ q, (greatL l d q).1 ≤ q := by
    intro l
    induction l with
    | nil => intro _ q; exact Nat.le_refl _
    | cons a l ihl =>
      intro h q
      simp only [greatL]
      split
      · exact Nat.zero_le _
      · exact Nat.le_trans (ihl (fun b hb => h b (by simp [hb])) _) (h a (by simp) _ _)
  rw [greatF]
  split
  · exact Nat.zero_le _
  · exact Nat.le_trans (hl l ih _) (by omega)
set_option maxRecDepth 100000 in
set_option maxHeartbeats 4000000 in
theorem refgreat_any (S : Nat → Prop) : ∀ (e : Ex) (u : Value) (d q : Nat) (w : World), ExR w S u e → d ≤ 65 → q ≤ 4096 →
    Calls Try.prog 26 #[exV u e, .int .i64 d, .int .i64 q] w (GreatP (greatF e d q) w) := by
  apply Ex.ind2
  intro e ih u d q w hv hd hq
  have hl := hv.toL
  obtain ⟨A, c, rfl, hc, hm⟩ := hl.form
  unfold maxLen at hm
  have hK := greatF_eq e d q
  obtain ⟨F, hF⟩ : ∃ F, greatF e d q = F := ⟨_, rfl⟩
  rw [hF] at hK ⊢
  have hS0 := (Same.refl (fun _ => True) w).alloc (.cells (exCs (.slice A e.args.length c) e).toArray 26)
  have hre := Row.new w 26 (exCs (.slice A e.args.length c) e)
  have HK := Lib.hid hK
  have Hl := Lib.hid hl
  have Ih := Lib.hid ih
  have HS0 := Lib.hid hS0
  have Hre := Lib.hid hre
  clear hK hF hv hl ih hS0 hre
  by_cases hbad : 64 < d ∨ q = 0
  · have E := HK.out.trans (if_pos hbad)
    have HE := Lib.hid E
    clear E
    by_cases h1 : 64 < d
    · have x1 : (64 : Int) < (d : Int) := by omega
      clear hbad h1
      go_enter Try.func26, Try.ntmps26
      go_wp2
      go_ret2
      exact GreatP.mk' HE.out rfl HS0.out
    · have x1 : (d : Int) ≤ 64 := by omega
      have x2 : (q : Int) ≤ 0 := by omega
      clear hbad h1
      go_enter Try.func26, Try.ntmps26
      go_wp2
      go_ret2
      exact GreatP.mk' HE.out rfl HS0.out
  · have E := HK.out.trans (if_neg hbad)
    have HE := Lib.hid E
    have x1 : (d : Int) ≤ 64 := by omega
    have x2 : (0 : Int) < (q : Int) := by omega
    have bq : decide (q = 0) = false := by simp; omega
    have bq2 : decide ((q : Int) ≤ 0) = false := by simp; omega
    have bd : decide (64 < (d : Int)) = false := by simp; omega
    have Hq1 : Hid ((q : Int) - 1 = ((q - 1 : Nat) : Int)) := Lib.hid (by omega)
    clear E hbad
    go_enter Try.func26, Try.ntmps26
    go_wp2
    go_loopw [2, 8, 9, 10] (fun p i _ _ wr => ∃ j q' : Nat, j ≤ e.args.length ∧ i = .int .i64 j ∧ p = .int .i64 q' ∧ q' ≤ 4096 ∧ F = greatL (e.args.drop j) d q' ∧ Same (fun _ => True) w wr ∧ Row wr w.heap.size 26 (exCs (.slice A e.args.length c) e)) (fun _ i _ _ _ => e.args.length - (intOf i).toNat)
    case atStart => exact ⟨0, q - 1, Nat.zero_le _, rfl, by rw [Hq1.out], by omega, HE.out, HS0.out, Hre.out⟩
    case round =>
      obtain ⟨j, q', hj, rfl, rfl, hq', hrel, hS, hr⟩ := hrel
      have Hrel := Lib.hid hrel
      have HS := Lib.hid hS
      have Hr := Lib.hid hr
      have k5 : wr.cell? ⟨w.heap.size, 5, none⟩ = some (.slice A e.args.length c) := hr.cell 5
      have zz := hr.lt
      clear hrel
      by_cases hlt : j < e.args.length
      · obtain ⟨ad, uj, rfl, -, hvj, d0, d1, d2, d3, d4, d5⟩ := ExL.cells (Hl.out.keepAll hS) hlt
        have hd := greatL_drop (d := d) (q := q') hlt
        have ihj := fun (W : World) (h1 : ExR W S uj (e.args[j]'hlt)) => Ih.out (e.args[j]'hlt) (List.getElem_mem hlt) uj (d + 1) q' W h1 (by omega) hq'
        have hle := great_le (e.args[j]'hlt) (d + 1) q'
        have x3 : (0 : Int) ≤ (j : Int) := by omega
        have x4 : (j : Int) < (e.args.length : Int) := by omega
        generalize e.args[j] = x at *
        have hvj : ExR wr S uj x := (ExR.iff uj x).2 hvj
        obtain ⟨Au, cu, rfl, -, -⟩ := hvj.toL.form
        have Hvj := Lib.hid hvj
        have Hd := Lib.hid hd
        obtain ⟨R, hR⟩ : ∃ R, greatF x (d + 1) q' = R := ⟨_, rfl⟩
        rw [hR] at ihj hle
        have HR := Lib.hid hR
        have hab := World.block_lt_of_cell? wr _ d0
        have Hcd : Hid ((d : Int) + 1 = ((d + 1 : Nat) : Int)) := Lib.hid (by omega)
        clear hd hvj hR hS hr
        go_wp2_with (go_at_call 26; refine stopAt ?_)
        unfold Hid
        rw [Hcd.out]
        refine (ihj _ Hvj.out).mono ?_
        rintro e' w3 ⟨rfl, hS3⟩
        have HS3 := Lib.hid hS3
        obtain ⟨rn, rb⟩ := R
        clear hS3 ihj d0 d1 d2 d3 d4 d5 k5
        cases rb
        · have K := Hrel.out.trans (Hd.out.trans (by rw [HR.out]))
          have HKK : Hid (F = greatL (e.args.drop (j + 1)) d rn) := Lib.hid K
          clear K
          go_wp2
          go_roundw
          case rel => exact ⟨j + 1, rn, by omega, by go_num, rfl, Nat.le_trans hle hq', HKK.out, HS.out.trans HS3.out, Hr.out.keep HS3.out trivial⟩
          case measure => simp [intOf]; omega
        · have K := Hrel.out.trans (Hd.out.trans (by rw [HR.out]))
          have HKK : Hid (F = (0, true)) := Lib.hid K
          clear K
          go_wp2
          go_ret2
          exact GreatP.mk' HKK.out rfl (HS.out.trans HS3.out)
      · have K := Hrel.out.trans (by rw [List.drop_of_length_le (by omega), greatL])
        have HKK : Hid (F = (q', false)) := Lib.hid K
        have x4 : (e.args.length : Int) ≤ (j : Int) := by omega
        clear K hS hr
        go_wp2
        go_ret2
        exact GreatP.mk' HKK.out rfl HS.out
set_option maxHeartbeats 2000000 in
theorem refcol_any (u : Value) (t : TabT) (l : List Clm) (s : List UInt8) (S : Nat → Prop) (w : World) (hv : ClR w S u l) (ht : t.ok) :
    Calls Try.prog 36 #[tabV u t, .string (str s)] w (fun e w' => e = .returned (.int .i64 (idxI (colF l s))) ∧ Same (fun _ => True) w w') := by
  obtain ⟨A, cp, rfl, hc, hm⟩ := hv.form
  obtain ⟨a1, n1, c1, a2, n2, c2, a3, n3, c3, e1, e2, e3⟩ := ht
  obtain ⟨nm, key, place, region, v1, v2, v3, elect, commit, survive⟩ := t
  simp only at e1 e2 e3
  subst e1 e2 e3
  have Hv := Lib.hid hv
  unfold maxLen at hm
  have hS0 := (Same.refl (fun _ => True) w).alloc (.cells (tabCs (.slice A l.length cp) ⟨nm, key, place, region, .slice a1 n1 c1, .slice a2 n2 c2, .slice a3 n3 c3, elect, commit, survive⟩).toArray 32)
  have hr := Row.new w 32 (tabCs (.slice A l.length cp) ⟨nm, key, place, region, .slice a1 n1 c1, .slice a2 n2 c2, .slice a3 n3 c3, elect, commit, survive⟩)
  have HS0 := Lib.hid hS0
  have Hr := Lib.hid hr
  have HZ := Lib.hid (colAt_zero l s)
  clear hv hS0 hr
  go_enter Try.func36, Try.ntmps36
  go_wp2
  go_loopw [5] (fun i wr => ∃ j : Nat, j ≤ l.length ∧ i = .int .i64 j ∧ idxI (colF l s) = colAt l s j ∧ Same (fun _ => True) w wr ∧ wr.cell? ⟨w.heap.size, 1, none⟩ = some (.slice A l.length cp)) (fun i _ => l.length - (intOf i).toNat)
  case atStart => exact ⟨0, Nat.zero_le _, rfl, HZ.out.symm, HS0.out, Hr.out.cell 1⟩
  case round =>
    obtain ⟨j, hj, rfl, hrel, hS, hcell⟩ := hrel
    have Hrel := Lib.hid hrel
    have HS := Lib.hid hS
    have Hcell := Lib.hid hcell
    clear hrel
    by_cases hlt : j < l.length
    · obtain ⟨ad, rfl, -, d0, d1, d2⟩ := ClR.cells (RowR.keepAll Hv.out hS) hlt
      have hd := colAt_step (s := s) hlt
      have x1 : (0 : Int) ≤ (j : Int) := by omega
      have x2 : (j : Int) < (l.length : Int) := by omega
      generalize l[j] = x at *
      have Hd := Lib.hid hd
      clear hd hS
      by_cases h1 : x.nm = s
      · have K := Hrel.out.trans (Hd.out.trans (if_pos h1))
        have HK := Lib.hid K
        have b1 : (x.nm == s) = true := by simpa using h1
        have H1 := Lib.hid h1
        clear K h1
        go_wp2
        go_ret
        exact ⟨ret_i64 HK.out.symm, HS.out⟩
      · have K := Hrel.out.trans (Hd.out.trans (if_neg h1))
        have HK := Lib.hid K
        have b1 : (x.nm == s) = false := by simpa using h1
        clear K
        go_wp2
        go_roundw
        case rel => exact ⟨j + 1, by omega, by go_num, HK.out, HS.out, Hcell.out⟩
        case measure => simp [intOf]; omega
    · obtain rfl : j = l.length := by omega
      have K := Hrel.out.trans colAt_end
      have HK := Lib.hid K
      have x4 : (l.length : Int) ≤ (l.length : Int) := by omega
      clear K hS
      go_wp2
      go_ret
      exact ⟨ret_i64 HK.out.symm, HS.out⟩
end Go.Proofs.Ytakbikibahhepaa
