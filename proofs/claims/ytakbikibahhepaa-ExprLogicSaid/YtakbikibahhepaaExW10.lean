/-
  The walks of expr.small and of the document's great.
-/
import Derived.Test.YtakbikibahhepaaExW9
set_option linter.unusedSimpArgs false
set_option linter.unusedVariables false
namespace Go.Proofs.Ytakbikibahhepaa
open Go.RowKit

/-- What small leaves: its answer, and the count in its cell. -/
def SmallP (r : Bool × Nat) (g : Nat) (w : World) (e : Ending) (w' : World) : Prop := e = .returned (.bool r.1) ∧ Row w' g 3 [.int .i64 r.2] ∧ Same (fun k => k ≠ g) w w'
theorem smallL_drop {l : List Ex} {j d p : Nat} (h : j < l.length) : smallL (l.drop j) d p = if (smallF l[j] (d + 1) p).1 then smallL (l.drop (j + 1)) d (smallF l[j] (d + 1) p).2 else smallF l[j] (d + 1) p := by
  rw [drop_cons h, smallL]
theorem smallF_eq (e : Ex) (d p : Nat) : smallF e d p = if 64 < d ∨ 4096 < p + 1 then (false, p + 1) else smallL e.args d (p + 1) := by
  cases e; rw [smallF]; rfl
theorem small_bd : ∀ (e : Ex) (d p : Nat), (smallF e d p).1 = true → (smallF e d p).2 ≤ 4096 := by
  apply Ex.ind
  intro k s v l ih d p
  have hl : ∀ l : List Ex, (∀ a ∈ l, ∀ d p : Nat, (smallF a d p).1 = true → (smallF a d p).2 ≤ 4096) → ∀ p, p ≤ 4096 → (smallL l d p).1 = true → (smallL l d p).2 ≤ 4096 := by
    intro l
    induction l with
    | nil => intro _ p hp _; exact hp
    | cons a l ihl =>
      intro h p hp
      simp only [smallL]
      split
      · rename_i h1
        exact ihl (fun b hb => h b (by simp [hb])) _ (h a (by simp) _ _ h1)
      · rename_i h1
        intro h2
        exact absurd h2 h1
  rw [smallF]
  split
  · intro h; cases h
  · exact hl l ih _ (by omega)
theorem small_le {x : Ex} {d q rq : Nat} (h : smallF x d q = (true, rq)) : rq ≤ 4096 := by
  have := small_bd x d q
  rw [h] at this
  exact this rfl
theorem Ex.ind2 {P : Ex → Prop} (h : ∀ e, (∀ a ∈ e.args, P a) → P e) : ∀ e, P e := Ex.ind fun k s v l ih => h (.mk k s v l) ih
set_option maxRecDepth 100000 in
set_option maxHeartbeats 2000000 in
theorem exsmall_any (g : Nat) : ∀ (e : Ex) (u : Value) (d p : Nat) (w : World), ExR w (fun k => k ≠ g) u e → Row w g 3 [.int .i64 p] → d ≤ 65 → p ≤ 4096 →
    Calls Try.prog 24 #[exV u e, .int .i64 d, .pointer (some ⟨g, 0, none⟩)] w (SmallP (smallF e d p) g w) := by
  apply Ex.ind2
  intro e ih u d p w hv hp hd hpb
  have hl := hv.toL
  obtain ⟨A, c, rfl, hc, hm⟩ := hl.form
  have Ih := Lib.hid ih
  have Hl := Lib.hid hl
  have hzg := hp.lt
  unfold maxLen at hm
  have K := smallF_eq e d p
  have p0 : w.cell? ⟨g, 0, none⟩ = some (.int .i64 p) := hp.cell 0
  have p1 : w.frozen? ⟨g, 0, none⟩ = false := hp.frozen 0
  obtain ⟨F, hF⟩ : ∃ F, smallF e d p = F := ⟨_, rfl⟩
  rw [hF] at K ⊢
  have HK := Lib.hid K
  clear hv ih K hF
  have hp1 : Row ((w.setCell ⟨g, 0, none⟩ (.int .i64 ((p : Int) + 1))).alloc (.cells (exCs (.slice A e.args.length c) e).toArray 26)) g 3 [.int .i64 ((p + 1 : Nat) : Int)] :=
    (hp.set_ 0 (.int .i64 ((p : Int) + 1))).keep ((Same.refl (fun _ => True) _).alloc _) trivial
  have hS1 : Same (fun k => k ≠ g) w ((w.setCell ⟨g, 0, none⟩ (.int .i64 ((p : Int) + 1))).alloc (.cells (exCs (.slice A e.args.length c) e).toArray 26)) :=
    ((Same.refl (fun k => k ≠ g) w).setCell (fun _ h => h rfl) _).alloc _
  have HS1 := Lib.hid hS1
  have Hp1 := Lib.hid hp1
  clear hp hp1 hS1
  by_cases hbad : 64 < d ∨ 4096 < p + 1
  · have E := HK.out.trans (if_pos hbad)
    have HE := Lib.hid E
    clear E
    by_cases h1 : 64 < d
    · have x1 : (64 : Int) < (d : Int) := by omega
      clear hbad h1
      go_enter Try.func24, Try.ntmps24
      go_wp2
      go_ret
      rw [HE.out]
      exact ⟨rfl, Hp1.out, HS1.out⟩
    · have x1 : (d : Int) ≤ 64 := by omega
      have x2 : (4096 : Int) < (p : Int) + 1 := by omega
      clear hbad h1
      go_enter Try.func24, Try.ntmps24
      go_wp2
      go_ret
      rw [HE.out]
      exact ⟨rfl, Hp1.out, HS1.out⟩
  · have E := HK.out.trans (if_neg hbad)
    have HE := Lib.hid E
    have x1 : (d : Int) ≤ 64 := by omega
    have x2 : (p : Int) + 1 ≤ 4096 := by omega
    clear E hbad
    go_enter Try.func24, Try.ntmps24
    go_wp2
    go_loopw [8, 25] (fun _ i wr => ∃ j q : Nat, j ≤ e.args.length ∧ i = .int .i64 j ∧ q ≤ 4096 ∧ F = smallL (e.args.drop j) d q ∧ Row wr g 3 [.int .i64 q] ∧ Same (fun k => k ≠ g) w wr) (fun _ i _ => e.args.length - (intOf i).toNat)
    case atStart => exact ⟨0, p + 1, Nat.zero_le _, rfl, by omega, HE.out, Hp1.out, HS1.out⟩
    case round =>
      obtain ⟨j, q, hj, rfl, hq, hrel, hr, hS⟩ := hrel
      have Hrel := Lib.hid hrel
      have Hr := Lib.hid hr
      have HS := Lib.hid hS
      clear hrel p0 p1
      by_cases hlt : j < e.args.length
      · obtain ⟨ad, uj, rfl, hSb, hvj, d0, d1, d2, d3, d4, d5⟩ := ExL.cells (Hl.out.keep hS) hlt
        have hd := smallL_drop (d := d) (p := q) hlt
        have ihj := fun (W : World) (h1 : ExR W (fun k => k ≠ g) uj (e.args[j]'hlt)) h2 => Ih.out (e.args[j]'hlt) (List.getElem_mem hlt) uj (d + 1) q W h1 h2 (by omega) hq
        have x3 : (0 : Int) ≤ (j : Int) := by omega
        have x4 : (j : Int) < (e.args.length : Int) := by omega
        generalize e.args[j] = x at *
        have Hd := Lib.hid hd
        have hvj : ExR wr (fun k => k ≠ g) uj x := (ExR.iff uj x).2 hvj
        obtain ⟨Au, cu, rfl, -, -⟩ := hvj.toL.form
        have hSx := (Same.refl (fun k => k ≠ g) wr).alloc (.cells (exCs (.slice Au x.args.length cu) x).toArray 26)
        have hpx := hr.keep ((Same.refl (fun _ => True) wr).alloc (.cells (exCs (.slice Au x.args.length cu) x).toArray 26)) trivial
        have Hvj := Lib.hid (hvj.keep hSx)
        have HSx := Lib.hid hSx
        have Hpx := Lib.hid hpx
        have hab := World.block_lt_of_cell? wr _ d0
        have hcd : (d : Int) + 1 = ((d + 1 : Nat) : Int) := by omega
        obtain ⟨R, hR⟩ : ∃ R, smallF x (d + 1) q = R := ⟨_, rfl⟩
        rw [hR] at ihj
        have HR := Lib.hid hR
        have Hcd := Lib.hid hcd
        clear hd hvj hSx hpx hR hS hr hcd
        go_wp2_with (go_at_call 24; refine stopAt ?_)
        unfold Hid
        rw [Hcd.out]
        refine (ihj _ Hvj.out Hpx.out).mono ?_
        rintro e w3 ⟨rfl, hp3, hS3⟩
        have HP3 := Lib.hid hp3
        have HS3 := Lib.hid (HSx.out.trans hS3)
        obtain ⟨rb, rq⟩ := R
        cases rb
        · have K := Hrel.out.trans (Hd.out.trans (by rw [HR.out]))
          have HKK := Lib.hid K
          clear K hp3 hS3
          go_wp2
          go_ret
          rw [HKK.out]
          exact ⟨rfl, HP3.out, HS.out.trans HS3.out⟩
        · have K := Hrel.out.trans (Hd.out.trans (by rw [HR.out]))
          have HKK := Lib.hid K
          have hq2 : rq ≤ 4096 := small_le HR.out
          clear K hp3 hS3
          go_wp2
          go_roundw
          case rel => exact ⟨j + 1, rq, by omega, by go_num, hq2, HKK.out, HP3.out, HS.out.trans HS3.out⟩
          case measure => simp [intOf]; omega
      · have K := Hrel.out.trans (by rw [List.drop_of_length_le (by omega), smallL])
        have HKK := Lib.hid K
        clear K hr hS
        go_wp2
        go_ret
        rw [HKK.out]
        exact ⟨rfl, Hr.out, HS.out⟩
end Go.Proofs.Ytakbikibahhepaa
