/-
  One of the longer walks of mvcc (written by bundle.py out of: MvK3C). No condition.
-/
import Derived.Test.YtoldelocfmpccaaQ11
set_option linter.unusedSimpArgs false
set_option linter.unusedVariables false
namespace Go.Proofs.Ytoldelocfmpccaa
open Go.RowKit

set_option maxHeartbeats 4000000 in
theorem reflock_f_nil (v : Value) (cs : List Cel) (x : Wr) (l : Lck) (S : Nat → Prop) (w : World) (hv : CelR w S v cs) (hn : cs.length ≤ 100000) (hn2 : ∀ c ∈ cs, c.vers.length ≤ 1000000) (hso : Sorted cs) (hdr : x.drop = false) (hfnd : foundF cs x.key = false) (hpz : posF cs x.key = cs.length) :
    Calls Try.prog 60 #[v, wrV x, lckV l] w (AllP (lockF cs x.key (lockW x l)) w) := by
  have HDR := Lib.hid hdr
  have HFN := Lib.hid hfnd
  have HPZ := Lib.hid hpz
  clear hpz
  clear hdr hfnd
  obtain ⟨A, cp, rfl, hc, hm⟩ := hv.form
  have Hso := Lib.hid hso
  obtain ⟨Aa, o, Z, e1, e2, e3, e4, e5, e6, e7⟩ := split_at (k := x.key) ((sorted_iff cs).1 hso)
  have e5 := e5 (lockW x l)
  unfold maxLen at hm
  have r0 := (Row.new w 24 (wrCs x)).keep ((Same.refl (fun _ => True) _).alloc (.cells (lckCs l).toArray 30)) trivial
  have r1 := Row.new (w.alloc (.cells (wrCs x).toArray 24)) 30 (lckCs l)
  have hS0 := ((Same.refl (fun _ => True) w).alloc (.cells (wrCs x).toArray 24)).alloc (.cells (lckCs l).toArray 30)
  rw [World.size_alloc] at r1
  have hsz : (w.alloc (.cells (wrCs x).toArray 24) |>.alloc (.cells (lckCs l).toArray 30)).heap.size = w.heap.size + 2 := by rw [World.size_alloc, World.size_alloc]
  have gc := refcopy_any (.slice A cs.length cp) cs S ((w.alloc (.cells (wrCs x).toArray 24)).alloc (.cells (lckCs l).toArray 30)) (hv.keepAll hS0) hn hn2
  have E1 := Lib.hid e1
  have E6 := Lib.hid e6
  have E2 := Lib.hid e2
  have E3 := Lib.hid e3
  have E4 := Lib.hid e4
  have E5 := Lib.hid e5
  have R0 := Lib.hid r0
  have R1 := Lib.hid r1
  have HS0 := Lib.hid hS0
  have Hsz := Lib.hid hsz
  clear hv hn2 hso e1 e2 e3 e4 e5 r0 r1 hS0 hsz
  go_enter Try.func60, Try.ntmps60
  go_wp2_with (go_at_call 34; refine stopAt ?_)
  unfold Hid
  refine gc.mono ?_
  rintro e W0 ⟨v3, rfl, hown3, hS3⟩
  obtain ⟨A3, n3, c3, rfl, hl3, hm3⟩ := hown3.form3
  unfold maxLen at hm3
  rw [Hsz.out] at hown3
  have r0 := R0.out.keep hS3 trivial
  have r1 := R1.out.keep hS3 trivial
  have hS0 := HS0.out.trans hS3
  have hz0 := hS3.size
  rw [Hsz.out] at hz0
  have Hown3 := Lib.hid hown3
  clear gc hown3 hS3
  have b0 : W0.cell? ⟨w.heap.size, 0, none⟩ = some (.string (str x.key)) := r0.cell 0
  have b1 : W0.cell? ⟨w.heap.size, 1, none⟩ = some (.bool x.drop) := r0.cell 1
  have b2 : W0.cell? ⟨w.heap.size, 2, none⟩ = some (.string (str x.data)) := r0.cell 2
  have l7 : W0.cell? ⟨w.heap.size + 1, 7, none⟩ = some (.bool l.drop) := r1.cell 7
  have l8 : W0.cell? ⟨w.heap.size + 1, 8, none⟩ = some (.string (str l.data)) := r1.cell 8
  have f7 := r1.frozen 7
  have f8 := r1.frozen 8
  have z0 := r0.lt
  have z1 := r1.lt
  have R0 := Lib.hid r0
  have R1 := Lib.hid r1
  have HS0 := Lib.hid hS0
  have Hz0 := Lib.hid hz0
  clear r0 r1 hS0 hz0 Hsz
  go_wp2
  go_region
  go_wp2_with (with_reducible refine stopDst 18 rfl ?_)
  unfold Hid
  have r1 := (R1.out.set_ 7 (.bool x.drop)).set_ 8 (.string (str x.data))
  have hS1 : Same (fun q => q ≠ w.heap.size + 1) W0 ((W0.setCell ⟨w.heap.size + 1, 7, none⟩ (.bool x.drop)).setCell ⟨w.heap.size + 1, 8, none⟩ (.string (str x.data))).drew := (((Same.refl _ _).setCell (fun _ h => h rfl) _).setCell (fun _ h => h rfl) _).drew
  have r1 := r1.keep ((Same.refl (fun _ => True) _).drew) trivial
  revert r1 hS1
  generalize ((W0.setCell ⟨w.heap.size + 1, 7, none⟩ (.bool x.drop)).setCell ⟨w.heap.size + 1, 8, none⟩ (.string (str x.data))).drew = W1
  intro hS1 r1
  have r1 : Row W1 (w.heap.size + 1) 30 [.int .i64 l.by_.node, .int .i64 l.by_.life, .int .i64 l.by_.seq, .int .i64 l.by_.attempt, .int .i64 l.home, .int .i64 l.at_.wall, .int .i64 l.at_.tie, .bool x.drop, .string (str x.data)] := r1
  have r0 := R0.out.keep hS1 (by omega)
  have b0 : W1.cell? ⟨w.heap.size, 0, none⟩ = some (.string (str x.key)) := r0.cell 0
  have b1 : W1.cell? ⟨w.heap.size, 1, none⟩ = some (.bool x.drop) := r0.cell 1
  have l8 : W1.cell? ⟨w.heap.size + 1, 8, none⟩ = some (.string (str x.data)) := r1.cell 8
  have f8 := r1.frozen 8
  have z1 := r1.lt
  have R0 := Lib.hid r0
  have R1 := Lib.hid r1
  have hz1 : w.heap.size + 2 ≤ W1.heap.size := Nat.le_trans Hz0.out hS1.size
  have hown1 : OwnC W1 (w.heap.size + 2) (.slice A3 n3 c3) cs := Hown3.out.keep hS1 fun q h1 _ => by omega
  have Hown3 := Lib.hid hown1
  have hS2 : Same (fun _ => True) w W1 := HS0.out.trans' hS1 fun q hq _ => by omega
  have HS0 := Lib.hid hS2
  clear r0 r1 hS1 hS2 hown1 b2 l7 f7 z0
  cases hd : x.drop
  · rw [hd] at b1
    have hlk : lckCs (lockW x l) = [.int .i64 l.by_.node, .int .i64 l.by_.life, .int .i64 l.by_.seq, .int .i64 l.by_.attempt, .int .i64 l.home, .int .i64 l.at_.wall, .int .i64 l.at_.tie, .bool x.drop, .string (str x.data)] := by simp [lck_of, lockW, hd]
    have Hlk := Lib.hid hlk
    have Hd := Lib.hid hd
    clear hlk hd
    go_wp2_with (go_at_call 89; refine stopAt ?_)
    unfold Hid
    obtain ⟨W2, hW2⟩ : ∃ W2, W2 = W1 := ⟨_, rfl⟩
    subst hW2
    refine (reffind_any (.slice A3 n3 c3) cs x.key _ W2 Hown3.out.reads Hso.out).mono ?_
    rintro e w4 ⟨rfl, rfl⟩
    rw [e6, e7]
    have r0 := R0.out
    have b0 : W2.cell? ⟨w.heap.size, 0, none⟩ = some (.string (str x.key)) := r0.cell 0
    have z1 := R1.out.lt
    have hown4 := Hown3.out
    rw [E1.out] at hown4
    have Hown4 := Lib.hid hown4
    clear r0 hown4
    cases o with
    | some c => rw [HFN.out] at e7; cases e7
    | none =>
      have hown5 := Hown4.out
      simp only [Option.toList_none, List.nil_append] at hown5
      have Hown4 := Lib.hid hown5
      rw [Option.getD_none] at E5
      have E1' : cs = Aa ++ Z := by have := E1.out; simpa using this
      have HE1 := Lib.hid E1'
      simp only [Option.isSome_none, Bool.false_eq_true, if_false]
      clear hown5 e6 e7 E1'
      have hlAZ : (Aa ++ Z).length ≤ 100000 := by rw [← HE1.out]; exact hn
      rw [List.length_append] at hlAZ
      obtain ⟨Af, cf, hf1, hf2, hf3⟩ := Hown4.out.form
      injection hf1 with hf1 hf4 hf5
      rw [List.length_append] at hf4 hf2
      have Hn3 := Lib.hid hf4
      clear hf1 hf5 hf4 Af
      go_wp2
      go_loopw [8] (fun i wr => ∃ j : Nat, i = .int .i64 j ∧ j ≤ Aa.length ∧ Same (fun _ => True) W2 wr) (fun i _ => Aa.length - (intOf i).toNat)
      case atStart => exact ⟨0, rfl, Nat.zero_le _, Same.refl _ _⟩
      case round =>
        obtain ⟨j, rfl, hj, hSr⟩ := hrel
        have r0 := R0.out.keep hSr trivial
        have b0 : wr.cell? ⟨w.heap.size, 0, none⟩ = some (.string (str x.key)) := r0.cell 0
        have HSr := Lib.hid hSr
        have x1 : (0 : Int) ≤ (j : Int) := by omega
        by_cases hjl : j < Aa.length
        · have hjn : j < (Aa ++ Z).length := by rw [List.length_append]; omega
          obtain ⟨ad, u, eA, -, -, c0, -⟩ := OwnC.cells12 (Hown4.out.keepAll hSr) hjn
          have hk := E2.out Aa[j] (List.getElem_mem hjl)
          have q1 := ltB_str (Aa ++ Z)[j].key x.key
          rw [List.getElem_append_left hjl] at q1 c0
          rw [hk] at q1
          subst eA
          generalize Aa[j].key = kk at *
          have x2 : (j : Int) < (n3 : Int) := by have := Hn3.out; omega
          clear hSr hk r0
          go_wp2
          go_quiet (fail)
          rename_i nq
          go_wp2
          go_roundw
          case rel => exact ⟨j + 1, by go_num, by omega, HSr.out.drewN nq⟩
          case measure => simp [intOf]; omega
        · obtain rfl : j = Aa.length := by omega
          cases Z with
          | nil =>
            have hn3 : n3 = Aa.length := by have := Hn3.out; simpa using this
            subst hn3
            clear hSr r0
            go_wp2
            go_quiet (fail)
            rename_i nq
            go_wp2
            obtain ⟨W4, hW4⟩ : ∃ W4, W4 = wr.drewN nq := ⟨_, rfl⟩
            rw [← hW4]
            have hS24 : Same (fun _ => True) W2 W4 := by rw [hW4]; exact HSr.out.drewN nq
            have r0 := R0.out.keep hS24 trivial
            have r1 := R1.out.keep hS24 trivial
            have b0 : W4.cell? ⟨w.heap.size, 0, none⟩ = some (.string (str x.key)) := r0.cell 0
            have z0 := r0.lt
            have R1 := Lib.hid r1
            have hS04 := HS0.out.trans hS24
            have HS4 := Lib.hid hS04
            obtain ⟨us, u1, u2, u3⟩ := Hown4.out.keepAll hS24
            obtain ⟨L, hL⟩ : ∃ L, L = us.zip (Aa ++ []) := ⟨_, rfl⟩
            rw [← hL] at u2
            have hLl : L.length = Aa.length := by rw [hL]; simp [u1]
            obtain ⟨AL, cL, hv1, hc1, hc2, hsl⟩ := u2.wr.row celCs_len
            injection hv1 with hv1 hv2 hv3
            subst hv1 hv3
            clear hv2
            have hLn : L.length = Aa.length + (([] : List Cel)).length := by rw [hLl]; simp
            have hone : ∀ y ∈ L, ∀ u ∈ celCs y, u.oneCell' = true := by
              rw [hL]
              exact zip_one u1 fun i h h' => by
                obtain ⟨Ai, ci, e, _⟩ := u3 i h h'
                exact ⟨Ai, _, ci, e⟩
            have hsl1 := hsl.take (k := Aa.length) (by omega)
            rw [← flat_take celCs 12 celCs_len] at hsl1
            have hsl2 := hsl.cut (k := Aa.length) (by omega) hc1
            rw [← flat_drop celCs 12 celCs_len, hLl] at hsl2
            have Hsl1 := Lib.hid hsl1
            have Hsl2 := Lib.hid hsl2
            have Hone := Lib.hid hone
            have Hus := Lib.hid (show us.length = (Aa ++ []).length ∧ L = us.zip (Aa ++ []) ∧ ∀ i (h : i < (Aa ++ []).length) (h' : i < us.length), RowW verCs 4 69 W4 (fun k => w.heap.size + 2 ≤ k) us[i] (Aa ++ [])[i].vers from ⟨u1, hL, u3⟩)
            have HLn := Lib.hid hLn
            have HLl := Lib.hid hLl
            have hzW : w.heap.size + 2 ≤ W4.heap.size := Nat.le_trans hz1 hS24.size
            have p1 : (0 : Int) ≤ (Aa.length : Int) := by omega
            have p2 : (Aa.length : Int) ≤ (c3 : Int) := by omega
            have p3 : (Aa.length : Int) ≤ (Aa.length : Int) := by omega
            have p4 : (Aa.length : Int) ≤ (c3 : Int) := by omega
            have hNN : L.length ≤ 100000 := by omega
            have HNN := Lib.hid hNN
            clear hS24 r0 r1 hS04 u1 u2 u3 hL hLl hLn hone hsl hsl1 hsl2 hW4 hNN
            by_cases hcp : c3 = Aa.length
            · subst hcp
              rw [if_pos rfl] at Hsl2
              go_region_law (first
                | (refine step_appR TCel celCs_len rfl (.tmp 42) (.tmp 45) rfl (B := W4.heap.size) (v := .slice (some ⟨W4.heap.size, 0, none⟩) 0 0) (l := []) (l2 := L.take Aa.length) (A := A3) (m := Aa.length) (c := Aa.length) (by simp [Act.eval, Act.put]) (by simp [Act.eval, Act.put]) (own_emptyAt celCs 12 (by first | exact heap_now rfl | exact heap_old (heap_now rfl)) (by omega)) (Hsl1.out.keep (by (repeat (first | refine Same.alloc ?_ _ | refine Same.drew ?_)); exact Same.refl _ _)) (by have := HLn.out; rw [List.length_take]; omega) (fun y hy => Hone.out y (List.mem_of_mem_take hy)) (by first | (simp; done) | (simp; omega)) (by have := HNN.out; have := HLn.out; simp; omega) (by omega) ?_; intro v6 w6 h6 s6; have k6 : Same (fun q => q < W4.heap.size) W4 w6 := (Same.mono (S := fun _ => True) (by (repeat (first | refine Same.alloc ?_ _ | refine Same.drew ?_)); exact Same.refl _ _) fun _ _ _ => trivial).trans (s6.out.mono fun q _ hq e => by injection (show some q = some (W4.heap.size) from e) with e; omega); have b6 := k6.cell (p := ⟨w.heap.size, 0, none⟩) (show w.heap.size < W4.heap.size by omega) b0; have K6 := Lib.hid k6; clear k6; rw [List.nil_append] at h6)
                | (refine step_appR TCel celCs_len rfl (.tmp 42) (.tmp 45) rfl (B := W4.heap.size) (v := .slice (some ⟨W4.heap.size + 1, 0, none⟩) 0 0) (l := []) (l2 := L.take Aa.length) (A := A3) (m := Aa.length) (c := Aa.length) (by simp [Act.eval, Act.put]) (by simp [Act.eval, Act.put]) (own_emptyAt celCs 12 (by first | exact heap_now (by simp) | exact heap_old (heap_now (by simp))) (by omega)) (Hsl1.out.keep (by (repeat (first | refine Same.alloc ?_ _ | refine Same.drew ?_)); exact Same.refl _ _)) (by have := HLn.out; rw [List.length_take]; omega) (fun y hy => Hone.out y (List.mem_of_mem_take hy)) (by first | (simp; done) | (simp; omega)) (by have := HNN.out; have := HLn.out; simp; omega) (by omega) ?_; intro v6 w6 h6 s6; have k6 : Same (fun q => q < W4.heap.size) W4 w6 := (Same.mono (S := fun _ => True) (by (repeat (first | refine Same.alloc ?_ _ | refine Same.drew ?_)); exact Same.refl _ _) fun _ _ _ => trivial).trans (s6.out.mono fun q _ hq e => by injection (show some q = some (W4.heap.size + 1) from e) with e; omega); have b6 := k6.cell (p := ⟨w.heap.size, 0, none⟩) (show w.heap.size < W4.heap.size by omega) b0; have K6 := Lib.hid k6; clear k6; rw [List.nil_append] at h6)
                | (refine step_appR TCel celCs_len rfl (.tmp 46) (.tmp 50) rfl (B := W4.heap.size) (v := v6) (l := L.take Aa.length) (l2 := [(.slice none 0 0, freshC x.key)]) (S := fun _ => True) (A := some ⟨w6.heap.size, 0, none⟩) (m := 1) (c := 1) (by simp [Act.eval, Act.put]) (by simp [Act.eval, Act.put]) (h6.out.keepAll (by (repeat (first | refine Same.alloc ?_ _ | refine Same.drew ?_)); exact Same.refl _ _)) (row_sl1 (Row.new _ _ _)) rfl (fun y hy => by rw [List.mem_singleton.1 hy]; exact celCs_one _) (by have := K6.out.size; first | omega | (simp; omega)) (by have := HNN.out; have := HLn.out; rw [List.length_take]; omega) (by omega) ?_; intro v7 w7 h7 s7; have k7 : Same (fun q => q < W4.heap.size) W4 w7 := (K6.out.trans (Same.mono (S := fun _ => True) (by (repeat (first | refine Same.alloc ?_ _ | refine Same.drew ?_)); exact Same.refl _ _) fun _ _ _ => trivial)).trans (s7.out.mono fun q _ hq e => by have := (h6.out.lt_ e.symm).1; omega); have b7 := k7.cell (p := ⟨w.heap.size, 0, none⟩) (show w.heap.size < W4.heap.size by omega) b0; have K7 := Lib.hid k7; clear k7)
                | (refine step_appR TCel celCs_len rfl (.tmp 46) (.tmp 50) rfl (B := W4.heap.size) (v := v6) (l := L.take Aa.length) (l2 := [(.slice none 0 0, freshC x.key)]) (S := fun _ => True) (A := some ⟨W4.heap.size, 0, none⟩) (m := 1) (c := 1) (by simp [Act.eval, Act.put]) (by simp [Act.eval, Act.put]) h6.out (row_sl1 (q := (.slice none 0 0, freshC x.key)) (Row.keep (by unfold Row; exact heap_old (heap_now rfl)) s6.out (by simp [Value.ownBlock]))) rfl (fun y hy => by rw [List.mem_singleton.1 hy]; exact celCs_one _) (by have := K6.out.size; first | omega | (simp; omega)) (by have := HNN.out; have := HLn.out; rw [List.length_take]; omega) (by omega) ?_; intro v7 w7 h7 s7; have k7 : Same (fun q => q < W4.heap.size) W4 w7 := (K6.out.trans (Same.mono (S := fun _ => True) (by (repeat (first | refine Same.alloc ?_ _ | refine Same.drew ?_)); exact Same.refl _ _) fun _ _ _ => trivial)).trans (s7.out.mono fun q _ hq e => by have := (h6.out.lt_ e.symm).1; omega); have b7 := k7.cell (p := ⟨w.heap.size, 0, none⟩) (show w.heap.size < W4.heap.size by omega) b0; have K7 := Lib.hid k7; clear k7)
                | (refine step_appR TCel celCs_len rfl (.tmp 46) (.tmp 50) rfl (B := W4.heap.size) (v := v6) (l := L.take Aa.length) (l2 := [(.slice none 0 0, freshC x.key)]) (S := fun _ => True) (A := some ⟨W4.heap.size + 1, 0, none⟩) (m := 1) (c := 1) (by simp [Act.eval, Act.put]) (by simp [Act.eval, Act.put]) h6.out (row_sl1 (q := (.slice none 0 0, freshC x.key)) (Row.keep (by unfold Row; exact heap_now (by simp)) s6.out (by simp [Value.ownBlock]))) rfl (fun y hy => by rw [List.mem_singleton.1 hy]; exact celCs_one _) (by have := K6.out.size; first | omega | (simp; omega)) (by have := HNN.out; have := HLn.out; rw [List.length_take]; omega) (by omega) ?_; intro v7 w7 h7 s7; have k7 : Same (fun q => q < W4.heap.size) W4 w7 := (K6.out.trans (Same.mono (S := fun _ => True) (by (repeat (first | refine Same.alloc ?_ _ | refine Same.drew ?_)); exact Same.refl _ _) fun _ _ _ => trivial)).trans (s7.out.mono fun q _ hq e => by have := (h6.out.lt_ e.symm).1; omega); have b7 := k7.cell (p := ⟨w.heap.size, 0, none⟩) (show w.heap.size < W4.heap.size by omega) b0; have K7 := Lib.hid k7; clear k7)
                | (refine step_appR TCel celCs_len rfl (.tmp 51) (.tmp 54) rfl (B := W4.heap.size) (v := v7) (l := L.take Aa.length ++ [(.slice none 0 0, freshC x.key)]) (l2 := L.drop Aa.length) (A := A3) (m := Aa.length - Aa.length) (c := Aa.length - Aa.length) (by simp [Act.eval, Act.put]) (by simp [Act.eval, Act.put]) h7.out ((Hsl2.out.mono (S' := fun q => q < W4.heap.size) (fun q hq _ => hq)).keep K7.out) (by have := HLl.out; rw [List.length_drop]; omega) (fun y hy => Hone.out y (List.mem_of_mem_drop hy)) (by have := K7.out.size; omega) (by have := HNN.out; have := HLn.out; have := HLl.out; simp; omega) (by omega) ?_; intro v8 w8 h8 s8))
              all_goals
                have k8 : Same (fun q => q < W4.heap.size) W4 w8 := K7.out.trans (s8.out.mono fun q _ hq e => by have := (h7.out.lt_ e.symm).1; omega)
                obtain ⟨u1, hL, u3⟩ := Hus.out
                have hz8 := h8.out
                rw [List.append_assoc, List.singleton_append, hL, zip_ins _ _ u1] at hz8
                have ht1 : (Aa ++ []).take Aa.length = Aa := List.take_left
                have ht2 : (Aa ++ []).drop Aa.length = ([] : List Cel) := List.drop_left
                rw [ht1, ht2] at hz8
                have hvk : ∀ i (h : i < (Aa ++ []).length) (h' : i < us.length), RowW verCs 4 69 w8 (fun k => w.heap.size + 2 ≤ k) us[i] (Aa ++ [])[i].vers := fun i h h' =>
                  (((u3 i h h').mono (S' := fun q => w.heap.size + 2 ≤ q ∧ q < W4.heap.size) fun q hq hh => ⟨hh, hq⟩).keep (k8.mono fun q _ hq => hq.2)).mono fun q _ hq => hq.1
                have hown5 : OwnC w8 (w.heap.size + 2) v8 (Aa ++ freshC x.key :: ([] : List Cel)) := by
                  have hu : us.length = Aa.length + (([] : List Cel)).length := by rw [u1, List.length_append]
                  have ha : (us.take Aa.length).length = Aa.length := by rw [List.length_take]; omega
                  refine ⟨us.take Aa.length ++ (.slice none 0 0) :: us.drop Aa.length, by first | (simp [hu]; done) | (simp [hu]; omega), hz8.lower (by omega), fun i h h' => ?_⟩
                  rcases Nat.lt_trichotomy i Aa.length with hi | hi | hi
                  · rw [List.getElem_append_left (by omega), List.getElem_append_left hi, List.getElem_take]
                    have := hvk i (by rw [List.length_append]; omega) (by omega)
                    rw [List.getElem_append_left hi] at this
                    exact this
                  · subst hi
                    rw [List.getElem_append_right (by omega), List.getElem_append_right (by omega)]
                    simp only [ha, Nat.sub_self, List.getElem_cons_zero]
                    exact ⟨none, 0, rfl, Nat.le_refl _, by simp [maxLen], fun h => absurd h (by simp [freshC])⟩
                  · have hb : i < Aa.length + ((([] : List Cel)).length + 1) := by simpa using h
                    rw [List.getElem_append_right (by omega), List.getElem_append_right (by omega)]
                    simp only [ha]
                    rw [List.getElem_cons, List.getElem_cons, dif_neg (by omega), dif_neg (by omega), List.getElem_drop]
                    have := hvk (i - 1) (by rw [List.length_append]; omega) (by omega)
                    rw [List.getElem_append_right (by omega)] at this
                    have e1 : Aa.length + (i - 1 - Aa.length) = i - 1 := by omega
                    have e2 : i - Aa.length - 1 = i - 1 - Aa.length := by omega
                    simp only [e2, e1]
                    exact this
                have r1 := R1.out.keep k8 (by omega)
                have R1 := Lib.hid r1
                have hS05 : Same (fun _ => True) w w8 := HS4.out.trans' k8 fun q hq _ => by omega
                have HS5 := Lib.hid hS05
                have Hown5 := Lib.hid hown5
                obtain ⟨w5, hw5⟩ : ∃ w5, w5 = w8 := ⟨_, rfl⟩
                rw [← hw5] at r1 hS05 hown5 ⊢
                rw [← hw5] at R1 HS5 Hown5
                have v5e := hw5
                clear k8 u1 u3 hz8 ht1 ht2 hvk hown5 r1 hS05 p1 p2 p3 p4 b6 b7 b0 z0 h6 h7 h8 s6 s7 s8 K6 K7 hL v5e hw5
                go_wp2
                have hlt : Aa.length < (Aa ++ freshC x.key :: ([] : List Cel)).length := by simp
                obtain ⟨g, n5, cap5, hv5, hn5, hc5, hm5, hBg, hg5, hfz⟩ := Hown5.out.head (by rw [List.length_append, List.length_cons]; omega)
                subst hv5
                have hn5' : n5 = Aa.length + 1 + (([] : List Cel)).length := by rw [hn5]; first | (simp; done) | (simp; omega)
                obtain ⟨k2, k3, k4, k5, k6, k7, k8, k9, k10, k11, y2, y3, y4, y5, y6, y7, y8, y9, y10, y11⟩ := Hown5.out.at12 hlt
                have q1 : (0 : Int) ≤ (Aa.length : Int) := by omega
                have q2 : (Aa.length : Int) < (n5 : Int) := by omega
                have f2 := hfz (Aa.length * 12 + 2)
                have f3 := hfz (Aa.length * 12 + 3)
                have f4 := hfz (Aa.length * 12 + 4)
                have f5 := hfz (Aa.length * 12 + 5)
                have f6 := hfz (Aa.length * 12 + 6)
                have f7 := hfz (Aa.length * 12 + 7)
                have f8 := hfz (Aa.length * 12 + 8)
                have f9 := hfz (Aa.length * 12 + 9)
                have f10 := hfz (Aa.length * 12 + 10)
                have f11 := hfz (Aa.length * 12 + 11)
                have r1 := R1.out
                have m0 : w5.cell? ⟨w.heap.size + 1, 0, none⟩ = some (.int .i64 l.by_.node) := r1.cell 0
                have m1 : w5.cell? ⟨w.heap.size + 1, 1, none⟩ = some (.int .i64 l.by_.life) := r1.cell 1
                have m2 : w5.cell? ⟨w.heap.size + 1, 2, none⟩ = some (.int .i64 l.by_.seq) := r1.cell 2
                have m3 : w5.cell? ⟨w.heap.size + 1, 3, none⟩ = some (.int .i64 l.by_.attempt) := r1.cell 3
                have m4 : w5.cell? ⟨w.heap.size + 1, 4, none⟩ = some (.int .i64 l.home) := r1.cell 4
                have m5 : w5.cell? ⟨w.heap.size + 1, 5, none⟩ = some (.int .i64 l.at_.wall) := r1.cell 5
                have m6 : w5.cell? ⟨w.heap.size + 1, 6, none⟩ = some (.int .i64 l.at_.tie) := r1.cell 6
                have m7 : w5.cell? ⟨w.heap.size + 1, 7, none⟩ = some (.bool x.drop) := r1.cell 7
                have m8 : w5.cell? ⟨w.heap.size + 1, 8, none⟩ = some (.string (str x.data)) := r1.cell 8
                have hne1 : g ≠ w.heap.size + 1 := by omega
                have z5 := r1.lt
                clear r1 hfz hn5 hn5' hlt
                go_region
                all_goals
                  go_wp2
                  go_ret
                  have hup := Hown5.out.upd (W := setsW w5 g (Aa.length * 12 + 2) [.bool true, .int .i64 l.by_.node, .int .i64 l.by_.life, .int .i64 l.by_.seq, .int .i64 l.by_.attempt, .int .i64 l.home, .int .i64 l.at_.wall, .int .i64 l.at_.tie, .bool x.drop, .string (str x.data)]) (lockW x l) rfl (by rw [lockCs, Hlk.out])
                  rw [E5.out]
                  simp only [setsW] at hup
                  refine ⟨_, rfl, (hup.1.keepAll ((Same.refl _ _).drew)).lower (by omega), ?_⟩
                  exact HS5.out.trans' hup.2.drew fun q hq _ => by omega
            · rw [if_neg hcp] at Hsl2
              go_region_law (first
                | (refine step_appR TCel celCs_len rfl (.tmp 42) (.tmp 45) rfl (B := W4.heap.size) (v := .slice (some ⟨W4.heap.size, 0, none⟩) 0 0) (l := []) (l2 := L.take Aa.length) (A := A3) (m := Aa.length) (c := c3) (by simp [Act.eval, Act.put]) (by simp [Act.eval, Act.put]) (own_emptyAt celCs 12 (by first | exact heap_now rfl | exact heap_old (heap_now rfl)) (by omega)) (Hsl1.out.keep (by (repeat (first | refine Same.alloc ?_ _ | refine Same.drew ?_)); exact Same.refl _ _)) (by have := HLn.out; rw [List.length_take]; omega) (fun y hy => Hone.out y (List.mem_of_mem_take hy)) (by first | (simp; done) | (simp; omega)) (by have := HNN.out; have := HLn.out; simp; omega) (by omega) ?_; intro v6 w6 h6 s6; have k6 : Same (fun q => q < W4.heap.size) W4 w6 := (Same.mono (S := fun _ => True) (by (repeat (first | refine Same.alloc ?_ _ | refine Same.drew ?_)); exact Same.refl _ _) fun _ _ _ => trivial).trans (s6.out.mono fun q _ hq e => by injection (show some q = some (W4.heap.size) from e) with e; omega); have b6 := k6.cell (p := ⟨w.heap.size, 0, none⟩) (show w.heap.size < W4.heap.size by omega) b0; have K6 := Lib.hid k6; clear k6; rw [List.nil_append] at h6)
                | (refine step_appR TCel celCs_len rfl (.tmp 42) (.tmp 45) rfl (B := W4.heap.size) (v := .slice (some ⟨W4.heap.size + 1, 0, none⟩) 0 0) (l := []) (l2 := L.take Aa.length) (A := A3) (m := Aa.length) (c := c3) (by simp [Act.eval, Act.put]) (by simp [Act.eval, Act.put]) (own_emptyAt celCs 12 (by first | exact heap_now (by simp) | exact heap_old (heap_now (by simp))) (by omega)) (Hsl1.out.keep (by (repeat (first | refine Same.alloc ?_ _ | refine Same.drew ?_)); exact Same.refl _ _)) (by have := HLn.out; rw [List.length_take]; omega) (fun y hy => Hone.out y (List.mem_of_mem_take hy)) (by first | (simp; done) | (simp; omega)) (by have := HNN.out; have := HLn.out; simp; omega) (by omega) ?_; intro v6 w6 h6 s6; have k6 : Same (fun q => q < W4.heap.size) W4 w6 := (Same.mono (S := fun _ => True) (by (repeat (first | refine Same.alloc ?_ _ | refine Same.drew ?_)); exact Same.refl _ _) fun _ _ _ => trivial).trans (s6.out.mono fun q _ hq e => by injection (show some q = some (W4.heap.size + 1) from e) with e; omega); have b6 := k6.cell (p := ⟨w.heap.size, 0, none⟩) (show w.heap.size < W4.heap.size by omega) b0; have K6 := Lib.hid k6; clear k6; rw [List.nil_append] at h6)
                | (refine step_appR TCel celCs_len rfl (.tmp 46) (.tmp 50) rfl (B := W4.heap.size) (v := v6) (l := L.take Aa.length) (l2 := [(.slice none 0 0, freshC x.key)]) (S := fun _ => True) (A := some ⟨w6.heap.size, 0, none⟩) (m := 1) (c := 1) (by simp [Act.eval, Act.put]) (by simp [Act.eval, Act.put]) (h6.out.keepAll (by (repeat (first | refine Same.alloc ?_ _ | refine Same.drew ?_)); exact Same.refl _ _)) (row_sl1 (Row.new _ _ _)) rfl (fun y hy => by rw [List.mem_singleton.1 hy]; exact celCs_one _) (by have := K6.out.size; first | omega | (simp; omega)) (by have := HNN.out; have := HLn.out; rw [List.length_take]; omega) (by omega) ?_; intro v7 w7 h7 s7; have k7 : Same (fun q => q < W4.heap.size) W4 w7 := (K6.out.trans (Same.mono (S := fun _ => True) (by (repeat (first | refine Same.alloc ?_ _ | refine Same.drew ?_)); exact Same.refl _ _) fun _ _ _ => trivial)).trans (s7.out.mono fun q _ hq e => by have := (h6.out.lt_ e.symm).1; omega); have b7 := k7.cell (p := ⟨w.heap.size, 0, none⟩) (show w.heap.size < W4.heap.size by omega) b0; have K7 := Lib.hid k7; clear k7)
                | (refine step_appR TCel celCs_len rfl (.tmp 46) (.tmp 50) rfl (B := W4.heap.size) (v := v6) (l := L.take Aa.length) (l2 := [(.slice none 0 0, freshC x.key)]) (S := fun _ => True) (A := some ⟨W4.heap.size, 0, none⟩) (m := 1) (c := 1) (by simp [Act.eval, Act.put]) (by simp [Act.eval, Act.put]) h6.out (row_sl1 (q := (.slice none 0 0, freshC x.key)) (Row.keep (by unfold Row; exact heap_old (heap_now rfl)) s6.out (by simp [Value.ownBlock]))) rfl (fun y hy => by rw [List.mem_singleton.1 hy]; exact celCs_one _) (by have := K6.out.size; first | omega | (simp; omega)) (by have := HNN.out; have := HLn.out; rw [List.length_take]; omega) (by omega) ?_; intro v7 w7 h7 s7; have k7 : Same (fun q => q < W4.heap.size) W4 w7 := (K6.out.trans (Same.mono (S := fun _ => True) (by (repeat (first | refine Same.alloc ?_ _ | refine Same.drew ?_)); exact Same.refl _ _) fun _ _ _ => trivial)).trans (s7.out.mono fun q _ hq e => by have := (h6.out.lt_ e.symm).1; omega); have b7 := k7.cell (p := ⟨w.heap.size, 0, none⟩) (show w.heap.size < W4.heap.size by omega) b0; have K7 := Lib.hid k7; clear k7)
                | (refine step_appR TCel celCs_len rfl (.tmp 46) (.tmp 50) rfl (B := W4.heap.size) (v := v6) (l := L.take Aa.length) (l2 := [(.slice none 0 0, freshC x.key)]) (S := fun _ => True) (A := some ⟨W4.heap.size + 1, 0, none⟩) (m := 1) (c := 1) (by simp [Act.eval, Act.put]) (by simp [Act.eval, Act.put]) h6.out (row_sl1 (q := (.slice none 0 0, freshC x.key)) (Row.keep (by unfold Row; exact heap_now (by simp)) s6.out (by simp [Value.ownBlock]))) rfl (fun y hy => by rw [List.mem_singleton.1 hy]; exact celCs_one _) (by have := K6.out.size; first | omega | (simp; omega)) (by have := HNN.out; have := HLn.out; rw [List.length_take]; omega) (by omega) ?_; intro v7 w7 h7 s7; have k7 : Same (fun q => q < W4.heap.size) W4 w7 := (K6.out.trans (Same.mono (S := fun _ => True) (by (repeat (first | refine Same.alloc ?_ _ | refine Same.drew ?_)); exact Same.refl _ _) fun _ _ _ => trivial)).trans (s7.out.mono fun q _ hq e => by have := (h6.out.lt_ e.symm).1; omega); have b7 := k7.cell (p := ⟨w.heap.size, 0, none⟩) (show w.heap.size < W4.heap.size by omega) b0; have K7 := Lib.hid k7; clear k7)
                | (refine step_appR TCel celCs_len rfl (.tmp 51) (.tmp 54) rfl (B := W4.heap.size) (v := v7) (l := L.take Aa.length ++ [(.slice none 0 0, freshC x.key)]) (l2 := L.drop Aa.length) (A := A3.map (·.add (Aa.length * 12))) (m := Aa.length - Aa.length) (c := c3 - Aa.length) (by simp [Act.eval, Act.put]) (by simp [Act.eval, Act.put]) h7.out ((Hsl2.out.mono (S' := fun q => q < W4.heap.size) (fun q hq _ => hq)).keep K7.out) (by have := HLl.out; rw [List.length_drop]; omega) (fun y hy => Hone.out y (List.mem_of_mem_drop hy)) (by have := K7.out.size; omega) (by have := HNN.out; have := HLn.out; have := HLl.out; simp; omega) (by omega) ?_; intro v8 w8 h8 s8))
              all_goals
                have k8 : Same (fun q => q < W4.heap.size) W4 w8 := K7.out.trans (s8.out.mono fun q _ hq e => by have := (h7.out.lt_ e.symm).1; omega)
                obtain ⟨u1, hL, u3⟩ := Hus.out
                have hz8 := h8.out
                rw [List.append_assoc, List.singleton_append, hL, zip_ins _ _ u1] at hz8
                have ht1 : (Aa ++ []).take Aa.length = Aa := List.take_left
                have ht2 : (Aa ++ []).drop Aa.length = ([] : List Cel) := List.drop_left
                rw [ht1, ht2] at hz8
                have hvk : ∀ i (h : i < (Aa ++ []).length) (h' : i < us.length), RowW verCs 4 69 w8 (fun k => w.heap.size + 2 ≤ k) us[i] (Aa ++ [])[i].vers := fun i h h' =>
                  (((u3 i h h').mono (S' := fun q => w.heap.size + 2 ≤ q ∧ q < W4.heap.size) fun q hq hh => ⟨hh, hq⟩).keep (k8.mono fun q _ hq => hq.2)).mono fun q _ hq => hq.1
                have hown5 : OwnC w8 (w.heap.size + 2) v8 (Aa ++ freshC x.key :: ([] : List Cel)) := by
                  have hu : us.length = Aa.length + (([] : List Cel)).length := by rw [u1, List.length_append]
                  have ha : (us.take Aa.length).length = Aa.length := by rw [List.length_take]; omega
                  refine ⟨us.take Aa.length ++ (.slice none 0 0) :: us.drop Aa.length, by first | (simp [hu]; done) | (simp [hu]; omega), hz8.lower (by omega), fun i h h' => ?_⟩
                  rcases Nat.lt_trichotomy i Aa.length with hi | hi | hi
                  · rw [List.getElem_append_left (by omega), List.getElem_append_left hi, List.getElem_take]
                    have := hvk i (by rw [List.length_append]; omega) (by omega)
                    rw [List.getElem_append_left hi] at this
                    exact this
                  · subst hi
                    rw [List.getElem_append_right (by omega), List.getElem_append_right (by omega)]
                    simp only [ha, Nat.sub_self, List.getElem_cons_zero]
                    exact ⟨none, 0, rfl, Nat.le_refl _, by simp [maxLen], fun h => absurd h (by simp [freshC])⟩
                  · have hb : i < Aa.length + ((([] : List Cel)).length + 1) := by simpa using h
                    rw [List.getElem_append_right (by omega), List.getElem_append_right (by omega)]
                    simp only [ha]
                    rw [List.getElem_cons, List.getElem_cons, dif_neg (by omega), dif_neg (by omega), List.getElem_drop]
                    have := hvk (i - 1) (by rw [List.length_append]; omega) (by omega)
                    rw [List.getElem_append_right (by omega)] at this
                    have e1 : Aa.length + (i - 1 - Aa.length) = i - 1 := by omega
                    have e2 : i - Aa.length - 1 = i - 1 - Aa.length := by omega
                    simp only [e2, e1]
                    exact this
                have r1 := R1.out.keep k8 (by omega)
                have R1 := Lib.hid r1
                have hS05 : Same (fun _ => True) w w8 := HS4.out.trans' k8 fun q hq _ => by omega
                have HS5 := Lib.hid hS05
                have Hown5 := Lib.hid hown5
                obtain ⟨w5, hw5⟩ : ∃ w5, w5 = w8 := ⟨_, rfl⟩
                rw [← hw5] at r1 hS05 hown5 ⊢
                rw [← hw5] at R1 HS5 Hown5
                have v5e := hw5
                clear k8 u1 u3 hz8 ht1 ht2 hvk hown5 r1 hS05 p1 p2 p3 p4 b6 b7 b0 z0 hcp h6 h7 h8 s6 s7 s8 K6 K7 hL v5e hw5
                go_wp2
                have hlt : Aa.length < (Aa ++ freshC x.key :: ([] : List Cel)).length := by simp
                obtain ⟨g, n5, cap5, hv5, hn5, hc5, hm5, hBg, hg5, hfz⟩ := Hown5.out.head (by rw [List.length_append, List.length_cons]; omega)
                subst hv5
                have hn5' : n5 = Aa.length + 1 + (([] : List Cel)).length := by rw [hn5]; first | (simp; done) | (simp; omega)
                obtain ⟨k2, k3, k4, k5, k6, k7, k8, k9, k10, k11, y2, y3, y4, y5, y6, y7, y8, y9, y10, y11⟩ := Hown5.out.at12 hlt
                have q1 : (0 : Int) ≤ (Aa.length : Int) := by omega
                have q2 : (Aa.length : Int) < (n5 : Int) := by omega
                have f2 := hfz (Aa.length * 12 + 2)
                have f3 := hfz (Aa.length * 12 + 3)
                have f4 := hfz (Aa.length * 12 + 4)
                have f5 := hfz (Aa.length * 12 + 5)
                have f6 := hfz (Aa.length * 12 + 6)
                have f7 := hfz (Aa.length * 12 + 7)
                have f8 := hfz (Aa.length * 12 + 8)
                have f9 := hfz (Aa.length * 12 + 9)
                have f10 := hfz (Aa.length * 12 + 10)
                have f11 := hfz (Aa.length * 12 + 11)
                have r1 := R1.out
                have m0 : w5.cell? ⟨w.heap.size + 1, 0, none⟩ = some (.int .i64 l.by_.node) := r1.cell 0
                have m1 : w5.cell? ⟨w.heap.size + 1, 1, none⟩ = some (.int .i64 l.by_.life) := r1.cell 1
                have m2 : w5.cell? ⟨w.heap.size + 1, 2, none⟩ = some (.int .i64 l.by_.seq) := r1.cell 2
                have m3 : w5.cell? ⟨w.heap.size + 1, 3, none⟩ = some (.int .i64 l.by_.attempt) := r1.cell 3
                have m4 : w5.cell? ⟨w.heap.size + 1, 4, none⟩ = some (.int .i64 l.home) := r1.cell 4
                have m5 : w5.cell? ⟨w.heap.size + 1, 5, none⟩ = some (.int .i64 l.at_.wall) := r1.cell 5
                have m6 : w5.cell? ⟨w.heap.size + 1, 6, none⟩ = some (.int .i64 l.at_.tie) := r1.cell 6
                have m7 : w5.cell? ⟨w.heap.size + 1, 7, none⟩ = some (.bool x.drop) := r1.cell 7
                have m8 : w5.cell? ⟨w.heap.size + 1, 8, none⟩ = some (.string (str x.data)) := r1.cell 8
                have hne1 : g ≠ w.heap.size + 1 := by omega
                have z5 := r1.lt
                clear r1 hfz hn5 hn5' hlt
                go_region
                all_goals
                  go_wp2
                  go_ret
                  have hup := Hown5.out.upd (W := setsW w5 g (Aa.length * 12 + 2) [.bool true, .int .i64 l.by_.node, .int .i64 l.by_.life, .int .i64 l.by_.seq, .int .i64 l.by_.attempt, .int .i64 l.home, .int .i64 l.at_.wall, .int .i64 l.at_.tie, .bool x.drop, .string (str x.data)]) (lockW x l) rfl (by rw [lockCs, Hlk.out])
                  rw [E5.out]
                  simp only [setsW] at hup
                  refine ⟨_, rfl, (hup.1.keepAll ((Same.refl _ _).drew)).lower (by omega), ?_⟩
                  exact HS5.out.trans' hup.2.drew fun q hq _ => by omega
          | cons d Z' =>
            exfalso
            have h1 := HPZ.out
            rw [E6.out, HE1.out] at h1
            simp at h1
  · rw [HDR.out] at hd; cases hd
end Go.Proofs.Ytoldelocfmpccaa
