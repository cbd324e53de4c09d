/-
  Words, plain models, laws and walks that the claims of this layer share (joined by shake.py). No condition.
-/
import Derived.Test.YtoldelocfmpccaaS1
import Derived.Test.YtoldelocfmpccaaS2
import Derived.Test.YtoldelocfmpccaaS3
set_option linter.unusedSimpArgs false
set_option linter.unusedVariables false
namespace Go.Proofs.Ytoldelocfmpccaa
open Go.RowKit
def wrCs (w : Wr) : List Value := [.string (str w.key), .bool w.drop, .string (str w.data)]
abbrev wrV (w : Wr) : Value := .agg #[.string (str w.key), .bool w.drop, .string (str w.data)]
theorem OwnC.head {w : World} {B : Nat} {v : Value} {cs : List Cel} (h : OwnC w B v cs) (h0 : 0 < cs.length) : ∃ g n cap, v = .slice (some ⟨g, 0, none⟩) n cap ∧ n = cs.length ∧ n ≤ cap ∧ cap ≤ maxLen ∧ B ≤ g ∧ g < w.heap.size ∧ ∀ j, w.frozen? ⟨g, j, none⟩ = false := by
  obtain ⟨us, u1, u2, _⟩ := h
  have hul : (us.zip cs).length = cs.length := by simp [u1]
  rcases u2.ways with ⟨_, h0'⟩ | ⟨g, cap, cur, h1, hB, hr, hc, hm, _⟩
  · rw [h0'] at hul; simp at hul; omega
  · exact ⟨g, _, cap, h1, hul, hc, hm, hB, hr.lt, hr.frozen⟩
theorem OwnC.at12 {w : World} {B g n cap : Nat} {cs : List Cel} (h : OwnC w B (.slice (some ⟨g, 0, none⟩) n cap) cs) {i : Nat} (hi : i < cs.length) : ∃ u2 u3 u4 u5 u6 u7 u8 u9 u10 u11 : Value,
    w.cell? ⟨g, i * 12 + 2, none⟩ = some u2 ∧ w.cell? ⟨g, i * 12 + 3, none⟩ = some u3 ∧ w.cell? ⟨g, i * 12 + 4, none⟩ = some u4 ∧ w.cell? ⟨g, i * 12 + 5, none⟩ = some u5 ∧ w.cell? ⟨g, i * 12 + 6, none⟩ = some u6 ∧ w.cell? ⟨g, i * 12 + 7, none⟩ = some u7 ∧ w.cell? ⟨g, i * 12 + 8, none⟩ = some u8 ∧ w.cell? ⟨g, i * 12 + 9, none⟩ = some u9 ∧ w.cell? ⟨g, i * 12 + 10, none⟩ = some u10 ∧ w.cell? ⟨g, i * 12 + 11, none⟩ = some u11 := by
  obtain ⟨ad, u, e, -, -, -, -, h⟩ := h.cells12 hi
  injection e with e
  subst e
  simp only [add_none, Nat.zero_add] at h
  exact ⟨_, _, _, _, _, _, _, _, _, _, h⟩
theorem lck_of (l : Lck) : lckCs l = [.int .i64 l.by_.node, .int .i64 l.by_.life, .int .i64 l.by_.seq, .int .i64 l.by_.attempt, .int .i64 l.home, .int .i64 l.at_.wall, .int .i64 l.at_.tie, .bool l.drop, .string (str l.data)] := rfl
set_option maxHeartbeats 4000000 in
theorem mvlock_any (v : Value) (cs : List Cel) (x : Wr) (l : Lck) (S : Nat → Prop) (w : World) (hv : CelR w S v cs) (hn : cs.length ≤ 100000) (hn2 : ∀ c ∈ cs, c.vers.length ≤ 1000000) (hso : Sorted cs) :
    Calls Try.prog 26 #[v, wrV x, lckV l] w (AllP (lockF cs x.key (lockW x l)) w) := by
  obtain ⟨A, cp, rfl, hc, hm⟩ := hv.form
  have Hv := Lib.hid hv
  have Hn2 := Lib.hid hn2
  have Hso := Lib.hid hso
  obtain ⟨Aa, o, Z, e1, e2, e3, e4, e5, e6, e7⟩ := split_at (k := x.key) ((sorted_iff cs).1 hso)
  have e5 := e5 (lockW x l)
  unfold maxLen at hm
  have r0 := (Row.new w 24 (wrCs x)).keep ((Same.refl (fun _ => True) _).alloc (.cells (lckCs l).toArray 30)) trivial
  have r1 := Row.new (w.alloc (.cells (wrCs x).toArray 24)) 30 (lckCs l)
  have hS0 := ((Same.refl (fun _ => True) w).alloc (.cells (wrCs x).toArray 24)).alloc (.cells (lckCs l).toArray 30)
  rw [World.size_alloc] at r1
  have hsz : (w.alloc (.cells (wrCs x).toArray 24) |>.alloc (.cells (lckCs l).toArray 30)).heap.size = w.heap.size + 2 := by rw [World.size_alloc, World.size_alloc]
  have E1 := Lib.hid e1
  have E4 := Lib.hid e4
  have E5 := Lib.hid e5
  clear hv hn2 hso e1 e2 e3 e4 e5
  obtain ⟨cf, hcf⟩ : ∃ cf, cf = foundF cs x.key := ⟨_, rfl⟩
  go_enter Try.func26, Try.ntmps26
  go_wp2
  revert r0 r1 hS0 hsz
  simp only [wrCs, lckCs]
  generalize (w.alloc _).alloc _ = W0
  intro r0 r1 hS0 hsz
  have b0 : W0.cell? ⟨w.heap.size, 0, none⟩ = some (.string (str x.key)) := r0.cell 0
  have b1 : W0.cell? ⟨w.heap.size, 1, none⟩ = some (.bool x.drop) := r0.cell 1
  have b2 : W0.cell? ⟨w.heap.size, 2, none⟩ = some (.string (str x.data)) := r0.cell 2
  have l7 : W0.cell? ⟨w.heap.size + 1, 7, none⟩ = some (.bool l.drop) := r1.cell 7
  have l8 : W0.cell? ⟨w.heap.size + 1, 8, none⟩ = some (.string (str l.data)) := r1.cell 8
  have f7 := r1.frozen 7
  have f8 := r1.frozen 8
  have z0 := r0.lt
  have z1 := r1.lt
  have R0 := Lib.hid r0
  have R1 := Lib.hid r1
  have HS0 := Lib.hid hS0
  have Hsz := Lib.hid hsz
  clear r0 r1 hS0 hsz
  go_region
  go_wp2_with (with_reducible refine stopDst 17 rfl ?_)
  unfold Hid
  have r1 := (R1.out.set_ 7 (.bool x.drop)).set_ 8 (.string (str x.data))
  have hS1 : Same (fun q => q ≠ w.heap.size + 1) W0 ((W0.setCell ⟨w.heap.size + 1, 7, none⟩ (.bool x.drop)).setCell ⟨w.heap.size + 1, 8, none⟩ (.string (str x.data))).drew := (((Same.refl _ _).setCell (fun _ h => h rfl) _).setCell (fun _ h => h rfl) _).drew
  have r1 := r1.keep ((Same.refl (fun _ => True) _).drew) trivial
  have hsz1 : ((W0.setCell ⟨w.heap.size + 1, 7, none⟩ (.bool x.drop)).setCell ⟨w.heap.size + 1, 8, none⟩ (.string (str x.data))).drew.heap.size = w.heap.size + 2 := by rw [← Hsz.out]; simp [World.setCell, World.drew]
  revert hsz1 hS1 r1
  generalize ((W0.setCell ⟨w.heap.size + 1, 7, none⟩ (.bool x.drop)).setCell ⟨w.heap.size + 1, 8, none⟩ (.string (str x.data))).drew = W1
  intro hS1 r1 hsz1
  have r1 : Row W1 (w.heap.size + 1) 30 [.int .i64 l.by_.node, .int .i64 l.by_.life, .int .i64 l.by_.seq, .int .i64 l.by_.attempt, .int .i64 l.home, .int .i64 l.at_.wall, .int .i64 l.at_.tie, .bool x.drop, .string (str x.data)] := r1
  have r0 := R0.out.keep hS1 (by omega)
  have b0 : W1.cell? ⟨w.heap.size, 0, none⟩ = some (.string (str x.key)) := r0.cell 0
  have b1 : W1.cell? ⟨w.heap.size, 1, none⟩ = some (.bool x.drop) := r0.cell 1
  have l8 : W1.cell? ⟨w.heap.size + 1, 8, none⟩ = some (.string (str x.data)) := r1.cell 8
  have f8 := r1.frozen 8
  have z1 := r1.lt
  have R0 := Lib.hid r0
  have R1 := Lib.hid r1
  have Hsz := Lib.hid hsz1
  have hS2 : Same (fun _ => True) w W1 := HS0.out.trans' hS1 fun q hq _ => by omega
  have HS0 := Lib.hid hS2
  clear r0 r1 hS1 hsz1 hS2 b2 l7 f7 z0
  cases hd : x.drop
  · rw [hd] at b1
    have hlk : lckCs (lockW x l) = [.int .i64 l.by_.node, .int .i64 l.by_.life, .int .i64 l.by_.seq, .int .i64 l.by_.attempt, .int .i64 l.home, .int .i64 l.at_.wall, .int .i64 l.at_.tie, .bool x.drop, .string (str x.data)] := by simp [lck_of, lockW, hd]
    have Hlk := Lib.hid hlk
    have Hd := Lib.hid hd
    clear hlk hd
    go_wp2_with (go_at_call 67; refine stopAt ?_)
    unfold Hid
    obtain ⟨W2, hW2⟩ : ∃ W2, W2 = W1 := ⟨_, rfl⟩
    subst hW2
    have hsz2 := Hsz.out
    refine (all_any (.slice A cs.length cp) cs S W2 (Hv.out.keepAll HS0.out) hn Hn2.out).mono ?_
    rintro e w3 ⟨v3, rfl, hown3, hS3⟩
    obtain ⟨A3, n3, c3, rfl, hl3, hm3⟩ := hown3.form3
    unfold maxLen at hm3
    have r0 := R0.out.keep hS3 trivial
    have r1 := R1.out.keep hS3 trivial
    have b0 : w3.cell? ⟨w.heap.size, 0, none⟩ = some (.string (str x.key)) := r0.cell 0
    have z1 := r1.lt
    have R0 := Lib.hid r0
    have R1 := Lib.hid r1
    have Hown3 := Lib.hid hown3
    have hS03 := HS0.out.trans hS3
    have HS0 := Lib.hid hS03
    have hz3 := hS3.size
    clear r0 r1 hown3 hS3 hS03 b1 l8 f8
    go_wp2_with (go_at_call 68; refine stopAt ?_)
    unfold Hid
    refine (mvfind_any (.slice A3 n3 c3) cs x.key _ w3 Hown3.out.reads Hso.out (by omega)).mono ?_
    rintro e w4 ⟨rfl, hS4⟩
    rw [e6, e7]
    have r0 := R0.out.keep hS4 trivial
    have r1 := R1.out.keep hS4 trivial
    have b0 : w4.cell? ⟨w.heap.size, 0, none⟩ = some (.string (str x.key)) := r0.cell 0
    have z1 := r1.lt
    have R0 := Lib.hid r0
    have R1 := Lib.hid r1
    have hown4 := Hown3.out.keepAll hS4
    rw [E1.out] at hown4
    have hS04 := HS0.out.trans hS4
    have HS0 := Lib.hid hS04
    have hz4 := hS4.size
    have hB : W2.heap.size ≤ w4.heap.size := by omega
    have Hown4 := Lib.hid hown4
    clear r0 r1 hS4 hS04 hown4
    cases o with
    | some c =>
      obtain ⟨w5, hw5⟩ : ∃ w5, w5 = w4 := ⟨_, rfl⟩
      subst hw5
      have hown5 := Hown4.out
      simp only [Option.toList_some, List.singleton_append] at hown5
      have Hown5 := Lib.hid hown5
      have HS5 := HS0
      rw [Option.getD_some] at E5
      clear hown5 e6 e7 Hown4
      go_wp2
      have hlt : Aa.length < (Aa ++ c :: Z).length := by simp
      obtain ⟨g, n5, cap5, hv5, hn5, hc5, hm5, hBg, hg5, hfz⟩ := Hown5.out.head (by rw [List.length_append, List.length_cons]; omega)
      injection hv5 with hv5 hv6 hv7
      subst hv5 hv6 hv7
      have hn5' : n3 = Aa.length + 1 + Z.length := by rw [hn5]; simp; omega
      obtain ⟨k2, k3, k4, k5, k6, k7, k8, k9, k10, k11, y2, y3, y4, y5, y6, y7, y8, y9, y10, y11⟩ := Hown5.out.at12 hlt
      have q1 : (0 : Int) ≤ (Aa.length : Int) := by omega
      have q2 : (Aa.length : Int) < (n3 : Int) := by omega
      have f2 := hfz (Aa.length * 12 + 2)
      have f3 := hfz (Aa.length * 12 + 3)
      have f4 := hfz (Aa.length * 12 + 4)
      have f5 := hfz (Aa.length * 12 + 5)
      have f6 := hfz (Aa.length * 12 + 6)
      have f7 := hfz (Aa.length * 12 + 7)
      have f8 := hfz (Aa.length * 12 + 8)
      have f9 := hfz (Aa.length * 12 + 9)
      have f10 := hfz (Aa.length * 12 + 10)
      have f11 := hfz (Aa.length * 12 + 11)
      have r1 := R1.out
      have m0 : w5.cell? ⟨w.heap.size + 1, 0, none⟩ = some (.int .i64 l.by_.node) := r1.cell 0
      have m1 : w5.cell? ⟨w.heap.size + 1, 1, none⟩ = some (.int .i64 l.by_.life) := r1.cell 1
      have m2 : w5.cell? ⟨w.heap.size + 1, 2, none⟩ = some (.int .i64 l.by_.seq) := r1.cell 2
      have m3 : w5.cell? ⟨w.heap.size + 1, 3, none⟩ = some (.int .i64 l.by_.attempt) := r1.cell 3
      have m4 : w5.cell? ⟨w.heap.size + 1, 4, none⟩ = some (.int .i64 l.home) := r1.cell 4
      have m5 : w5.cell? ⟨w.heap.size + 1, 5, none⟩ = some (.int .i64 l.at_.wall) := r1.cell 5
      have m6 : w5.cell? ⟨w.heap.size + 1, 6, none⟩ = some (.int .i64 l.at_.tie) := r1.cell 6
      have m7 : w5.cell? ⟨w.heap.size + 1, 7, none⟩ = some (.bool x.drop) := r1.cell 7
      have m8 : w5.cell? ⟨w.heap.size + 1, 8, none⟩ = some (.string (str x.data)) := r1.cell 8
      have hne1 : g ≠ w.heap.size + 1 := by omega
      have z5 := r1.lt
      clear r1 hfz hn5 hn5' hlt
      go_region
      go_wp2
      go_ret
      have hup := Hown5.out.upd (W := setsW w5 g (Aa.length * 12 + 2) [.bool true, .int .i64 l.by_.node, .int .i64 l.by_.life, .int .i64 l.by_.seq, .int .i64 l.by_.attempt, .int .i64 l.home, .int .i64 l.at_.wall, .int .i64 l.at_.tie, .bool x.drop, .string (str x.data)]) (lockW x l) rfl (by rw [lockCs, Hlk.out])
      rw [E5.out]
      simp only [setsW] at hup
      refine ⟨_, rfl, (hup.1.keepAll ((Same.refl _ _).drew)).lower (by omega), ?_⟩
      exact HS5.out.trans' hup.2.drew fun q hq _ => by omega
    | none =>
      have hown5 := Hown4.out
      simp only [Option.toList_none, List.nil_append] at hown5
      have Hown4 := Lib.hid hown5
      rw [Option.getD_none] at E5
      have E1' : cs = Aa ++ Z := by have := E1.out; simpa using this
      have HE1 := Lib.hid E1'
      have hlA : Aa.length ≤ (Aa ++ Z).length := by simp
      have hlc : (Aa ++ Z).length ≤ 1000000 := by rw [← E1']; omega
      have hsb := (Same.refl (fun _ => True) w4).alloc (.cells (celCs (.slice none 0 0, freshC x.key)).toArray 64)
      have gi := insC_any (.slice A3 n3 c3) (Aa ++ Z) x.key Aa.length w4.heap.size W2.heap.size (w4.alloc (.cells (celCs (.slice none 0 0, freshC x.key)).toArray 64)) (hown5.keepAll hsb) (Row.new _ _ _) (fun e => by
        obtain ⟨us, _, u2, _⟩ := hown5
        have := (u2.lt_ e).2
        omega) hlA hlc (by have := hsb.size; omega)
      rw [List.take_left, List.drop_left] at gi
      have hown6 : ∀ k, (Value.slice A3 n3 c3).ownBlock = some k → W2.heap.size ≤ k := fun k e => by
        obtain ⟨us, _, u2, _⟩ := hown5
        exact (u2.lt_ e).1
      have Hown6 := Lib.hid hown6
      have Gi := Lib.hid gi
      have Hsb := Lib.hid hsb
      clear hown5 hown6 e6 e7 E1' hlA hlc gi hsb
      go_wp2_with (go_at_call 69; refine stopAt ?_)
      unfold Hid
      refine Gi.out.mono ?_
      rintro e w5 ⟨v5, rfl, hown5, hS5⟩
      have hS45 : Same (fun q => q < W2.heap.size) w4 w5 := (Hsb.out.mono fun _ _ _ => trivial).trans (hS5.mono fun q _ hq e => by have := Hown6.out q e.symm; omega)
      have r1 := R1.out.keep hS45 (by omega)
      have R1 := Lib.hid r1
      have hS05 : Same (fun _ => True) w w5 := HS0.out.trans' hS45 fun q hq _ => by omega
      have HS5 := Lib.hid hS05
      have Hown5 := Lib.hid hown5
      clear r1 hS45 hS05 hown5 hS5 z1 Gi
      go_wp2
      have hlt : Aa.length < (Aa ++ freshC x.key :: Z).length := by simp
      obtain ⟨g, n5, cap5, hv5, hn5, hc5, hm5, hBg, hg5, hfz⟩ := Hown5.out.head (by rw [List.length_append, List.length_cons]; omega)
      subst hv5
      have hn5' : n5 = Aa.length + 1 + Z.length := by rw [hn5]; simp; omega
      obtain ⟨k2, k3, k4, k5, k6, k7, k8, k9, k10, k11, y2, y3, y4, y5, y6, y7, y8, y9, y10, y11⟩ := Hown5.out.at12 hlt
      have q1 : (0 : Int) ≤ (Aa.length : Int) := by omega
      have q2 : (Aa.length : Int) < (n5 : Int) := by omega
      have f2 := hfz (Aa.length * 12 + 2)
      have f3 := hfz (Aa.length * 12 + 3)
      have f4 := hfz (Aa.length * 12 + 4)
      have f5 := hfz (Aa.length * 12 + 5)
      have f6 := hfz (Aa.length * 12 + 6)
      have f7 := hfz (Aa.length * 12 + 7)
      have f8 := hfz (Aa.length * 12 + 8)
      have f9 := hfz (Aa.length * 12 + 9)
      have f10 := hfz (Aa.length * 12 + 10)
      have f11 := hfz (Aa.length * 12 + 11)
      have r1 := R1.out
      have m0 : w5.cell? ⟨w.heap.size + 1, 0, none⟩ = some (.int .i64 l.by_.node) := r1.cell 0
      have m1 : w5.cell? ⟨w.heap.size + 1, 1, none⟩ = some (.int .i64 l.by_.life) := r1.cell 1
      have m2 : w5.cell? ⟨w.heap.size + 1, 2, none⟩ = some (.int .i64 l.by_.seq) := r1.cell 2
      have m3 : w5.cell? ⟨w.heap.size + 1, 3, none⟩ = some (.int .i64 l.by_.attempt) := r1.cell 3
      have m4 : w5.cell? ⟨w.heap.size + 1, 4, none⟩ = some (.int .i64 l.home) := r1.cell 4
      have m5 : w5.cell? ⟨w.heap.size + 1, 5, none⟩ = some (.int .i64 l.at_.wall) := r1.cell 5
      have m6 : w5.cell? ⟨w.heap.size + 1, 6, none⟩ = some (.int .i64 l.at_.tie) := r1.cell 6
      have m7 : w5.cell? ⟨w.heap.size + 1, 7, none⟩ = some (.bool x.drop) := r1.cell 7
      have m8 : w5.cell? ⟨w.heap.size + 1, 8, none⟩ = some (.string (str x.data)) := r1.cell 8
      have hne1 : g ≠ w.heap.size + 1 := by omega
      have z5 := r1.lt
      clear r1 hfz hn5 hn5' hlt
      go_region
      go_wp2
      go_ret
      have hup := Hown5.out.upd (W := setsW w5 g (Aa.length * 12 + 2) [.bool true, .int .i64 l.by_.node, .int .i64 l.by_.life, .int .i64 l.by_.seq, .int .i64 l.by_.attempt, .int .i64 l.home, .int .i64 l.at_.wall, .int .i64 l.at_.tie, .bool x.drop, .string (str x.data)]) (lockW x l) rfl (by rw [lockCs, Hlk.out])
      rw [E5.out]
      simp only [setsW] at hup
      refine ⟨_, rfl, (hup.1.keepAll ((Same.refl _ _).drew)).lower (by omega), ?_⟩
      exact HS5.out.trans' hup.2.drew fun q hq _ => by omega
  · rw [hd] at b1
    have hlk : lckCs (lockW x l) = [.int .i64 l.by_.node, .int .i64 l.by_.life, .int .i64 l.by_.seq, .int .i64 l.by_.attempt, .int .i64 l.home, .int .i64 l.at_.wall, .int .i64 l.at_.tie, .bool x.drop, .string ⟨#[]⟩] := by simp [lck_of, lockW, hd, str]
    have Hlk := Lib.hid hlk
    have Hd := Lib.hid hd
    clear hlk hd
    go_wp2_with (go_at_call 67; refine stopAt ?_)
    unfold Hid
    have r1 := R1.out.set_ 8 (.string ⟨#[]⟩)
    have hS1 : Same (fun q => q ≠ w.heap.size + 1) W1 (W1.setCell ⟨w.heap.size + 1, 8, none⟩ (.string ⟨#[]⟩)) := (Same.refl _ _).setCell (fun _ h => h rfl) _
    have hsz1 : (W1.setCell ⟨w.heap.size + 1, 8, none⟩ (.string ⟨#[]⟩)).heap.size = w.heap.size + 2 := by rw [← Hsz.out]; simp [World.setCell]
    generalize W1.setCell ⟨w.heap.size + 1, 8, none⟩ (.string ⟨#[]⟩) = W2 at *
    have r1 : Row W2 (w.heap.size + 1) 30 [.int .i64 l.by_.node, .int .i64 l.by_.life, .int .i64 l.by_.seq, .int .i64 l.by_.attempt, .int .i64 l.home, .int .i64 l.at_.wall, .int .i64 l.at_.tie, .bool x.drop, .string ⟨#[]⟩] := r1
    have r0 := R0.out.keep hS1 (by omega)
    have R0 := Lib.hid r0
    have R1 := Lib.hid r1
    have Hsz := Lib.hid hsz1
    have hS2 : Same (fun _ => True) w W2 := HS0.out.trans' hS1 fun q hq _ => by omega
    have HS0 := Lib.hid hS2
    clear r0 r1 hS1 hsz1 hS2 b0
    have hsz2 := Hsz.out
    refine (all_any (.slice A cs.length cp) cs S W2 (Hv.out.keepAll HS0.out) hn Hn2.out).mono ?_
    rintro e w3 ⟨v3, rfl, hown3, hS3⟩
    obtain ⟨A3, n3, c3, rfl, hl3, hm3⟩ := hown3.form3
    unfold maxLen at hm3
    have r0 := R0.out.keep hS3 trivial
    have r1 := R1.out.keep hS3 trivial
    have b0 : w3.cell? ⟨w.heap.size, 0, none⟩ = some (.string (str x.key)) := r0.cell 0
    have z1 := r1.lt
    have R0 := Lib.hid r0
    have R1 := Lib.hid r1
    have Hown3 := Lib.hid hown3
    have hS03 := HS0.out.trans hS3
    have HS0 := Lib.hid hS03
    have hz3 := hS3.size
    clear r0 r1 hown3 hS3 hS03 b1 l8 f8
    go_wp2_with (go_at_call 68; refine stopAt ?_)
    unfold Hid
    refine (mvfind_any (.slice A3 n3 c3) cs x.key _ w3 Hown3.out.reads Hso.out (by omega)).mono ?_
    rintro e w4 ⟨rfl, hS4⟩
    rw [e6, e7]
    have r0 := R0.out.keep hS4 trivial
    have r1 := R1.out.keep hS4 trivial
    have b0 : w4.cell? ⟨w.heap.size, 0, none⟩ = some (.string (str x.key)) := r0.cell 0
    have z1 := r1.lt
    have R0 := Lib.hid r0
    have R1 := Lib.hid r1
    have hown4 := Hown3.out.keepAll hS4
    rw [E1.out] at hown4
    have hS04 := HS0.out.trans hS4
    have HS0 := Lib.hid hS04
    have hz4 := hS4.size
    have hB : W2.heap.size ≤ w4.heap.size := by omega
    have Hown4 := Lib.hid hown4
    clear r0 r1 hS4 hS04 hown4
    cases o with
    | some c =>
      obtain ⟨w5, hw5⟩ : ∃ w5, w5 = w4 := ⟨_, rfl⟩
      subst hw5
      have hown5 := Hown4.out
      simp only [Option.toList_some, List.singleton_append] at hown5
      have Hown5 := Lib.hid hown5
      have HS5 := HS0
      rw [Option.getD_some] at E5
      clear hown5 e6 e7 Hown4
      go_wp2
      have hlt : Aa.length < (Aa ++ c :: Z).length := by simp
      obtain ⟨g, n5, cap5, hv5, hn5, hc5, hm5, hBg, hg5, hfz⟩ := Hown5.out.head (by rw [List.length_append, List.length_cons]; omega)
      injection hv5 with hv5 hv6 hv7
      subst hv5 hv6 hv7
      have hn5' : n3 = Aa.length + 1 + Z.length := by rw [hn5]; simp; omega
      obtain ⟨k2, k3, k4, k5, k6, k7, k8, k9, k10, k11, y2, y3, y4, y5, y6, y7, y8, y9, y10, y11⟩ := Hown5.out.at12 hlt
      have q1 : (0 : Int) ≤ (Aa.length : Int) := by omega
      have q2 : (Aa.length : Int) < (n3 : Int) := by omega
      have f2 := hfz (Aa.length * 12 + 2)
      have f3 := hfz (Aa.length * 12 + 3)
      have f4 := hfz (Aa.length * 12 + 4)
      have f5 := hfz (Aa.length * 12 + 5)
      have f6 := hfz (Aa.length * 12 + 6)
      have f7 := hfz (Aa.length * 12 + 7)
      have f8 := hfz (Aa.length * 12 + 8)
      have f9 := hfz (Aa.length * 12 + 9)
      have f10 := hfz (Aa.length * 12 + 10)
      have f11 := hfz (Aa.length * 12 + 11)
      have r1 := R1.out
      have m0 : w5.cell? ⟨w.heap.size + 1, 0, none⟩ = some (.int .i64 l.by_.node) := r1.cell 0
      have m1 : w5.cell? ⟨w.heap.size + 1, 1, none⟩ = some (.int .i64 l.by_.life) := r1.cell 1
      have m2 : w5.cell? ⟨w.heap.size + 1, 2, none⟩ = some (.int .i64 l.by_.seq) := r1.cell 2
      have m3 : w5.cell? ⟨w.heap.size + 1, 3, none⟩ = some (.int .i64 l.by_.attempt) := r1.cell 3
      have m4 : w5.cell? ⟨w.heap.size + 1, 4, none⟩ = some (.int .i64 l.home) := r1.cell 4
      have m5 : w5.cell? ⟨w.heap.size + 1, 5, none⟩ = some (.int .i64 l.at_.wall) := r1.cell 5
      have m6 : w5.cell? ⟨w.heap.size + 1, 6, none⟩ = some (.int .i64 l.at_.tie) := r1.cell 6
      have m7 : w5.cell? ⟨w.heap.size + 1, 7, none⟩ = some (.bool x.drop) := r1.cell 7
      have m8 : w5.cell? ⟨w.heap.size + 1, 8, none⟩ = some (.string ⟨#[]⟩) := r1.cell 8
      have hne1 : g ≠ w.heap.size + 1 := by omega
      have z5 := r1.lt
      clear r1 hfz hn5 hn5' hlt
      go_region
      go_wp2
      go_ret
      have hup := Hown5.out.upd (W := setsW w5 g (Aa.length * 12 + 2) [.bool true, .int .i64 l.by_.node, .int .i64 l.by_.life, .int .i64 l.by_.seq, .int .i64 l.by_.attempt, .int .i64 l.home, .int .i64 l.at_.wall, .int .i64 l.at_.tie, .bool x.drop, .string ⟨#[]⟩]) (lockW x l) rfl (by rw [lockCs, Hlk.out])
      rw [E5.out]
      simp only [setsW] at hup
      refine ⟨_, rfl, (hup.1.keepAll ((Same.refl _ _).drew)).lower (by omega), ?_⟩
      exact HS5.out.trans' hup.2.drew fun q hq _ => by omega
    | none =>
      have hown5 := Hown4.out
      simp only [Option.toList_none, List.nil_append] at hown5
      have Hown4 := Lib.hid hown5
      rw [Option.getD_none] at E5
      have E1' : cs = Aa ++ Z := by have := E1.out; simpa using this
      have HE1 := Lib.hid E1'
      have hlA : Aa.length ≤ (Aa ++ Z).length := by simp
      have hlc : (Aa ++ Z).length ≤ 1000000 := by rw [← E1']; omega
      have hsb := (Same.refl (fun _ => True) w4).alloc (.cells (celCs (.slice none 0 0, freshC x.key)).toArray 64)
      have gi := insC_any (.slice A3 n3 c3) (Aa ++ Z) x.key Aa.length w4.heap.size W2.heap.size (w4.alloc (.cells (celCs (.slice none 0 0, freshC x.key)).toArray 64)) (hown5.keepAll hsb) (Row.new _ _ _) (fun e => by
        obtain ⟨us, _, u2, _⟩ := hown5
        have := (u2.lt_ e).2
        omega) hlA hlc (by have := hsb.size; omega)
      rw [List.take_left, List.drop_left] at gi
      have hown6 : ∀ k, (Value.slice A3 n3 c3).ownBlock = some k → W2.heap.size ≤ k := fun k e => by
        obtain ⟨us, _, u2, _⟩ := hown5
        exact (u2.lt_ e).1
      have Hown6 := Lib.hid hown6
      have Gi := Lib.hid gi
      have Hsb := Lib.hid hsb
      clear hown5 hown6 e6 e7 E1' hlA hlc gi hsb
      go_wp2_with (go_at_call 69; refine stopAt ?_)
      unfold Hid
      refine Gi.out.mono ?_
      rintro e w5 ⟨v5, rfl, hown5, hS5⟩
      have hS45 : Same (fun q => q < W2.heap.size) w4 w5 := (Hsb.out.mono fun _ _ _ => trivial).trans (hS5.mono fun q _ hq e => by have := Hown6.out q e.symm; omega)
      have r1 := R1.out.keep hS45 (by omega)
      have R1 := Lib.hid r1
      have hS05 : Same (fun _ => True) w w5 := HS0.out.trans' hS45 fun q hq _ => by omega
      have HS5 := Lib.hid hS05
      have Hown5 := Lib.hid hown5
      clear r1 hS45 hS05 hown5 hS5 z1 Gi
      go_wp2
      have hlt : Aa.length < (Aa ++ freshC x.key :: Z).length := by simp
      obtain ⟨g, n5, cap5, hv5, hn5, hc5, hm5, hBg, hg5, hfz⟩ := Hown5.out.head (by rw [List.length_append, List.length_cons]; omega)
      subst hv5
      have hn5' : n5 = Aa.length + 1 + Z.length := by rw [hn5]; simp; omega
      obtain ⟨k2, k3, k4, k5, k6, k7, k8, k9, k10, k11, y2, y3, y4, y5, y6, y7, y8, y9, y10, y11⟩ := Hown5.out.at12 hlt
      have q1 : (0 : Int) ≤ (Aa.length : Int) := by omega
      have q2 : (Aa.length : Int) < (n5 : Int) := by omega
      have f2 := hfz (Aa.length * 12 + 2)
      have f3 := hfz (Aa.length * 12 + 3)
      have f4 := hfz (Aa.length * 12 + 4)
      have f5 := hfz (Aa.length * 12 + 5)
      have f6 := hfz (Aa.length * 12 + 6)
      have f7 := hfz (Aa.length * 12 + 7)
      have f8 := hfz (Aa.length * 12 + 8)
      have f9 := hfz (Aa.length * 12 + 9)
      have f10 := hfz (Aa.length * 12 + 10)
      have f11 := hfz (Aa.length * 12 + 11)
      have r1 := R1.out
      have m0 : w5.cell? ⟨w.heap.size + 1, 0, none⟩ = some (.int .i64 l.by_.node) := r1.cell 0
      have m1 : w5.cell? ⟨w.heap.size + 1, 1, none⟩ = some (.int .i64 l.by_.life) := r1.cell 1
      have m2 : w5.cell? ⟨w.heap.size + 1, 2, none⟩ = some (.int .i64 l.by_.seq) := r1.cell 2
      have m3 : w5.cell? ⟨w.heap.size + 1, 3, none⟩ = some (.int .i64 l.by_.attempt) := r1.cell 3
      have m4 : w5.cell? ⟨w.heap.size + 1, 4, none⟩ = some (.int .i64 l.home) := r1.cell 4
      have m5 : w5.cell? ⟨w.heap.size + 1, 5, none⟩ = some (.int .i64 l.at_.wall) := r1.cell 5
      have m6 : w5.cell? ⟨w.heap.size + 1, 6, none⟩ = some (.int .i64 l.at_.tie) := r1.cell 6
      have m7 : w5.cell? ⟨w.heap.size + 1, 7, none⟩ = some (.bool x.drop) := r1.cell 7
      have m8 : w5.cell? ⟨w.heap.size + 1, 8, none⟩ = some (.string ⟨#[]⟩) := r1.cell 8
      have hne1 : g ≠ w.heap.size + 1 := by omega
      have z5 := r1.lt
      clear r1 hfz hn5 hn5' hlt
      go_region
      go_wp2
      go_ret
      have hup := Hown5.out.upd (W := setsW w5 g (Aa.length * 12 + 2) [.bool true, .int .i64 l.by_.node, .int .i64 l.by_.life, .int .i64 l.by_.seq, .int .i64 l.by_.attempt, .int .i64 l.home, .int .i64 l.at_.wall, .int .i64 l.at_.tie, .bool x.drop, .string ⟨#[]⟩]) (lockW x l) rfl (by rw [lockCs, Hlk.out])
      rw [E5.out]
      simp only [setsW] at hup
      refine ⟨_, rfl, (hup.1.keepAll ((Same.refl _ _).drew)).lower (by omega), ?_⟩
      exact HS5.out.trans' hup.2.drew fun q hq _ => by omega
end Go.Proofs.Ytoldelocfmpccaa
namespace Go.Proofs.Ytoldelocfmpccaa
open Go.RowKit
set_option maxHeartbeats 2000000 in
theorem mvtrim_any (v : Value) (cs : List Cel) (a : St) (S : Nat → Prop) (w : World) (hv : CelR w S v cs) (hn : cs.length ≤ 100000) (hn2 : ∀ c ∈ cs, c.vers.length ≤ 1000000) :
    Calls Try.prog 32 #[v, stV a] w (AllP (trimF cs a) w) := by
  obtain ⟨A, cp, rfl, hc, hm⟩ := hv.form
  have Hv := Lib.hid hv
  have Hn2 := Lib.hid hn2
  have hr1 := Row.new w 28 (stCs a)
  have Hr1 := Lib.hid hr1
  unfold maxLen at hm
  clear hv hn2 hr1
  go_enter Try.func32, Try.ntmps32
  go_wp2
  go_loopw [5, 7, 8, 11] (fun l _ _ i wr => ∃ k : Nat, i = .int .i64 k ∧ k ≤ cs.length ∧ OwnC wr (w.heap.size + 1) l (trimF (cs.take k) a) ∧ Row wr w.heap.size 28 (stCs a) ∧ Same (fun _ => True) w wr) (fun _ _ _ i _ => cs.length - (intOf i).toNat)
  case atStart => exact ⟨0, rfl, Nat.zero_le _, by rw [List.take_zero]; exact OwnC.nil _ _, Hr1.out, (Same.refl _ _).alloc _⟩
  case round =>
    obtain ⟨k, rfl, hk, hown, hr1, hS⟩ := hrel
    have HS := Lib.hid hS
    have Hown := Lib.hid hown
    have Hr1 := Lib.hid hr1
    have hsz := hr1.lt
    obtain ⟨Al, nl, cl, rfl, hl1, hl2⟩ := hown.form3
    unfold maxLen at hl2
    by_cases hlt : k < cs.length
    · obtain ⟨ad, u, rfl, -, hvr, c0, c1, c2, c3, c4, c5, c6, c7, c8, c9, c10, c11⟩ := CelR.cells12 (Hv.out.keepAll hS) hlt
      obtain ⟨Au, cu, rfl, -, -⟩ := hvr.form
      have x1 : (0 : Int) ≤ (k : Int) := by omega
      have x2 : (k : Int) < (cs.length : Int) := by omega
      have hab := World.block_lt_of_cell? wr _ c0
      have htk := trimF_take (a := a) hlt
      have htl := trimF_len a (cs.take k)
      rw [List.length_take] at htl
      have hcl := Hn2.out cs[k] (List.getElem_mem hlt)
      have Htk := Lib.hid htk
      have Htl := Lib.hid htl
      have Hvr := Lib.hid hvr
      clear hvr htk hown hS hr1 htl
      generalize cs[k] = c at *
      have hrow := Row.new wr 64 (celCs (.slice Au c.vers.length cu, c))
      have Hrow := Lib.hid hrow
      have g := own_any (.slice Au c.vers.length cu) c S (wr.alloc (.cells (celCs (.slice Au c.vers.length cu, c)).toArray 64)) (RowR.keepAll Hvr.out ((Same.refl _ _).alloc _)) hcl
      clear hrow
      go_wp2_with (go_at_call 65; refine stopAt ?_)
      unfold Hid
      refine g.mono ?_
      rintro e w5 ⟨u', rfl, hown5, hS5⟩
      obtain ⟨A5, c5', rfl, hq1, hq2⟩ := hown5.form
      unfold maxLen at hq2
      have hbox := Hrow.out.keep hS5 trivial
      have hS6 := ((Same.refl (fun _ => True) wr).alloc (.cells (celCs (.slice Au c.vers.length cu, c)).toArray 64)).trans hS5
      have HS6 := Lib.hid hS6
      have Hown5 := Lib.hid hown5
      have Hbox := Lib.hid hbox
      obtain ⟨a0, a1, a2, a3, a4, a5, a6, a7, a8, a9, a10, a11, f0, f1, f2, f3, f4, f5, f6, f7, f8, f9, f10, f11⟩ := cel_cells hbox
      have z0 := hbox.lt
      have s0 : w5.cell? ⟨w.heap.size, 0, none⟩ = some (.int .i64 a.wall) := (Hr1.out.keep hS6 trivial).cell 0
      have s1 : w5.cell? ⟨w.heap.size, 1, none⟩ = some (.int .i64 a.tie) := (Hr1.out.keep hS6 trivial).cell 1
      have hne : ¬ wr.heap.size = w.heap.size := by omega
      have hne2 : ¬ w.heap.size = wr.heap.size := by omega
      clear hS5 hS6 hown5 hbox g c0 c1 c2 c3 c4 c5 c6 c7 c8 c9 c10 c11
      go_wp2_with (go_at_call 72; refine stopAt ?_)
      unfold Hid
      obtain ⟨r1, r2⟩ := cel_set12 (b0 := .string (str c.key)) (b1 := .slice A5 c.vers.length c5') (b2 := .bool c.locked) (b3 := .int .i64 c.lock.by_.node) (b4 := .int .i64 c.lock.by_.life) (b5 := .int .i64 c.lock.by_.seq) (b6 := .int .i64 c.lock.by_.attempt) (b7 := .int .i64 c.lock.home) (b8 := .int .i64 c.lock.at_.wall) (b9 := .int .i64 c.lock.at_.tie) (b10 := .bool c.lock.drop) (b11 := .string (str c.lock.data)) (fun _ h => h rfl) Hbox.out (Same.refl (fun j => j ≠ wr.heap.size) w5)
      have hown6 := Hown5.out.keep r2 fun j h1 h2 => by rw [World.size_alloc] at h1; omega
      refine (mvlast_any (.slice A5 c.vers.length c5') c.vers a _ _ (hown6.wr.row verCs_len)).mono ?_
      rintro e w7 ⟨rfl, hS7⟩
      have hbox7 := r1.keep hS7 trivial
      have hv7 := (hown6.wr.keepAll hS7).mono (S' := fun j => wr.heap.size + 1 ≤ j) fun j _ hj => by rw [World.size_alloc] at hj; omega
      have hS8 : Same (fun _ => True) wr w7 := (HS6.out.trans' r2 fun j hj _ => by omega).trans hS7
      have HS8 := Lib.hid hS8
      have Hv7 := Lib.hid hv7
      have Hbox7 := Lib.hid hbox7
      obtain ⟨b0, b1, b2, b3, b4, b5, b6, b7, b8, b9, b10, b11, -, g1, -⟩ := cel_cells hbox7
      have z7 := hbox7.lt
      have t0 : w7.cell? ⟨w.heap.size, 0, none⟩ = some (.int .i64 a.wall) := (Hr1.out.keep hS8 trivial).cell 0
      have t1 : w7.cell? ⟨w.heap.size, 1, none⟩ = some (.int .i64 a.tie) := (Hr1.out.keep hS8 trivial).cell 1
      have hbd := lastF_bd c.vers a
      clear r1 r2 hown6 hS7 hbox7 hv7 hS8 a0 a1 a2 a3 a4 a5 a6 a7 a8 a9 a10 a11 f0 f1 f2 f3 f4 f5 f6 f7 f8 f9 f10 f11 s0 s1 hne hne2
      rcases Int.lt_or_le (lastF c.vers a) 0 with hneg | hpos
      · have hi : trimV c.vers a = c.vers := by unfold trimV trimI; rw [if_pos hneg, List.drop_zero]
        have hself : ({ c with vers := trimV c.vers a } : Cel) = c := by rw [hi]
        have htc : trimC a c = if keptB c then [c] else [] := by unfold trimC; rw [hself]
        have Htc := Lib.hid htc
        clear hi hself htc
        cases hkb : keptB c
        · have hl : c.locked = false ∧ c.vers.length = 0 := by
            unfold keptB at hkb
            simp at hkb
            exact ⟨hkb.1, by rw [hkb.2]; rfl⟩
          have Hkb := Lib.hid hkb
          obtain ⟨hl1, hl2⟩ := hl
          rw [hl1] at b2
          have hl3 : (c.vers.length : Int) = 0 := by omega
          clear hkb
          go_wp2
          go_roundw
          case rel =>
            refine ⟨k + 1, by go_num, by omega, ?_, Hr1.out.keep HS8.out trivial, HS.out.trans HS8.out⟩
            rw [Htk.out, Htc.out, Hkb.out]
            simpa using Hown.out.keepAll HS8.out
          case measure => simp [intOf]; omega
        · have Hkb := Lib.hid hkb
          cases hl : c.locked
          · rw [hl] at b2
            have hl3 : (0 : Int) < (c.vers.length : Int) := by
              unfold keptB at hkb
              rw [hl] at hkb
              simp at hkb
              have := List.length_pos_iff.2 hkb
              omega
            have hcell : (#[.string (str c.key), (.slice A5 c.vers.length c5'), .bool false, .int .i64 c.lock.by_.node, .int .i64 c.lock.by_.life, .int .i64 c.lock.by_.seq, .int .i64 c.lock.by_.attempt, .int .i64 c.lock.home, .int .i64 c.lock.at_.wall, .int .i64 c.lock.at_.tie, .bool c.lock.drop, .string (str c.lock.data)] : Array Value) = (celCs ((.slice A5 c.vers.length c5'), c)).toArray := by simp [celCs, lckCs, hl]
            have Hcell := Lib.hid hcell
            clear hcell hl hkb
            go_wp2_with (at_builtin; refine stopAt ?_)
            unfold Hid
            rw [Hcell.out]
            refine wpList_appC (w := w7) (c := c) (B := w.heap.size + 1) rfl (.tmp 44) (.tmp 46) rfl rfl rfl rfl (Hown.out.keepAll HS8.out) (Hv7.out.mono fun j _ hj => by omega) (by have := HS8.out.size; omega) (by have := Htl.out; omega) ?_
            intro v' w9 hown9 hS9
            have Hown9 := Lib.hid hown9
            have HS9 := Lib.hid hS9
            clear hown9 hS9
            go_wp2
            go_roundw
            case rel =>
              refine ⟨k + 1, by go_num, by omega, ?_, (Hr1.out.keep HS8.out trivial).keep HS9.out (by omega), (HS.out.trans HS8.out).trans' HS9.out fun j hj _ => by omega⟩
              rw [Htk.out, Htc.out, Hkb.out]
              exact Hown9.out
            case measure => simp [intOf]; omega
          · rw [hl] at b2
            have hcell : (#[.string (str c.key), (.slice A5 c.vers.length c5'), .bool true, .int .i64 c.lock.by_.node, .int .i64 c.lock.by_.life, .int .i64 c.lock.by_.seq, .int .i64 c.lock.by_.attempt, .int .i64 c.lock.home, .int .i64 c.lock.at_.wall, .int .i64 c.lock.at_.tie, .bool c.lock.drop, .string (str c.lock.data)] : Array Value) = (celCs ((.slice A5 c.vers.length c5'), c)).toArray := by simp [celCs, lckCs, hl]
            have Hcell := Lib.hid hcell
            clear hcell hl hkb
            go_wp2_with (at_builtin; refine stopAt ?_)
            unfold Hid
            rw [Hcell.out]
            refine wpList_appC (w := w7) (c := c) (B := w.heap.size + 1) rfl (.tmp 44) (.tmp 46) rfl rfl rfl rfl (Hown.out.keepAll HS8.out) (Hv7.out.mono fun j _ hj => by omega) (by have := HS8.out.size; omega) (by have := Htl.out; omega) ?_
            intro v' w9 hown9 hS9
            have Hown9 := Lib.hid hown9
            have HS9 := Lib.hid hS9
            clear hown9 hS9
            go_wp2
            go_roundw
            case rel =>
              refine ⟨k + 1, by go_num, by omega, ?_, (Hr1.out.keep HS8.out trivial).keep HS9.out (by omega), (HS.out.trans HS8.out).trans' HS9.out fun j hj _ => by omega⟩
              rw [Htk.out, Htc.out, Hkb.out]
              exact Hown9.out
            case measure => simp [intOf]; omega
      · obtain ⟨j, hj⟩ := Int.eq_ofNat_of_zero_le hpos
        rw [hj]
        have hjl : j < c.vers.length := by omega
        obtain ⟨ad2, e2, -, d0, d1, d2, d3⟩ := VerR.cells (Hv7.out.row verCs_len) hjl
        subst e2
        have y1 : (0 : Int) ≤ (j : Int) := by omega
        have y2 : (j : Int) < (c.vers.length : Int) := by omega
        have hti : trimI c.vers a = if c.vers[j].drop then j + 1 else j := by
          unfold trimI
          rw [hj, if_neg (by omega)]
          simp [hjl]
        clear hj hpos hbd
        cases hd : c.vers[j].drop
        · rw [hd] at d2 hti
          have y3 : ¬ c5' = j := by omega
          have y4 : (j : Int) ≤ (c5' : Int) := by omega
          have y5 : (j : Int) ≤ (c.vers.length : Int) := by omega
          have y6 : (c.vers.length : Int) ≤ (c5' : Int) := by omega
          have y7 : (0 : Int) < ((c.vers.length - j : Nat) : Int) := by omega
          have htv : trimV c.vers a = c.vers.drop j := by unfold trimV; rw [hti]; simp
          have htc : trimC a c = [{ c with vers := c.vers.drop j }] := by
            unfold trimC keptB
            rw [htv, if_pos]
            simp [hjl]
          have hcut := Hv7.out.cut verCs_len (i := j) (by omega)
          rw [if_neg y3, Option.map_some] at hcut
          have Hcut := Lib.hid hcut
          have Htc := Lib.hid htc
          clear hd htv htc hcut hti
          cases hl : c.locked
          · rw [hl] at b2
            have hcell : (#[.string (str c.key), (.slice (some (ad2.add (j * 4))) (c.vers.length - j) (c5' - j)), .bool false, .int .i64 c.lock.by_.node, .int .i64 c.lock.by_.life, .int .i64 c.lock.by_.seq, .int .i64 c.lock.by_.attempt, .int .i64 c.lock.home, .int .i64 c.lock.at_.wall, .int .i64 c.lock.at_.tie, .bool c.lock.drop, .string (str c.lock.data)] : Array Value) = (celCs ((.slice (some (ad2.add (j * 4))) (c.vers.length - j) (c5' - j)), { c with vers := c.vers.drop j })).toArray := by simp [celCs, lckCs, hl]
            have Hcell := Lib.hid hcell
            clear hcell hl
            go_wp2_with (at_builtin; refine stopAt ?_)
            unfold Hid
            rw [Hcell.out]
            have hS9 : Same (fun q => q ≠ wr.heap.size) w7 (w7.setCell ⟨wr.heap.size, 1, none⟩ (.slice (some (ad2.add (j * 4))) (c.vers.length - j) (c5' - j))) := (Same.refl _ _).setCell (fun _ h => h rfl) _
            have hS10 : Same (fun _ => True) wr (w7.setCell ⟨wr.heap.size, 1, none⟩ (.slice (some (ad2.add (j * 4))) (c.vers.length - j) (c5' - j))) := HS8.out.trans' hS9 fun q hq _ => by omega
            have HS10 := Lib.hid hS10
            refine wpList_appC (w := w7.setCell ⟨wr.heap.size, 1, none⟩ (.slice (some (ad2.add (j * 4))) (c.vers.length - j) (c5' - j))) (c := { c with vers := c.vers.drop j }) (B := w.heap.size + 1) rfl (.tmp 44) (.tmp 46) rfl rfl rfl (by first | rfl | simp) (Hown.out.keepAll hS10) ((Hcut.out.keep (hS9.mono fun q _ hq => by omega)).mono fun q _ hq => by omega) (by have := hS10.size; omega) (by have := Htl.out; omega) ?_
            intro v' w9 hown9 hS11
            have Hown9 := Lib.hid hown9
            have HS11 := Lib.hid hS11
            clear hown9 hS9 hS10 hS11
            go_wp2
            go_roundw
            case rel =>
              refine ⟨k + 1, by go_num, by omega, ?_, (Hr1.out.keep HS10.out trivial).keep HS11.out (by omega), (HS.out.trans HS10.out).trans' HS11.out fun q hq _ => by omega⟩
              rw [Htk.out, Htc.out]
              exact Hown9.out
            case measure => simp [intOf]; omega
          · rw [hl] at b2
            have hcell : (#[.string (str c.key), (.slice (some (ad2.add (j * 4))) (c.vers.length - j) (c5' - j)), .bool true, .int .i64 c.lock.by_.node, .int .i64 c.lock.by_.life, .int .i64 c.lock.by_.seq, .int .i64 c.lock.by_.attempt, .int .i64 c.lock.home, .int .i64 c.lock.at_.wall, .int .i64 c.lock.at_.tie, .bool c.lock.drop, .string (str c.lock.data)] : Array Value) = (celCs ((.slice (some (ad2.add (j * 4))) (c.vers.length - j) (c5' - j)), { c with vers := c.vers.drop j })).toArray := by simp [celCs, lckCs, hl]
            have Hcell := Lib.hid hcell
            clear hcell hl
            go_wp2_with (at_builtin; refine stopAt ?_)
            unfold Hid
            rw [Hcell.out]
            have hS9 : Same (fun q => q ≠ wr.heap.size) w7 (w7.setCell ⟨wr.heap.size, 1, none⟩ (.slice (some (ad2.add (j * 4))) (c.vers.length - j) (c5' - j))) := (Same.refl _ _).setCell (fun _ h => h rfl) _
            have hS10 : Same (fun _ => True) wr (w7.setCell ⟨wr.heap.size, 1, none⟩ (.slice (some (ad2.add (j * 4))) (c.vers.length - j) (c5' - j))) := HS8.out.trans' hS9 fun q hq _ => by omega
            have HS10 := Lib.hid hS10
            refine wpList_appC (w := w7.setCell ⟨wr.heap.size, 1, none⟩ (.slice (some (ad2.add (j * 4))) (c.vers.length - j) (c5' - j))) (c := { c with vers := c.vers.drop j }) (B := w.heap.size + 1) rfl (.tmp 44) (.tmp 46) rfl rfl rfl (by first | rfl | simp) (Hown.out.keepAll hS10) ((Hcut.out.keep (hS9.mono fun q _ hq => by omega)).mono fun q _ hq => by omega) (by have := hS10.size; omega) (by have := Htl.out; omega) ?_
            intro v' w9 hown9 hS11
            have Hown9 := Lib.hid hown9
            have HS11 := Lib.hid hS11
            clear hown9 hS9 hS10 hS11
            go_wp2
            go_roundw
            case rel =>
              refine ⟨k + 1, by go_num, by omega, ?_, (Hr1.out.keep HS10.out trivial).keep HS11.out (by omega), (HS.out.trans HS10.out).trans' HS11.out fun q hq _ => by omega⟩
              rw [Htk.out, Htc.out]
              exact Hown9.out
            case measure => simp [intOf]; omega
        · rw [hd] at d2 hti
          have y4 : (j : Int) + 1 ≤ (c5' : Int) := by omega
          have y5 : (j : Int) + 1 ≤ (c.vers.length : Int) := by omega
          have y6 : (c.vers.length : Int) ≤ (c5' : Int) := by omega
          have htv : trimV c.vers a = c.vers.drop (j + 1) := by unfold trimV; rw [hti]; simp
          have hcut := Hv7.out.cut verCs_len (i := j + 1) (by omega)
          have Hcut := Lib.hid hcut
          have Htv := Lib.hid htv
          clear hd htv hcut hti
          by_cases y3 : c5' = j + 1
          · have hlen : c.vers.length = j + 1 := by omega
            have htv0 : trimV c.vers a = [] := by rw [Htv.out]; exact List.drop_eq_nil_of_le (by omega)
            have Htv0 := Lib.hid htv0
            have hlen' := Lib.hid hlen
            have y8 : ((c.vers.length - (j + 1) : Nat) : Int) = 0 := by omega
            clear htv0
            cases hl : c.locked
            · rw [hl] at b2
              have htc : trimC a c = [] := by unfold trimC keptB; rw [Htv0.out]; simp [hl]
              have Htc := Lib.hid htc
              clear htc hl
              obtain rfl : c5' = j + 1 := y3
              clear hlen
              go_wp2
              go_roundw
              case rel =>
                have hS9 : Same (fun q => q ≠ wr.heap.size) w7 (w7.setCell ⟨wr.heap.size, 1, none⟩ (.slice (some ad2) 0 0)) := (Same.refl _ _).setCell (fun _ h => h rfl) _
                have hS10 : Same (fun _ => True) wr (w7.setCell ⟨wr.heap.size, 1, none⟩ (.slice (some ad2) 0 0)) := HS8.out.trans' hS9 fun q hq _ => by omega
                refine ⟨k + 1, by go_num, by omega, ?_, Hr1.out.keep hS10 trivial, HS.out.trans hS10⟩
                rw [Htk.out, Htc.out]
                simpa using Hown.out.keepAll hS10
              case measure => simp [intOf]; omega
            · rw [hl] at b2
              have htc : trimC a c = [{ c with vers := [] }] := by unfold trimC keptB; rw [Htv0.out]; simp [hl]
              have Htc := Lib.hid htc
              have hcell : (#[.string (str c.key), (.slice (some ad2) 0 0), .bool true, .int .i64 c.lock.by_.node, .int .i64 c.lock.by_.life, .int .i64 c.lock.by_.seq, .int .i64 c.lock.by_.attempt, .int .i64 c.lock.home, .int .i64 c.lock.at_.wall, .int .i64 c.lock.at_.tie, .bool c.lock.drop, .string (str c.lock.data)] : Array Value) = (celCs ((.slice (some ad2) 0 0), { c with vers := [] })).toArray := by simp [celCs, lckCs, hl]
              have Hcell := Lib.hid hcell
              clear hcell hl htc
              obtain rfl : c5' = j + 1 := y3
              clear hlen
              go_wp2_with (at_builtin; refine stopAt ?_)
              unfold Hid
              rw [Hcell.out]
              have hS9 : Same (fun q => q ≠ wr.heap.size) w7 (w7.setCell ⟨wr.heap.size, 1, none⟩ (.slice (some ad2) 0 0)) := (Same.refl _ _).setCell (fun _ h => h rfl) _
              have hS10 : Same (fun _ => True) wr (w7.setCell ⟨wr.heap.size, 1, none⟩ (.slice (some ad2) 0 0)) := HS8.out.trans' hS9 fun q hq _ => by omega
              have HS10 := Lib.hid hS10
              refine wpList_appC (w := w7.setCell ⟨wr.heap.size, 1, none⟩ (.slice (some ad2) 0 0)) (c := { c with vers := [] }) (B := w.heap.size + 1) rfl (.tmp 44) (.tmp 46) rfl rfl rfl (by first | rfl | simp) (Hown.out.keepAll hS10) ⟨_, 0, rfl, by simp, by simp [maxLen], fun h => absurd h (by simp)⟩ (by have := hS10.size; omega) (by have := Htl.out; omega) ?_
              intro v' w9 hown9 hS11
              have Hown9 := Lib.hid hown9
              have HS11 := Lib.hid hS11
              clear hown9 hS9 hS10 hS11
              go_wp2
              go_roundw
              case rel =>
                refine ⟨k + 1, by go_num, by omega, ?_, (Hr1.out.keep HS10.out trivial).keep HS11.out (by omega), (HS.out.trans HS10.out).trans' HS11.out fun q hq _ => by omega⟩
                rw [Htk.out, Htc.out]
                exact Hown9.out
              case measure => simp [intOf]; omega
          · have hcut := Hcut.out
            rw [if_neg y3, Option.map_some] at hcut
            have Hcut := Lib.hid hcut
            clear hcut
            cases hl : c.locked
            · by_cases hlen : c.vers.length = j + 1
              · have htv0 : trimV c.vers a = [] := by rw [Htv.out]; exact List.drop_eq_nil_of_le (by omega)
                have y8 : ((c.vers.length - (j + 1) : Nat) : Int) = 0 := by omega
                rw [hl] at b2
                have htc : trimC a c = [] := by unfold trimC keptB; rw [htv0]; simp [hl]
                have Htc := Lib.hid htc
                clear htc hl htv0 hlen
                go_wp2
                go_roundw
                case rel =>
                  have hS9 : Same (fun q => q ≠ wr.heap.size) w7 (w7.setCell ⟨wr.heap.size, 1, none⟩ (.slice (some (ad2.add ((j + 1) * 4))) (c.vers.length - (j + 1)) (c5' - (j + 1)))) := (Same.refl _ _).setCell (fun _ h => h rfl) _
                  have hS10 : Same (fun _ => True) wr (w7.setCell ⟨wr.heap.size, 1, none⟩ (.slice (some (ad2.add ((j + 1) * 4))) (c.vers.length - (j + 1)) (c5' - (j + 1)))) := HS8.out.trans' hS9 fun q hq _ => by omega
                  refine ⟨k + 1, by go_num, by omega, ?_, Hr1.out.keep hS10 trivial, HS.out.trans hS10⟩
                  rw [Htk.out, Htc.out]
                  simpa using Hown.out.keepAll hS10
                case measure => simp [intOf]; omega
              · rw [hl] at b2
                have htc : trimC a c = [{ c with vers := c.vers.drop (j + 1) }] := by
                  unfold trimC keptB
                  rw [Htv.out, if_pos]
                  simp only [hl, Bool.false_or, Bool.not_eq_true', List.isEmpty_eq_false_iff]
                  intro e
                  have := congrArg List.length e
                  simp at this
                  omega
                have Htc := Lib.hid htc
                have y7 : (0 : Int) < ((c.vers.length - (j + 1) : Nat) : Int) := by omega
                clear htc
                have hcell : (#[.string (str c.key), (.slice (some (ad2.add ((j + 1) * 4))) (c.vers.length - (j + 1)) (c5' - (j + 1))), .bool false, .int .i64 c.lock.by_.node, .int .i64 c.lock.by_.life, .int .i64 c.lock.by_.seq, .int .i64 c.lock.by_.attempt, .int .i64 c.lock.home, .int .i64 c.lock.at_.wall, .int .i64 c.lock.at_.tie, .bool c.lock.drop, .string (str c.lock.data)] : Array Value) = (celCs ((.slice (some (ad2.add ((j + 1) * 4))) (c.vers.length - (j + 1)) (c5' - (j + 1))), { c with vers := c.vers.drop (j + 1) })).toArray := by simp [celCs, lckCs, hl]
                have Hcell := Lib.hid hcell
                clear hcell hl
                go_wp2_with (at_builtin; refine stopAt ?_)
                unfold Hid
                rw [Hcell.out]
                have hS9 : Same (fun q => q ≠ wr.heap.size) w7 (w7.setCell ⟨wr.heap.size, 1, none⟩ (.slice (some (ad2.add ((j + 1) * 4))) (c.vers.length - (j + 1)) (c5' - (j + 1)))) := (Same.refl _ _).setCell (fun _ h => h rfl) _
                have hS10 : Same (fun _ => True) wr (w7.setCell ⟨wr.heap.size, 1, none⟩ (.slice (some (ad2.add ((j + 1) * 4))) (c.vers.length - (j + 1)) (c5' - (j + 1)))) := HS8.out.trans' hS9 fun q hq _ => by omega
                have HS10 := Lib.hid hS10
                refine wpList_appC (w := w7.setCell ⟨wr.heap.size, 1, none⟩ (.slice (some (ad2.add ((j + 1) * 4))) (c.vers.length - (j + 1)) (c5' - (j + 1)))) (c := { c with vers := c.vers.drop (j + 1) }) (B := w.heap.size + 1) rfl (.tmp 44) (.tmp 46) rfl rfl rfl (by first | rfl | simp) (Hown.out.keepAll hS10) ((Hcut.out.keep (hS9.mono fun q _ hq => by omega)).mono fun q _ hq => by omega) (by have := hS10.size; omega) (by have := Htl.out; omega) ?_
                intro v' w9 hown9 hS11
                have Hown9 := Lib.hid hown9
                have HS11 := Lib.hid hS11
                clear hown9 hS9 hS10 hS11
                go_wp2
                go_roundw
                case rel =>
                  refine ⟨k + 1, by go_num, by omega, ?_, (Hr1.out.keep HS10.out trivial).keep HS11.out (by omega), (HS.out.trans HS10.out).trans' HS11.out fun q hq _ => by omega⟩
                  rw [Htk.out, Htc.out]
                  exact Hown9.out
                case measure => simp [intOf]; omega
            · rw [hl] at b2
              have htc : trimC a c = [{ c with vers := c.vers.drop (j + 1) }] := by
                unfold trimC keptB
                rw [Htv.out, if_pos]
                simp [hl]
              have Htc := Lib.hid htc
              clear htc
              have hcell : (#[.string (str c.key), (.slice (some (ad2.add ((j + 1) * 4))) (c.vers.length - (j + 1)) (c5' - (j + 1))), .bool true, .int .i64 c.lock.by_.node, .int .i64 c.lock.by_.life, .int .i64 c.lock.by_.seq, .int .i64 c.lock.by_.attempt, .int .i64 c.lock.home, .int .i64 c.lock.at_.wall, .int .i64 c.lock.at_.tie, .bool c.lock.drop, .string (str c.lock.data)] : Array Value) = (celCs ((.slice (some (ad2.add ((j + 1) * 4))) (c.vers.length - (j + 1)) (c5' - (j + 1))), { c with vers := c.vers.drop (j + 1) })).toArray := by simp [celCs, lckCs, hl]
              have Hcell := Lib.hid hcell
              clear hcell hl
              go_wp2_with (at_builtin; refine stopAt ?_)
              unfold Hid
              rw [Hcell.out]
              have hS9 : Same (fun q => q ≠ wr.heap.size) w7 (w7.setCell ⟨wr.heap.size, 1, none⟩ (.slice (some (ad2.add ((j + 1) * 4))) (c.vers.length - (j + 1)) (c5' - (j + 1)))) := (Same.refl _ _).setCell (fun _ h => h rfl) _
              have hS10 : Same (fun _ => True) wr (w7.setCell ⟨wr.heap.size, 1, none⟩ (.slice (some (ad2.add ((j + 1) * 4))) (c.vers.length - (j + 1)) (c5' - (j + 1)))) := HS8.out.trans' hS9 fun q hq _ => by omega
              have HS10 := Lib.hid hS10
              refine wpList_appC (w := w7.setCell ⟨wr.heap.size, 1, none⟩ (.slice (some (ad2.add ((j + 1) * 4))) (c.vers.length - (j + 1)) (c5' - (j + 1)))) (c := { c with vers := c.vers.drop (j + 1) }) (B := w.heap.size + 1) rfl (.tmp 44) (.tmp 46) rfl rfl rfl (by first | rfl | simp) (Hown.out.keepAll hS10) ((Hcut.out.keep (hS9.mono fun q _ hq => by omega)).mono fun q _ hq => by omega) (by have := hS10.size; omega) (by have := Htl.out; omega) ?_
              intro v' w9 hown9 hS11
              have Hown9 := Lib.hid hown9
              have HS11 := Lib.hid hS11
              clear hown9 hS9 hS10 hS11
              go_wp2
              go_roundw
              case rel =>
                refine ⟨k + 1, by go_num, by omega, ?_, (Hr1.out.keep HS10.out trivial).keep HS11.out (by omega), (HS.out.trans HS10.out).trans' HS11.out fun q hq _ => by omega⟩
                rw [Htk.out, Htc.out]
                exact Hown9.out
              case measure => simp [intOf]; omega
    · obtain rfl : k = cs.length := by omega
      rw [List.take_length] at Hown
      clear hS hown
      go_wp2
      go_ret
      exact ⟨_, rfl, Hown.out.lower (by omega), HS.out⟩
end Go.Proofs.Ytoldelocfmpccaa
namespace Go.Proofs.Ytoldelocfmpccaa
open Go.RowKit
theorem good_next {cs : List Cel} {k : Nat} (hk : k < cs.length) (h : Good (cs.take k)) (hc : GoodC cs[k]) (hkey : ∀ i (hi : i + 1 = k), ltB (cs[i]'(by omega)).key cs[k].key = true) : Good (cs.take (k + 1)) := by
  rw [List.take_succ_eq_append_getElem hk]
  refine ⟨List.pairwise_append.2 ⟨h.sort, List.pairwise_singleton _ _, fun x hx y hy => ?_⟩, fun c hx => ?_⟩
  · obtain rfl := List.mem_singleton.1 hy
    obtain ⟨j, hj, rfl⟩ := List.mem_iff_getElem.1 hx
    have hjk : j < k := by rw [List.length_take] at hj; omega
    rw [List.getElem_take]
    rcases Nat.lt_or_ge (j + 1) k with h1 | h1
    · have h2 := hkey (k - 1) (by omega)
      have h3 := List.pairwise_iff_getElem.1 h.sort j (k - 1) hj (by rw [List.length_take]; omega) (by omega)
      rw [List.getElem_take, List.getElem_take] at h3
      exact ltB_trans h3 h2
    · exact hkey j (by omega)
  · rcases List.mem_append.1 hx with hx | hx
    · exact h.each c hx
    · obtain rfl := List.mem_singleton.1 hx
      exact hc
theorem not_good_key {cs : List Cel} {i : Nat} (hi : i + 1 < cs.length) (h : ltB cs[i].key cs[i + 1].key = false) : ¬ Good cs := fun g => by
  have := List.pairwise_iff_getElem.1 g.sort i (i + 1) (by omega) hi (by omega)
  rw [h] at this
  cases this
theorem not_good_cell {cs : List Cel} {k : Nat} {c : Cel} (hk : k < cs.length) (hc : c = cs[k]) (h : ¬ GoodC c) : ¬ Good cs := fun g => h (by rw [hc]; exact g.each _ (List.getElem_mem hk))
def Clean (l : List Ver) : Prop := ∀ v ∈ l, v.drop = true → v.data = []
theorem vers_next {l : List Ver} {k : Nat} (hk : k < l.length) (h : SortV (l.take k)) (h' : Clean (l.take k)) (hc : l[k].drop = true → l[k].data = []) (hkey : ∀ i (hi : i + 1 = k), lessB (l[i]'(by omega)).at_ l[k].at_ = true) : SortV (l.take (k + 1)) ∧ Clean (l.take (k + 1)) := by
  rw [List.take_succ_eq_append_getElem hk]
  refine ⟨List.pairwise_append.2 ⟨h, List.pairwise_singleton _ _, fun x hx y hy => ?_⟩, fun v hx => ?_⟩
  · obtain rfl := List.mem_singleton.1 hy
    obtain ⟨j, hj, rfl⟩ := List.mem_iff_getElem.1 hx
    have hjk : j < k := by rw [List.length_take] at hj; omega
    rw [List.getElem_take]
    rcases Nat.lt_or_ge (j + 1) k with h1 | h1
    · have h2 := hkey (k - 1) (by omega)
      have h3 := List.pairwise_iff_getElem.1 h j (k - 1) hj (by rw [List.length_take]; omega) (by omega)
      rw [List.getElem_take, List.getElem_take] at h3
      exact less_trans h3 h2
    · exact hkey j (by omega)
  · rcases List.mem_append.1 hx with hx | hx
    · exact h' v hx
    · obtain rfl := List.mem_singleton.1 hx
      exact hc
theorem not_sort {l : List Ver} {i : Nat} (hi : i + 1 < l.length) (h : lessB l[i].at_ l[i + 1].at_ = false) : ¬ SortV l := fun g => by
  have := List.pairwise_iff_getElem.1 g i (i + 1) (by omega) hi (by omega)
  rw [h] at this
  cases this
theorem clean_nil : SortV [] ∧ Clean [] := ⟨List.Pairwise.nil, fun v h => by cases h⟩
/-- What May tells. -/
def MayP (cs : List Cel) (w : World) (e : Ending) (w' : World) : Prop := ∃ b, e = .returned (.bool b) ∧ (b = true ↔ Good cs) ∧ Same (fun _ => True) w w'
theorem MayP.no {cs : List Cel} {w w' : World} (h : ¬ Good cs) (hs : Same (fun _ => True) w w') : MayP cs w (.returned (.bool false)) w' := ⟨false, rfl, ⟨fun h => (by cases h), fun g => absurd g h⟩, hs⟩
theorem MayP.yes {cs : List Cel} {w w' : World} (h : Good cs) (hs : Same (fun _ => True) w w') : MayP cs w (.returned (.bool true)) w' := ⟨true, rfl, ⟨fun _ => h, fun _ => rfl⟩, hs⟩
theorem lck_runne {a b : Lck} (h : a ≠ b) (w : World) : (binOp .neq 30 (lckV a) (lckV b)).run Try.prog w = .ok (.bool true) w := by
  go_simp
  intro p1 p2 p3 p4 p5 p6 p7 p8 p9
  apply h
  obtain ⟨⟨a1, a2, a3, a4⟩, a5, ⟨a6, a7⟩, a8, a9⟩ := a
  obtain ⟨⟨b1, b2, b3, b4⟩, b5, ⟨b6, b7⟩, b8, b9⟩ := b
  have q9 : a9 = b9 := by
    rw [ByteArray.toList_eq, ByteArray.toList_eq] at p9
    exact p9
  simp_all
/-- The key behind the cells ahead of k. -/
def KeyLt (cs : List Cel) (k : Nat) (key : List UInt8) : Prop := ∀ i pc, i + 1 = k → cs[i]? = some pc → ltB pc.key key = true
theorem good_next2 {cs : List Cel} {k : Nat} (hk : k < cs.length) (h : Good (cs.take k)) (h1 : KeyLt cs k cs[k].key) (hc : GoodC cs[k]) : Good (cs.take (k + 1)) :=
  good_next hk h hc fun i hi => h1 i _ hi (List.getElem?_eq_getElem (by omega))
theorem key_zero (cs : List Cel) (key : List UInt8) : KeyLt cs 0 key := fun i _ h => by omega
end Go.Proofs.Ytoldelocfmpccaa
namespace Go.Proofs.Ytoldelocfmpccaa
theorem skip_undef {ops : Array Oper} {o : Oper} {a : Act} {j d n : Nat} {want : Bool} {A B : Prop} (hg : o.guard = some (j, want)) (ho : (ops[j]?).bind (·.dst) = some d) (hn : a.tmps.size = n) (hd : d < n) (e : a.eval (.tmp d) = undef) (h : B) :
    if Region.wanted o (yielded ops a.tmps) = true then A else B := by
  have hw : Region.wanted o (yielded ops a.tmps) = false := by
    unfold Region.wanted
    rw [hg]
    have hy : yielded ops a.tmps j = none := by
      unfold yielded
      rw [ho]
      have h1 : a.tmps[d]? = some undef := by
        have : a.tmps.getD d undef = undef := e
        rw [Array.getD_eq_getD_getElem?, Array.getElem?_eq_getElem (by omega)] at this
        rw [Array.getElem?_eq_getElem (by omega)]
        simpa using this
      simp [h1, undef]
    simp [hy]
  rw [if_neg (by rw [hw]; simp)]
  exact h
end Go.Proofs.Ytoldelocfmpccaa
