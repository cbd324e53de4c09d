/-
  One of the longer walks of mvcc (written by bundle.py out of: MvK3B). No condition.
-/
import Derived.Test.YtoldelocfmpccaaQ11
set_option linter.unusedSimpArgs false
set_option linter.unusedVariables false
namespace Go.Proofs.Ytoldelocfmpccaa
open Go.RowKit

set_option maxHeartbeats 4000000 in
theorem reflock_t_hit (v : Value) (cs : List Cel) (x : Wr) (l : Lck) (S : Nat → Prop) (w : World) (hv : CelR w S v cs) (hn : cs.length ≤ 100000) (hn2 : ∀ c ∈ cs, c.vers.length ≤ 1000000) (hso : Sorted cs) (hdr : x.drop = true) (hfnd : foundF cs x.key = true) :
    Calls Try.prog 60 #[v, wrV x, lckV l] w (AllP (lockF cs x.key (lockW x l)) w) := by
  have HDR := Lib.hid hdr
  have HFN := Lib.hid hfnd
  clear hdr hfnd
  obtain ⟨A, cp, rfl, hc, hm⟩ := hv.form
  have Hso := Lib.hid hso
  obtain ⟨Aa, o, Z, e1, e2, e3, e4, e5, e6, e7⟩ := split_at (k := x.key) ((sorted_iff cs).1 hso)
  have e5 := e5 (lockW x l)
  unfold maxLen at hm
  have r0 := (Row.new w 24 (wrCs x)).keep ((Same.refl (fun _ => True) _).alloc (.cells (lckCs l).toArray 30)) trivial
  have r1 := Row.new (w.alloc (.cells (wrCs x).toArray 24)) 30 (lckCs l)
  have hS0 := ((Same.refl (fun _ => True) w).alloc (.cells (wrCs x).toArray 24)).alloc (.cells (lckCs l).toArray 30)
  rw [World.size_alloc] at r1
  have hsz : (w.alloc (.cells (wrCs x).toArray 24) |>.alloc (.cells (lckCs l).toArray 30)).heap.size = w.heap.size + 2 := by rw [World.size_alloc, World.size_alloc]
  have gc := refcopy_any (.slice A cs.length cp) cs S ((w.alloc (.cells (wrCs x).toArray 24)).alloc (.cells (lckCs l).toArray 30)) (hv.keepAll hS0) hn hn2
  have E1 := Lib.hid e1
  have E6 := Lib.hid e6
  have E2 := Lib.hid e2
  have E3 := Lib.hid e3
  have E4 := Lib.hid e4
  have E5 := Lib.hid e5
  have R0 := Lib.hid r0
  have R1 := Lib.hid r1
  have HS0 := Lib.hid hS0
  have Hsz := Lib.hid hsz
  clear hv hn2 hso e1 e2 e3 e4 e5 r0 r1 hS0 hsz
  go_enter Try.func60, Try.ntmps60
  go_wp2_with (go_at_call 34; refine stopAt ?_)
  unfold Hid
  refine gc.mono ?_
  rintro e W0 ⟨v3, rfl, hown3, hS3⟩
  obtain ⟨A3, n3, c3, rfl, hl3, hm3⟩ := hown3.form3
  unfold maxLen at hm3
  rw [Hsz.out] at hown3
  have r0 := R0.out.keep hS3 trivial
  have r1 := R1.out.keep hS3 trivial
  have hS0 := HS0.out.trans hS3
  have hz0 := hS3.size
  rw [Hsz.out] at hz0
  have Hown3 := Lib.hid hown3
  clear gc hown3 hS3
  have b0 : W0.cell? ⟨w.heap.size, 0, none⟩ = some (.string (str x.key)) := r0.cell 0
  have b1 : W0.cell? ⟨w.heap.size, 1, none⟩ = some (.bool x.drop) := r0.cell 1
  have b2 : W0.cell? ⟨w.heap.size, 2, none⟩ = some (.string (str x.data)) := r0.cell 2
  have l7 : W0.cell? ⟨w.heap.size + 1, 7, none⟩ = some (.bool l.drop) := r1.cell 7
  have l8 : W0.cell? ⟨w.heap.size + 1, 8, none⟩ = some (.string (str l.data)) := r1.cell 8
  have f7 := r1.frozen 7
  have f8 := r1.frozen 8
  have z0 := r0.lt
  have z1 := r1.lt
  have R0 := Lib.hid r0
  have R1 := Lib.hid r1
  have HS0 := Lib.hid hS0
  have Hz0 := Lib.hid hz0
  clear r0 r1 hS0 hz0 Hsz
  go_wp2
  go_region
  go_wp2_with (with_reducible refine stopDst 18 rfl ?_)
  unfold Hid
  have r1 := (R1.out.set_ 7 (.bool x.drop)).set_ 8 (.string (str x.data))
  have hS1 : Same (fun q => q ≠ w.heap.size + 1) W0 ((W0.setCell ⟨w.heap.size + 1, 7, none⟩ (.bool x.drop)).setCell ⟨w.heap.size + 1, 8, none⟩ (.string (str x.data))).drew := (((Same.refl _ _).setCell (fun _ h => h rfl) _).setCell (fun _ h => h rfl) _).drew
  have r1 := r1.keep ((Same.refl (fun _ => True) _).drew) trivial
  revert r1 hS1
  generalize ((W0.setCell ⟨w.heap.size + 1, 7, none⟩ (.bool x.drop)).setCell ⟨w.heap.size + 1, 8, none⟩ (.string (str x.data))).drew = W1
  intro hS1 r1
  have r1 : Row W1 (w.heap.size + 1) 30 [.int .i64 l.by_.node, .int .i64 l.by_.life, .int .i64 l.by_.seq, .int .i64 l.by_.attempt, .int .i64 l.home, .int .i64 l.at_.wall, .int .i64 l.at_.tie, .bool x.drop, .string (str x.data)] := r1
  have r0 := R0.out.keep hS1 (by omega)
  have b0 : W1.cell? ⟨w.heap.size, 0, none⟩ = some (.string (str x.key)) := r0.cell 0
  have b1 : W1.cell? ⟨w.heap.size, 1, none⟩ = some (.bool x.drop) := r0.cell 1
  have l8 : W1.cell? ⟨w.heap.size + 1, 8, none⟩ = some (.string (str x.data)) := r1.cell 8
  have f8 := r1.frozen 8
  have z1 := r1.lt
  have R0 := Lib.hid r0
  have R1 := Lib.hid r1
  have hz1 : w.heap.size + 2 ≤ W1.heap.size := Nat.le_trans Hz0.out hS1.size
  have hown1 : OwnC W1 (w.heap.size + 2) (.slice A3 n3 c3) cs := Hown3.out.keep hS1 fun q h1 _ => by omega
  have Hown3 := Lib.hid hown1
  have hS2 : Same (fun _ => True) w W1 := HS0.out.trans' hS1 fun q hq _ => by omega
  have HS0 := Lib.hid hS2
  clear r0 r1 hS1 hS2 hown1 b2 l7 f7 z0
  cases hd : x.drop
  · rw [HDR.out] at hd; cases hd
  · rw [hd] at b1
    have hlk : lckCs (lockW x l) = [.int .i64 l.by_.node, .int .i64 l.by_.life, .int .i64 l.by_.seq, .int .i64 l.by_.attempt, .int .i64 l.home, .int .i64 l.at_.wall, .int .i64 l.at_.tie, .bool x.drop, .string ⟨#[]⟩] := by simp [lck_of, lockW, hd, str]
    have Hlk := Lib.hid hlk
    have Hd := Lib.hid hd
    clear hlk hd
    go_wp2_with (go_at_call 89; refine stopAt ?_)
    unfold Hid
    have r1 := R1.out.set_ 8 (.string ⟨#[]⟩)
    have hS1 : Same (fun q => q ≠ w.heap.size + 1) W1 (W1.setCell ⟨w.heap.size + 1, 8, none⟩ (.string ⟨#[]⟩)) := (Same.refl _ _).setCell (fun _ h => h rfl) _
    generalize W1.setCell ⟨w.heap.size + 1, 8, none⟩ (.string ⟨#[]⟩) = W2 at *
    have r1 : Row W2 (w.heap.size + 1) 30 [.int .i64 l.by_.node, .int .i64 l.by_.life, .int .i64 l.by_.seq, .int .i64 l.by_.attempt, .int .i64 l.home, .int .i64 l.at_.wall, .int .i64 l.at_.tie, .bool x.drop, .string ⟨#[]⟩] := r1
    have r0 := R0.out.keep hS1 (by omega)
    have R0 := Lib.hid r0
    have R1 := Lib.hid r1
    have hz1 : w.heap.size + 2 ≤ W2.heap.size := Nat.le_trans hz1 hS1.size
    have hown1 : OwnC W2 (w.heap.size + 2) (.slice A3 n3 c3) cs := Hown3.out.keep hS1 fun q h1 _ => by omega
    have Hown3 := Lib.hid hown1
    have hS2 : Same (fun _ => True) w W2 := HS0.out.trans' hS1 fun q hq _ => by omega
    have HS0 := Lib.hid hS2
    clear r0 r1 hS1 hS2 hown1 b0
    refine (reffind_any (.slice A3 n3 c3) cs x.key _ W2 Hown3.out.reads Hso.out).mono ?_
    rintro e w4 ⟨rfl, rfl⟩
    rw [e6, e7]
    have r0 := R0.out
    have b0 : W2.cell? ⟨w.heap.size, 0, none⟩ = some (.string (str x.key)) := r0.cell 0
    have z1 := R1.out.lt
    have hown4 := Hown3.out
    rw [E1.out] at hown4
    have Hown4 := Lib.hid hown4
    clear r0 hown4
    cases o with
    | some c =>
      obtain ⟨w5, hw5⟩ : ∃ w5, w5 = W2 := ⟨_, rfl⟩
      subst hw5
      have hown5 := Hown4.out
      simp only [Option.toList_some, List.singleton_append] at hown5
      have Hown5 := Lib.hid hown5
      have HS5 := HS0
      rw [Option.getD_some] at E5
      have q0 : (0 : Int) ≤ (Aa.length : Int) := by omega
      clear hown5 e6 e7 Hown4
      simp only [Option.isSome_some, if_true]
      go_wp2
      have hlt : Aa.length < (Aa ++ c :: Z).length := by simp
      obtain ⟨g, n5, cap5, hv5, hn5, hc5, hm5, hBg, hg5, hfz⟩ := Hown5.out.head (by rw [List.length_append, List.length_cons]; omega)
      injection hv5 with hv5 hv6 hv7
      subst hv5 hv6 hv7
      have hn5' : n3 = Aa.length + 1 + Z.length := by rw [hn5]; first | (simp; done) | (simp; omega)
      obtain ⟨k2, k3, k4, k5, k6, k7, k8, k9, k10, k11, y2, y3, y4, y5, y6, y7, y8, y9, y10, y11⟩ := Hown5.out.at12 hlt
      have q1 : (0 : Int) ≤ (Aa.length : Int) := by omega
      have q2 : (Aa.length : Int) < (n3 : Int) := by omega
      have f2 := hfz (Aa.length * 12 + 2)
      have f3 := hfz (Aa.length * 12 + 3)
      have f4 := hfz (Aa.length * 12 + 4)
      have f5 := hfz (Aa.length * 12 + 5)
      have f6 := hfz (Aa.length * 12 + 6)
      have f7 := hfz (Aa.length * 12 + 7)
      have f8 := hfz (Aa.length * 12 + 8)
      have f9 := hfz (Aa.length * 12 + 9)
      have f10 := hfz (Aa.length * 12 + 10)
      have f11 := hfz (Aa.length * 12 + 11)
      have r1 := R1.out
      have m0 : w5.cell? ⟨w.heap.size + 1, 0, none⟩ = some (.int .i64 l.by_.node) := r1.cell 0
      have m1 : w5.cell? ⟨w.heap.size + 1, 1, none⟩ = some (.int .i64 l.by_.life) := r1.cell 1
      have m2 : w5.cell? ⟨w.heap.size + 1, 2, none⟩ = some (.int .i64 l.by_.seq) := r1.cell 2
      have m3 : w5.cell? ⟨w.heap.size + 1, 3, none⟩ = some (.int .i64 l.by_.attempt) := r1.cell 3
      have m4 : w5.cell? ⟨w.heap.size + 1, 4, none⟩ = some (.int .i64 l.home) := r1.cell 4
      have m5 : w5.cell? ⟨w.heap.size + 1, 5, none⟩ = some (.int .i64 l.at_.wall) := r1.cell 5
      have m6 : w5.cell? ⟨w.heap.size + 1, 6, none⟩ = some (.int .i64 l.at_.tie) := r1.cell 6
      have m7 : w5.cell? ⟨w.heap.size + 1, 7, none⟩ = some (.bool x.drop) := r1.cell 7
      have m8 : w5.cell? ⟨w.heap.size + 1, 8, none⟩ = some (.string ⟨#[]⟩) := r1.cell 8
      have hne1 : g ≠ w.heap.size + 1 := by omega
      have z5 := r1.lt
      clear r1 hfz hn5 hn5' hlt
      go_region
      all_goals
        go_wp2
        go_ret
        have hup := Hown5.out.upd (W := setsW w5 g (Aa.length * 12 + 2) [.bool true, .int .i64 l.by_.node, .int .i64 l.by_.life, .int .i64 l.by_.seq, .int .i64 l.by_.attempt, .int .i64 l.home, .int .i64 l.at_.wall, .int .i64 l.at_.tie, .bool x.drop, .string ⟨#[]⟩]) (lockW x l) rfl (by rw [lockCs, Hlk.out])
        rw [E5.out]
        simp only [setsW] at hup
        refine ⟨_, rfl, (hup.1.keepAll ((Same.refl _ _).drew)).lower (by omega), ?_⟩
        exact HS5.out.trans' hup.2.drew fun q hq _ => by omega
    | none => rw [HFN.out] at e7; cases e7
end Go.Proofs.Ytoldelocfmpccaa
