/-
  Words, plain models, laws and walks that the claims of this layer share (joined by shake.py). No condition.
-/
import Derived.IntWalk
import Derived.Test.YtpjinngngbifoaaU1
import Derived.Test.YtpjinngngbifoaaU2
import Derived.Test.YtpjinngngbifoaaU3
import Derived.Test.YtpjinngngbifoaaU4
import Derived.Test.YtpjinngngbifoaaU5
import Derived.Test.YtpjinngngbifoaaU21
set_option linter.unusedSimpArgs false
set_option linter.unusedVariables false
namespace Go.Proofs.Ytpjinngngbifoaa
open Go.RowKit Go.ChangeMaps Go.MapKept
attribute [local go_sem] str_size
@[local go_sem] theorem str_take (b : List UInt8) (L : Nat) (h : L ≤ b.length) : (str b).extract 0 L = str (b.take L) := by
  apply ByteArray.ext
  simp [str, ByteArray.data_extract]
/-- What the rounds behind the files below k leave. -/
def powTo (d : DiskM) (keep : List Int) (k : Nat) : DiskM :=
  { d with f0 := if 0 < k then d.f0.cut (keepN keep 0 d.f0) else d.f0, f1 := if 1 < k then d.f1.cut (keepN keep 1 d.f1) else d.f1 }
theorem keepN_le (keep : List Int) (i : Nat) (x : FileM) (h : x.last ≤ x.b.length) : x.last + keepN keep i x ≤ x.b.length := by
  unfold keepN; split <;> omega
theorem keepN_min {keep : List Int} {i : Nat} (hi : i < keep.length) (x : FileM) (h : x.last ≤ x.b.length) (h0 : 0 < keep[i]) : min keep[i] ((x.b.length : Int) - (x.last : Int)) = (keepN keep i x : Int) := by
  unfold keepN
  rw [if_pos hi, show keep.getD i 0 = keep[i] by simp [hi]]
  omega
theorem keepN_low {keep : List Int} {i : Nat} (hi : i < keep.length) (x : FileM) (h : x.last ≤ x.b.length) (h0 : ¬ 0 < keep[i]) : min 0 ((x.b.length : Int) - (x.last : Int)) = (keepN keep i x : Int) := by
  unfold keepN
  rw [if_pos hi, show keep.getD i 0 = keep[i] by simp [hi]]
  omega
theorem keepN_out {keep : List Int} {i : Nat} (hi : ¬ i < keep.length) (x : FileM) (h : x.last ≤ x.b.length) : min 0 ((x.b.length : Int) - (x.last : Int)) = (keepN keep i x : Int) := by
  unfold keepN
  rw [if_neg hi]
  omega
set_option maxRecDepth 100000 in
set_option maxHeartbeats 4000000 in
theorem rpower_any (h : Nat) (S : Nat → Prop) (d : DiskM) (keep : List Int) (v : Value) (w : World) (H : RefAt w h d) (hok : d.Ok) (hv : Ints w S v keep) (hS : ∀ k, S k → k ≠ h)
    (hlen : d.f0.b.length ≤ 4194304 ∧ d.f1.b.length ≤ 4194304) (hlv : d.lives < 1000000) :
    Calls Try.prog 49 #[ptr h, v] w (RStep h w (.tuple #[]) (d.power keep)) := by
  obtain ⟨A, c, rfl, hc, hm, hs, hbd⟩ := hv
  have HS := Lib.hid hs
  have HB := Lib.hid hbd
  obtain ⟨o0, o1, -⟩ := hok
  obtain ⟨len0, len1⟩ := hlen
  unfold maxLen at hm
  have H0 : Hid (RefAt w h (powTo d keep 0)) := Lib.hid H
  clear hs hbd H
  go_enter Try.func49, Try.ntmps49
  go_wp2
  go_loopw [4] (fun i wr => ∃ k : Nat, k ≤ 2 ∧ i = .int .i64 k ∧ Hid (RefAt wr h (powTo d keep k)) ∧ Hid (Same (fun k => k ≠ h) w wr)) (fun i _ => 2 - (intOf i).toNat)
  case atStart => exact ⟨0, by omega, rfl, H0, Lib.hid (Same.refl _ _)⟩
  case round =>
    obtain ⟨k, hk, rfl, hr, hsm⟩ := hrel
    clear H0
    obtain rfl | rfl | rfl : k = 0 ∨ k = 1 ∨ k = 2 := by omega
    · have HD : Hid (True) := trivial
      have hr' : Hid (RefAt wr h d) := hr
      clear hr
      obtain ⟨⟨c0, c1, c2, c3⟩, -⟩ := hr'.out.cells
      obtain ⟨⟨z0, z1, z2, z3⟩, -⟩ := hr'.out.free
      have hle := keepN_le keep 0 d.f0 o0
      by_cases hi : 0 < keep.length
      · have hiI : (0 : Int) < (keep.length : Int) := by omega
        obtain ⟨ad, u, rfl, hSb, hu, hcell⟩ := (HS.out.keep (hsm.out.mono fun k _ hk => hS k hk)).at_ hi
        obtain rfl : u = .int .i64 keep[0] := by simpa [hi] using hu.symm
        rw [show ad.add 0 = ad from by unfold Addr.add; split <;> simp_all] at hcell
        have hb := HB.out keep[0] (List.getElem_mem hi)
        clear hu
        by_cases hp : 0 < keep[0]
        · have hmin := keepN_min hi d.f0 o0 hp
          obtain ⟨n, hn⟩ : ∃ n, n = keepN keep 0 d.f0 := ⟨_, rfl⟩
          have N := Lib.hid hn
          rw [← hn] at hle hmin
          clear hn
          have hwr : IntKind.i64.wrap ((d.f0.b.length : Int) - (d.f0.last : Int)) = (d.f0.b.length : Int) - (d.f0.last : Int) := IntWalk.i64_in _ (by omega)
          go_wp2
          go_still_tail 16, (by kernel_rfl)
          go_wp2
          clear hwr hmin
          have hr1 : RefAt ({ heap := wr.heap, tape := wr.tape, drawn := wr.drawn + 1, os := wr.os, output := wr.output } : World) h (d) := RefAt.drew (hr'.out)
          have hs1 : Same (fun k => k ≠ h) w ({ heap := wr.heap, tape := wr.tape, drawn := wr.drawn + 1, os := wr.os, output := wr.output } : World) := Same.drew (hsm.out)
          generalize ({ heap := wr.heap, tape := wr.tape, drawn := wr.drawn + 1, os := wr.os, output := wr.output } : World) = W1 at *
          clear c0 c1 c2 c3 z0 z1 z2 z3
          obtain ⟨⟨c0, c1, c2, c3⟩, -⟩ := hr1.cells
          obtain ⟨⟨z0, z1, z2, z3⟩, -⟩ := hr1.free
          have hwr : IntKind.i64.wrap ((d.f0.last : Int) + (n : Int)) = (d.f0.last : Int) + (n : Int) := IntWalk.i64_in _ (by omega)
          go_still_tail 13, (by kernel_rfl)
          go_wp2
          clear hwr
          have hr2 : RefAt (W1.setCell ⟨h, 2, none⟩ (.int .i64 ((d.f0.last : Int) + (n : Int)))).drew h ({ d with f0 := ⟨d.f0.b, d.f0.last + n⟩ }) := RefAt.drew (hr1.store (d' := { d with f0 := ⟨d.f0.b, d.f0.last + n⟩ }) 2 _ (by simp [refCells]))
          have hs2 : Same (fun k => k ≠ h) w (W1.setCell ⟨h, 2, none⟩ (.int .i64 ((d.f0.last : Int) + (n : Int)))).drew := Same.drew (hs1.setCell (fun _ h => h rfl) _)
          generalize (W1.setCell ⟨h, 2, none⟩ (.int .i64 ((d.f0.last : Int) + (n : Int)))).drew = W2 at *
          clear c0 c1 c2 c3 z0 z1 z2 z3
          obtain ⟨⟨c0, c1, c2, c3⟩, -⟩ := hr2.cells
          obtain ⟨⟨z0, z1, z2, z3⟩, -⟩ := hr2.free
          obtain ⟨L, hL⟩ : ∃ L, L = d.f0.last + n := ⟨_, rfl⟩
          have HL := Lib.hid hL
          rw [← hL] at hle hr2 c2
          clear hL
          have hle0 : (0 : Int) ≤ (L : Int) := by omega
          have hleI : (L : Int) ≤ (d.f0.b.length : Int) := by omega
          have hst := str_take d.f0.b L hle
          go_still_tail 18, (by kernel_rfl)
          go_wp2
          go_roundw
          case rel => exact ⟨1, by omega, by go_num, Lib.hid (by simpa [powTo, FileM.cut, N.out, HL.out, HD.out] using RefAt.drew (hr2.store (d' := { d with f0 := ⟨d.f0.b.take L, L⟩ }) 0 _ rfl)), Lib.hid (Same.drew (hs2.setCell (fun _ h => h rfl) _))⟩
          case measure => simp [intOf]
        · have hmin := keepN_low hi d.f0 o0 hp
          obtain ⟨n, hn⟩ : ∃ n, n = keepN keep 0 d.f0 := ⟨_, rfl⟩
          have N := Lib.hid hn
          rw [← hn] at hle hmin
          clear hn
          have hwr : IntKind.i64.wrap ((d.f0.b.length : Int) - (d.f0.last : Int)) = (d.f0.b.length : Int) - (d.f0.last : Int) := IntWalk.i64_in _ (by omega)
          go_wp2
          go_still_tail 16, (by kernel_rfl)
          go_wp2
          clear hwr hmin
          have hr1 : RefAt ({ heap := wr.heap, tape := wr.tape, drawn := wr.drawn + 1, os := wr.os, output := wr.output } : World) h (d) := RefAt.drew (hr'.out)
          have hs1 : Same (fun k => k ≠ h) w ({ heap := wr.heap, tape := wr.tape, drawn := wr.drawn + 1, os := wr.os, output := wr.output } : World) := Same.drew (hsm.out)
          generalize ({ heap := wr.heap, tape := wr.tape, drawn := wr.drawn + 1, os := wr.os, output := wr.output } : World) = W1 at *
          clear c0 c1 c2 c3 z0 z1 z2 z3
          obtain ⟨⟨c0, c1, c2, c3⟩, -⟩ := hr1.cells
          obtain ⟨⟨z0, z1, z2, z3⟩, -⟩ := hr1.free
          have hwr : IntKind.i64.wrap ((d.f0.last : Int) + (n : Int)) = (d.f0.last : Int) + (n : Int) := IntWalk.i64_in _ (by omega)
          go_still_tail 13, (by kernel_rfl)
          go_wp2
          clear hwr
          have hr2 : RefAt (W1.setCell ⟨h, 2, none⟩ (.int .i64 ((d.f0.last : Int) + (n : Int)))).drew h ({ d with f0 := ⟨d.f0.b, d.f0.last + n⟩ }) := RefAt.drew (hr1.store (d' := { d with f0 := ⟨d.f0.b, d.f0.last + n⟩ }) 2 _ (by simp [refCells]))
          have hs2 : Same (fun k => k ≠ h) w (W1.setCell ⟨h, 2, none⟩ (.int .i64 ((d.f0.last : Int) + (n : Int)))).drew := Same.drew (hs1.setCell (fun _ h => h rfl) _)
          generalize (W1.setCell ⟨h, 2, none⟩ (.int .i64 ((d.f0.last : Int) + (n : Int)))).drew = W2 at *
          clear c0 c1 c2 c3 z0 z1 z2 z3
          obtain ⟨⟨c0, c1, c2, c3⟩, -⟩ := hr2.cells
          obtain ⟨⟨z0, z1, z2, z3⟩, -⟩ := hr2.free
          obtain ⟨L, hL⟩ : ∃ L, L = d.f0.last + n := ⟨_, rfl⟩
          have HL := Lib.hid hL
          rw [← hL] at hle hr2 c2
          clear hL
          have hle0 : (0 : Int) ≤ (L : Int) := by omega
          have hleI : (L : Int) ≤ (d.f0.b.length : Int) := by omega
          have hst := str_take d.f0.b L hle
          go_still_tail 18, (by kernel_rfl)
          go_wp2
          go_roundw
          case rel => exact ⟨1, by omega, by go_num, Lib.hid (by simpa [powTo, FileM.cut, N.out, HL.out, HD.out] using RefAt.drew (hr2.store (d' := { d with f0 := ⟨d.f0.b.take L, L⟩ }) 0 _ rfl)), Lib.hid (Same.drew (hs2.setCell (fun _ h => h rfl) _))⟩
          case measure => simp [intOf]
      · have hiI : (keep.length : Int) ≤ 0 := by omega
        have hmin := keepN_out hi d.f0 o0
        obtain ⟨n, hn⟩ : ∃ n, n = keepN keep 0 d.f0 := ⟨_, rfl⟩
        have N := Lib.hid hn
        rw [← hn] at hle hmin
        clear hn
        have hwr : IntKind.i64.wrap ((d.f0.b.length : Int) - (d.f0.last : Int)) = (d.f0.b.length : Int) - (d.f0.last : Int) := IntWalk.i64_in _ (by omega)
        go_wp2
        go_still_tail 16, (by kernel_rfl)
        go_wp2
        clear hwr hmin
        have hr1 : RefAt ({ heap := wr.heap, tape := wr.tape, drawn := wr.drawn + 1, os := wr.os, output := wr.output } : World) h (d) := RefAt.drew (hr'.out)
        have hs1 : Same (fun k => k ≠ h) w ({ heap := wr.heap, tape := wr.tape, drawn := wr.drawn + 1, os := wr.os, output := wr.output } : World) := Same.drew (hsm.out)
        generalize ({ heap := wr.heap, tape := wr.tape, drawn := wr.drawn + 1, os := wr.os, output := wr.output } : World) = W1 at *
        clear c0 c1 c2 c3 z0 z1 z2 z3
        obtain ⟨⟨c0, c1, c2, c3⟩, -⟩ := hr1.cells
        obtain ⟨⟨z0, z1, z2, z3⟩, -⟩ := hr1.free
        have hwr : IntKind.i64.wrap ((d.f0.last : Int) + (n : Int)) = (d.f0.last : Int) + (n : Int) := IntWalk.i64_in _ (by omega)
        go_still_tail 13, (by kernel_rfl)
        go_wp2
        clear hwr
        have hr2 : RefAt (W1.setCell ⟨h, 2, none⟩ (.int .i64 ((d.f0.last : Int) + (n : Int)))).drew h ({ d with f0 := ⟨d.f0.b, d.f0.last + n⟩ }) := RefAt.drew (hr1.store (d' := { d with f0 := ⟨d.f0.b, d.f0.last + n⟩ }) 2 _ (by simp [refCells]))
        have hs2 : Same (fun k => k ≠ h) w (W1.setCell ⟨h, 2, none⟩ (.int .i64 ((d.f0.last : Int) + (n : Int)))).drew := Same.drew (hs1.setCell (fun _ h => h rfl) _)
        generalize (W1.setCell ⟨h, 2, none⟩ (.int .i64 ((d.f0.last : Int) + (n : Int)))).drew = W2 at *
        clear c0 c1 c2 c3 z0 z1 z2 z3
        obtain ⟨⟨c0, c1, c2, c3⟩, -⟩ := hr2.cells
        obtain ⟨⟨z0, z1, z2, z3⟩, -⟩ := hr2.free
        obtain ⟨L, hL⟩ : ∃ L, L = d.f0.last + n := ⟨_, rfl⟩
        have HL := Lib.hid hL
        rw [← hL] at hle hr2 c2
        clear hL
        have hle0 : (0 : Int) ≤ (L : Int) := by omega
        have hleI : (L : Int) ≤ (d.f0.b.length : Int) := by omega
        have hst := str_take d.f0.b L hle
        go_still_tail 18, (by kernel_rfl)
        go_wp2
        go_roundw
        case rel => exact ⟨1, by omega, by go_num, Lib.hid (by simpa [powTo, FileM.cut, N.out, HL.out, HD.out] using RefAt.drew (hr2.store (d' := { d with f0 := ⟨d.f0.b.take L, L⟩ }) 0 _ rfl)), Lib.hid (Same.drew (hs2.setCell (fun _ h => h rfl) _))⟩
        case measure => simp [intOf]
    · obtain ⟨d0, hd0⟩ : ∃ d0, d0 = powTo d keep 1 := ⟨_, rfl⟩
      have o1' : d0.f1.last ≤ d0.f1.b.length := by rw [hd0]; exact o1
      have len1' : d0.f1.b.length ≤ 4194304 := by rw [hd0]; exact len1
      rw [← hd0] at hr
      have HD0 := Lib.hid hd0
      clear hd0
      have hr' : Hid (RefAt wr h d0) := hr
      clear hr
      obtain ⟨⟨c0, c1, c2, c3⟩, -⟩ := hr'.out.cells
      obtain ⟨⟨z0, z1, z2, z3⟩, -⟩ := hr'.out.free
      have hle := keepN_le keep 1 d0.f1 o1'
      by_cases hi : 1 < keep.length
      · have hiI : (1 : Int) < (keep.length : Int) := by omega
        obtain ⟨ad, u, rfl, hSb, hu, hcell⟩ := (HS.out.keep (hsm.out.mono fun k _ hk => hS k hk)).at_ hi
        obtain rfl : u = .int .i64 keep[1] := by simpa [hi] using hu.symm
        rw [show ad.add 1 = ⟨ad.block, ad.off + 1, none⟩ from rfl] at hcell
        have hb := HB.out keep[1] (List.getElem_mem hi)
        clear hu
        by_cases hp : 0 < keep[1]
        · have hmin := keepN_min hi d0.f1 o1' hp
          obtain ⟨n, hn⟩ : ∃ n, n = keepN keep 1 d0.f1 := ⟨_, rfl⟩
          have N := Lib.hid hn
          rw [← hn] at hle hmin
          clear hn
          have hwr : IntKind.i64.wrap ((d0.f1.b.length : Int) - (d0.f1.last : Int)) = (d0.f1.b.length : Int) - (d0.f1.last : Int) := IntWalk.i64_in _ (by omega)
          go_wp2
          go_still_tail 16, (by kernel_rfl)
          go_wp2
          clear hwr hmin
          have hr1 : RefAt ({ heap := wr.heap, tape := wr.tape, drawn := wr.drawn + 1, os := wr.os, output := wr.output } : World) h (d0) := RefAt.drew (hr'.out)
          have hs1 : Same (fun k => k ≠ h) w ({ heap := wr.heap, tape := wr.tape, drawn := wr.drawn + 1, os := wr.os, output := wr.output } : World) := Same.drew (hsm.out)
          generalize ({ heap := wr.heap, tape := wr.tape, drawn := wr.drawn + 1, os := wr.os, output := wr.output } : World) = W1 at *
          clear c0 c1 c2 c3 z0 z1 z2 z3
          obtain ⟨⟨c0, c1, c2, c3⟩, -⟩ := hr1.cells
          obtain ⟨⟨z0, z1, z2, z3⟩, -⟩ := hr1.free
          have hwr : IntKind.i64.wrap ((d0.f1.last : Int) + (n : Int)) = (d0.f1.last : Int) + (n : Int) := IntWalk.i64_in _ (by omega)
          go_still_tail 13, (by kernel_rfl)
          go_wp2
          clear hwr
          have hr2 : RefAt (W1.setCell ⟨h, 3, none⟩ (.int .i64 ((d0.f1.last : Int) + (n : Int)))).drew h ({ d0 with f1 := ⟨d0.f1.b, d0.f1.last + n⟩ }) := RefAt.drew (hr1.store (d' := { d0 with f1 := ⟨d0.f1.b, d0.f1.last + n⟩ }) 3 _ (by simp [refCells]))
          have hs2 : Same (fun k => k ≠ h) w (W1.setCell ⟨h, 3, none⟩ (.int .i64 ((d0.f1.last : Int) + (n : Int)))).drew := Same.drew (hs1.setCell (fun _ h => h rfl) _)
          generalize (W1.setCell ⟨h, 3, none⟩ (.int .i64 ((d0.f1.last : Int) + (n : Int)))).drew = W2 at *
          clear c0 c1 c2 c3 z0 z1 z2 z3
          obtain ⟨⟨c0, c1, c2, c3⟩, -⟩ := hr2.cells
          obtain ⟨⟨z0, z1, z2, z3⟩, -⟩ := hr2.free
          obtain ⟨L, hL⟩ : ∃ L, L = d0.f1.last + n := ⟨_, rfl⟩
          have HL := Lib.hid hL
          rw [← hL] at hle hr2 c3
          clear hL
          have hle0 : (0 : Int) ≤ (L : Int) := by omega
          have hleI : (L : Int) ≤ (d0.f1.b.length : Int) := by omega
          have hst := str_take d0.f1.b L hle
          go_still_tail 18, (by kernel_rfl)
          go_wp2
          go_roundw
          case rel => exact ⟨2, by omega, by go_num, Lib.hid (by simpa [powTo, FileM.cut, N.out, HL.out, HD0.out] using RefAt.drew (hr2.store (d' := { d0 with f1 := ⟨d0.f1.b.take L, L⟩ }) 1 _ rfl)), Lib.hid (Same.drew (hs2.setCell (fun _ h => h rfl) _))⟩
          case measure => simp [intOf]
        · have hmin := keepN_low hi d0.f1 o1' hp
          obtain ⟨n, hn⟩ : ∃ n, n = keepN keep 1 d0.f1 := ⟨_, rfl⟩
          have N := Lib.hid hn
          rw [← hn] at hle hmin
          clear hn
          have hwr : IntKind.i64.wrap ((d0.f1.b.length : Int) - (d0.f1.last : Int)) = (d0.f1.b.length : Int) - (d0.f1.last : Int) := IntWalk.i64_in _ (by omega)
          go_wp2
          go_still_tail 16, (by kernel_rfl)
          go_wp2
          clear hwr hmin
          have hr1 : RefAt ({ heap := wr.heap, tape := wr.tape, drawn := wr.drawn + 1, os := wr.os, output := wr.output } : World) h (d0) := RefAt.drew (hr'.out)
          have hs1 : Same (fun k => k ≠ h) w ({ heap := wr.heap, tape := wr.tape, drawn := wr.drawn + 1, os := wr.os, output := wr.output } : World) := Same.drew (hsm.out)
          generalize ({ heap := wr.heap, tape := wr.tape, drawn := wr.drawn + 1, os := wr.os, output := wr.output } : World) = W1 at *
          clear c0 c1 c2 c3 z0 z1 z2 z3
          obtain ⟨⟨c0, c1, c2, c3⟩, -⟩ := hr1.cells
          obtain ⟨⟨z0, z1, z2, z3⟩, -⟩ := hr1.free
          have hwr : IntKind.i64.wrap ((d0.f1.last : Int) + (n : Int)) = (d0.f1.last : Int) + (n : Int) := IntWalk.i64_in _ (by omega)
          go_still_tail 13, (by kernel_rfl)
          go_wp2
          clear hwr
          have hr2 : RefAt (W1.setCell ⟨h, 3, none⟩ (.int .i64 ((d0.f1.last : Int) + (n : Int)))).drew h ({ d0 with f1 := ⟨d0.f1.b, d0.f1.last + n⟩ }) := RefAt.drew (hr1.store (d' := { d0 with f1 := ⟨d0.f1.b, d0.f1.last + n⟩ }) 3 _ (by simp [refCells]))
          have hs2 : Same (fun k => k ≠ h) w (W1.setCell ⟨h, 3, none⟩ (.int .i64 ((d0.f1.last : Int) + (n : Int)))).drew := Same.drew (hs1.setCell (fun _ h => h rfl) _)
          generalize (W1.setCell ⟨h, 3, none⟩ (.int .i64 ((d0.f1.last : Int) + (n : Int)))).drew = W2 at *
          clear c0 c1 c2 c3 z0 z1 z2 z3
          obtain ⟨⟨c0, c1, c2, c3⟩, -⟩ := hr2.cells
          obtain ⟨⟨z0, z1, z2, z3⟩, -⟩ := hr2.free
          obtain ⟨L, hL⟩ : ∃ L, L = d0.f1.last + n := ⟨_, rfl⟩
          have HL := Lib.hid hL
          rw [← hL] at hle hr2 c3
          clear hL
          have hle0 : (0 : Int) ≤ (L : Int) := by omega
          have hleI : (L : Int) ≤ (d0.f1.b.length : Int) := by omega
          have hst := str_take d0.f1.b L hle
          go_still_tail 18, (by kernel_rfl)
          go_wp2
          go_roundw
          case rel => exact ⟨2, by omega, by go_num, Lib.hid (by simpa [powTo, FileM.cut, N.out, HL.out, HD0.out] using RefAt.drew (hr2.store (d' := { d0 with f1 := ⟨d0.f1.b.take L, L⟩ }) 1 _ rfl)), Lib.hid (Same.drew (hs2.setCell (fun _ h => h rfl) _))⟩
          case measure => simp [intOf]
      · have hiI : (keep.length : Int) ≤ 1 := by omega
        have hmin := keepN_out hi d0.f1 o1'
        obtain ⟨n, hn⟩ : ∃ n, n = keepN keep 1 d0.f1 := ⟨_, rfl⟩
        have N := Lib.hid hn
        rw [← hn] at hle hmin
        clear hn
        have hwr : IntKind.i64.wrap ((d0.f1.b.length : Int) - (d0.f1.last : Int)) = (d0.f1.b.length : Int) - (d0.f1.last : Int) := IntWalk.i64_in _ (by omega)
        go_wp2
        go_still_tail 16, (by kernel_rfl)
        go_wp2
        clear hwr hmin
        have hr1 : RefAt ({ heap := wr.heap, tape := wr.tape, drawn := wr.drawn + 1, os := wr.os, output := wr.output } : World) h (d0) := RefAt.drew (hr'.out)
        have hs1 : Same (fun k => k ≠ h) w ({ heap := wr.heap, tape := wr.tape, drawn := wr.drawn + 1, os := wr.os, output := wr.output } : World) := Same.drew (hsm.out)
        generalize ({ heap := wr.heap, tape := wr.tape, drawn := wr.drawn + 1, os := wr.os, output := wr.output } : World) = W1 at *
        clear c0 c1 c2 c3 z0 z1 z2 z3
        obtain ⟨⟨c0, c1, c2, c3⟩, -⟩ := hr1.cells
        obtain ⟨⟨z0, z1, z2, z3⟩, -⟩ := hr1.free
        have hwr : IntKind.i64.wrap ((d0.f1.last : Int) + (n : Int)) = (d0.f1.last : Int) + (n : Int) := IntWalk.i64_in _ (by omega)
        go_still_tail 13, (by kernel_rfl)
        go_wp2
        clear hwr
        have hr2 : RefAt (W1.setCell ⟨h, 3, none⟩ (.int .i64 ((d0.f1.last : Int) + (n : Int)))).drew h ({ d0 with f1 := ⟨d0.f1.b, d0.f1.last + n⟩ }) := RefAt.drew (hr1.store (d' := { d0 with f1 := ⟨d0.f1.b, d0.f1.last + n⟩ }) 3 _ (by simp [refCells]))
        have hs2 : Same (fun k => k ≠ h) w (W1.setCell ⟨h, 3, none⟩ (.int .i64 ((d0.f1.last : Int) + (n : Int)))).drew := Same.drew (hs1.setCell (fun _ h => h rfl) _)
        generalize (W1.setCell ⟨h, 3, none⟩ (.int .i64 ((d0.f1.last : Int) + (n : Int)))).drew = W2 at *
        clear c0 c1 c2 c3 z0 z1 z2 z3
        obtain ⟨⟨c0, c1, c2, c3⟩, -⟩ := hr2.cells
        obtain ⟨⟨z0, z1, z2, z3⟩, -⟩ := hr2.free
        obtain ⟨L, hL⟩ : ∃ L, L = d0.f1.last + n := ⟨_, rfl⟩
        have HL := Lib.hid hL
        rw [← hL] at hle hr2 c3
        clear hL
        have hle0 : (0 : Int) ≤ (L : Int) := by omega
        have hleI : (L : Int) ≤ (d0.f1.b.length : Int) := by omega
        have hst := str_take d0.f1.b L hle
        go_still_tail 18, (by kernel_rfl)
        go_wp2
        go_roundw
        case rel => exact ⟨2, by omega, by go_num, Lib.hid (by simpa [powTo, FileM.cut, N.out, HL.out, HD0.out] using RefAt.drew (hr2.store (d' := { d0 with f1 := ⟨d0.f1.b.take L, L⟩ }) 1 _ rfl)), Lib.hid (Same.drew (hs2.setCell (fun _ h => h rfl) _))⟩
        case measure => simp [intOf]
    · obtain ⟨d2, hd2⟩ : ∃ d2, d2 = powTo d keep 2 := ⟨_, rfl⟩
      have hlv2 : d2.lives < 1000000 := by rw [hd2]; exact hlv
      rw [← hd2] at hr
      have HD2 := Lib.hid hd2
      clear hd2
      obtain ⟨-, c4, c5, c6, -⟩ := hr.out.cells
      obtain ⟨-, z4, z5, z6, -⟩ := hr.out.free
      go_wp2
      go_end0
      have e : d.power keep = { d2 with off := false, armed := -1, lives := d2.lives + 1 } := by rw [HD2.out]; rfl
      rw [e]
      exact ⟨rfl, ((hr.out.store (d' := { d2 with off := false }) 4 _ rfl).store (d' := { d2 with off := false, armed := -1 }) 5 _ rfl).store 6 _ rfl, ((hsm.out.setCell (fun _ h => h rfl) _).setCell (fun _ h => h rfl) _).setCell (fun _ h => h rfl) _⟩
end Go.Proofs.Ytpjinngngbifoaa
