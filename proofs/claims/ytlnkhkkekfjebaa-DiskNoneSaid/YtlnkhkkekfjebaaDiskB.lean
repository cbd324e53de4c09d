/-
  What the laws of disk begin with.
-/
import Derived.Test.YtlnkhkkekfjebaaDiskP
import Derived.Test.YtlnkhkkekfjebaaSumL
set_option linter.unusedSimpArgs false
set_option linter.unusedVariables false
namespace Go.Proofs.Ytlnkhkkekfjebaa
open Go.RowKit Go.ChangeMaps Go.MapKept

theorem Ints.lit {w : World} {S : Nat → Prop} {g : Nat} {ns : List Int} {n c : Nat} {e : TypeId} {fr : Nat × Nat} (h : w.heap[g]? = some (.cells (ns.map (Value.int .i64)).toArray e fr)) (hs : S g) (hn : n = ns.length) (hc : n ≤ c) (hm : c ≤ maxLen)
    (hb : ∀ n ∈ ns, -9223372036854775808 ≤ n ∧ n ≤ 9223372036854775807) :
    Ints w S (.slice (some ⟨g, 0, none⟩) n c) ns := by
  subst hn
  refine ⟨_, c, rfl, hc, hm, ⟨by simp, fun _ => ⟨_, rfl, hs, fun j u hu => ?_⟩⟩, hb⟩
  have e0 : (⟨g, 0, none⟩ : Addr).add j = ⟨g, j, none⟩ := by unfold Addr.add; split <;> simp_all
  rw [e0, cell_of_row w g j _ e fr h]
  simpa using hu
def bd1 : DiskM := ((DiskM.new).append 0 [97, 98]).2
def bd2 : DiskM := (bd1.sync 0).2
def bd3 : DiskM := (bd2.append 0 [99, 100]).2
def bd4 : DiskM := bd3.power [1]
theorem bd1_eq : bd1 = ⟨⟨[97, 98], 0⟩, ⟨[], 0⟩, -1, false, 0, 1⟩ := by rfl
theorem bd2_eq : bd2 = ⟨⟨[97, 98], 2⟩, ⟨[], 0⟩, -1, false, 0, 2⟩ := by rfl
theorem bd3_eq : bd3 = ⟨⟨[97, 98, 99, 100], 2⟩, ⟨[], 0⟩, -1, false, 0, 3⟩ := by rfl
theorem bd4_eq : bd4 = ⟨⟨[97, 98, 99], 3⟩, ⟨[], 0⟩, -1, false, 1, 3⟩ := by rfl
set_option maxRecDepth 100000 in
theorem diskbegun_any (w : World) : Calls Try.prog 37 #[] w (TrueP w) := by
  have kc := conv_const
  go_enter Try.func37, Try.ntmps37
  go_wp2_with (go_at_call 38; refine (dnew_any _).mono ?_; rintro e w1 ⟨g, r, rfl, hg, hr, hd1, hs1⟩)
  have hgr := hd1.2.2.2.1
  have hlt := hd1.2.1
  have hltr := hd1.2.2.1
  have hB : Same (fun _ => True) w1 (w1.alloc (.cells #[.int .u8 97, .int .u8 98] 5 (2, 3))) := (Same.refl _ _).alloc _
  refine (dappend_any g r _ (fun _ => True) DiskM.new 0 _ [97, 98] _ (hd1.keepAll hB) ⟨by decide, by decide⟩ (By.lit (fr := (2, 3)) (e := 5) (heap_now rfl) trivial rfl (by decide) (by simp [maxLen])) (by decide)).mono ?_
  rintro e w2 ⟨rfl, ⟨F2, hF2, hd2⟩, hs2⟩
  go_wp2_with (go_at_call 43; refine stopAt ?_)
  unfold Hid
  rw [show (DiskM.new.append 0 [97, 98]).1 = 0 from rfl]
  have hd2 : DiskAt w2 g r F2 bd1 := hd2
  refine (dsync_any g r F2 bd1 0 _ hd2 ⟨by decide, by decide⟩).mono ?_
  rintro e w3 ⟨rfl, ⟨F3, hF3, hd3⟩, hs3⟩
  rw [show (bd1.sync 0).1 = 0 from rfl]
  have hd3 : DiskAt w3 g r F3 bd2 := hd3
  have hz12 := hs2.size
  have hz23 := hs3.size
  go_wp2_with (go_at_call 39; refine stopAt ?_)
  unfold Hid
  have hB3 : Same (fun _ => True) w3 (w3.alloc (.cells #[.int .u8 99, .int .u8 100] 5 (2, 3))) := (Same.refl _ _).alloc _
  refine (dappend_any g r _ (fun _ => True) bd2 0 _ [99, 100] _ (hd3.keepAll hB3) ⟨by decide, by decide⟩ (By.lit (fr := (2, 3)) (e := 5) (heap_now rfl) trivial rfl (by decide) (by simp [maxLen])) (by decide)).mono ?_
  rintro e w4 ⟨rfl, ⟨F4, hF4, hd4⟩, hs4⟩
  have hd4 : DiskAt w4 g r F4 bd3 := hd4
  go_wp2_with (go_at_call 40; refine stopAt ?_)
  unfold Hid
  have hB4 : Same (fun _ => True) w4 (w4.alloc (.cells #[.int .i64 1] 3)) := (Same.refl _ _).alloc _
  have hl4 := hd4.2.1
  have hl4r := hd4.2.2.1
  refine (dpower_any g r F4 (fun k => k = w4.heap.size) bd3 [1] _ _ (hd4.keepAll hB4) ⟨by decide, by decide, by decide⟩ (Ints.lit (fr := (0, 0)) (e := 3) (heap_now rfl) rfl rfl (by decide) (by simp [maxLen]) (by simp)) (fun k hk => by simp; omega) ⟨by decide, by decide⟩ (by decide)).mono ?_
  rintro e w5 ⟨rfl, hd5, hs5⟩
  have hd5 : DiskAt w5 g r F4 bd4 := hd5
  go_wp2_with (go_at_call 41; refine stopAt ?_)
  unfold Hid
  refine (dread_any g r F4 bd4 0 _ hd5 (by decide)).mono ?_
  rintro e w6 ⟨u, rfl, hu, hs6⟩
  have hu : w6.ownsRow w5.heap.size 5 1 u ([97, 98, 99] : List UInt8).length (cs8 [97, 98, 99]) := hu
  rw [show (bd4.read 0).2 = 0 from rfl]
  obtain ⟨A, c, rfl, _, _, hsl⟩ := own_by hu
  have hcv : (convert 27 9 (.slice A ([97, 98, 99] : List UInt8).length c)).run Try.prog w6 = .ok (.string ⟨#[97, 98, 99]⟩) w6 :=
    conv_str (P := Try.prog) c 27 9 5 Try.underlying27 Try.underlying5 Try.underlying9 hsl
  have hd6 := hd5.keepAll hs6
  have hlv : Calls Try.prog 64 #[ptr g] w6 fun e w' => e = .returned (.int .i64 1) ∧ w6 = w' := dlives_any g r F4 bd4 w6 hd6
  have hst : Calls Try.prog 51 #[ptr g] w6 fun e w' => e = .returned (.int .i64 3) ∧ w6 = w' := dsteps_any g r F4 bd4 w6 hd6
  simp only [List.length_cons, List.length_nil] at hcv ⊢
  go_wp2_with (first | (go_at_call 64; refine hlv.mono ?_; rintro e w7 ⟨rfl, rfl⟩) | (go_at_call 51; refine hst.mono ?_; rintro e w7 ⟨rfl, rfl⟩))
  go_ret
  refine ⟨rfl, ?_⟩
  have hz34 := hs4.size
  have hz45 := hs5.size
  simp at hz12 hz34 hz45
  exact ((((((hs1.trans hB).trans' hs2 (fun k hk _ => by constructor <;> omega)).trans' hs3 (fun k hk _ => by constructor <;> omega)).trans hB3).trans' hs4 (fun k hk _ => by constructor <;> omega)).trans hB4).trans' hs5 (fun k hk _ => by constructor <;> omega) |>.trans hs6
end Go.Proofs.Ytlnkhkkekfjebaa
