/-
  DiskLasts: for every file, every bytes and every run of operations that does not clear that file, what was synced is read behind any failure.
-/
import Derived.Test.YtlnkhkkekfjebaaDiskB
import Derived.Test.YtlnkhkkekfjebaaDiskO
import Derived.BigQuiet
set_option linter.unusedSimpArgs false
set_option linter.unusedVariables false
namespace Go.Proofs.Ytlnkhkkekfjebaa
open Go.RowKit Go.ChangeMaps Go.MapKept

/-- What was synced of file f is there. -/
structure LastInv (d : DiskM) (f : Int) (b : List UInt8) (m : Nat) : Prop where
  pre : b <+: (d.file f).b
  last : b.length ≤ (d.file f).last
  l0 : d.f0.last ≤ d.f0.b.length
  l1 : d.f1.last ≤ d.f1.b.length
  n0 : d.f0.b.length ≤ (m + 1) * 1000
  n1 : d.f1.b.length ≤ (m + 1) * 1000
  armed : -1 ≤ d.armed ∧ d.armed ≤ 9223372036854775807
  steps : d.steps ≤ m + 2
  lives : d.lives ≤ m
section
variable {d : DiskM} {f : Int} {b : List UInt8} {m : Nat}
theorem LastInv.more (h : LastInv d f b m) : LastInv d f b (m + 1) :=
  ⟨h.pre, h.last, h.l0, h.l1, Nat.le_trans h.n0 (Nat.mul_le_mul_right _ (by omega)), Nat.le_trans h.n1 (Nat.mul_le_mul_right _ (by omega)), h.armed, by have := h.steps; omega, by have := h.lives; omega⟩
theorem file_len (h : LastInv d f b m) (g : Int) : (d.file g).last ≤ (d.file g).b.length ∧ (d.file g).b.length ≤ (m + 1) * 1000 := by
  unfold DiskM.file
  split
  · exact ⟨h.l0, h.n0⟩
  · exact ⟨h.l1, h.n1⟩
theorem LastInv.step (h : LastInv d f b m) (hf : f = 0 ∨ f = 1) (g : Int) (hg : g = 0 ∨ g = 1) (x : FileM) (hx : x.last ≤ x.b.length) (hn : x.b.length ≤ (m + 2) * 1000) (hb : g = f → b <+: x.b ∧ b.length ≤ x.last) :
    LastInv (d.step g x).2 f b (m + 1) := by
  have h' := h.more
  have ha := h.armed
  have hs := h.steps
  unfold DiskM.step
  split
  · exact ⟨h'.pre, h'.last, h'.l0, h'.l1, h'.n0, h'.n1, h'.armed, h'.steps, h'.lives⟩
  · have hA : -1 ≤ (if 0 < d.armed then d.armed - 1 else d.armed) ∧ (if 0 < d.armed then d.armed - 1 else d.armed) ≤ 9223372036854775807 := by
      by_cases h0 : 0 < d.armed
      · rw [if_pos h0]; constructor <;> omega
      · rw [if_neg h0]; exact ha
    rcases hg with rfl | rfl
    · refine ⟨?_, ?_, by simpa [DiskM.put] using hx, by simpa [DiskM.put] using h.l1, by simpa [DiskM.put] using hn, by simpa [DiskM.put] using h'.n1, hA, by simp [DiskM.put]; omega, by simpa [DiskM.put] using h'.lives⟩
      · rcases hf with rfl | rfl
        · simpa [DiskM.put, DiskM.file] using (hb rfl).1
        · simpa [DiskM.put, DiskM.file] using h.pre
      · rcases hf with rfl | rfl
        · simpa [DiskM.put, DiskM.file] using (hb rfl).2
        · simpa [DiskM.put, DiskM.file] using h.last
    · refine ⟨?_, ?_, by simpa [DiskM.put] using h.l0, by simpa [DiskM.put] using hx, by simpa [DiskM.put] using h'.n0, by simpa [DiskM.put] using hn, hA, by simp [DiskM.put]; omega, by simpa [DiskM.put] using h'.lives⟩
      · rcases hf with rfl | rfl
        · simpa [DiskM.put, DiskM.file] using h.pre
        · simpa [DiskM.put, DiskM.file] using (hb rfl).1
      · rcases hf with rfl | rfl
        · simpa [DiskM.put, DiskM.file] using h.last
        · simpa [DiskM.put, DiskM.file] using (hb rfl).2
theorem LastInv.append (h : LastInv d f b m) (hf : f = 0 ∨ f = 1) (g : Int) (x : List UInt8) (hx : x.length ≤ 1000) : LastInv (d.append g x).2 f b (m + 1) := by
  unfold DiskM.append
  split
  · exact h.more
  · rename_i hm
    have hl := file_len h g
    refine h.step hf g (DiskM.may_zero (by simpa using hm)) _ (by simp; omega) (by simp; omega) ?_
    rintro rfl
    exact ⟨h.pre.trans (List.prefix_append _ _), h.last⟩
theorem LastInv.sync (h : LastInv d f b m) (hf : f = 0 ∨ f = 1) (g : Int) : LastInv (d.sync g).2 f b (m + 1) := by
  unfold DiskM.sync
  split
  · exact h.more
  · rename_i hm
    have hl := file_len h g
    refine h.step hf g (DiskM.may_zero (by simpa using hm)) _ (by simp) (by simp; omega) ?_
    rintro rfl
    exact ⟨h.pre, h.pre.length_le⟩
theorem LastInv.clear (h : LastInv d f b m) (hf : f = 0 ∨ f = 1) (g : Int) (hg : g ≠ f) : LastInv (d.clear g).2 f b (m + 1) := by
  unfold DiskM.clear
  split
  · exact h.more
  · rename_i hm
    exact h.step hf g (DiskM.may_zero (by simpa using hm)) _ (by simp) (by simp) (fun e => absurd e hg)
theorem LastInv.arm (h : LastInv d f b m) (n : Int) (hn : n ≤ 9223372036854775807) : LastInv (d.arm n) f b (m + 1) :=
  ⟨h.more.pre, h.more.last, h.more.l0, h.more.l1, h.more.n0, h.more.n1, by simp [DiskM.arm]; omega, h.more.steps, h.more.lives⟩
theorem cut_len (x : FileM) (keep : List Int) (i : Nat) (h : x.last ≤ x.b.length) : (x.cut (keepN keep i x)).last ≤ (x.cut (keepN keep i x)).b.length ∧ (x.cut (keepN keep i x)).b.length ≤ x.b.length ∧ x.last ≤ (x.cut (keepN keep i x)).last := by
  have : keepN keep i x ≤ x.b.length - x.last := by unfold keepN; split <;> omega
  simp [FileM.cut]; omega
theorem cut_pre {x : FileM} {b : List UInt8} (n : Nat) (h1 : b <+: x.b) (h2 : b.length ≤ x.last) : b <+: (x.cut n).b := by
  simp only [FileM.cut]
  rw [List.prefix_iff_eq_take] at h1 ⊢
  rw [List.take_take, Nat.min_eq_left (by omega)]
  exact h1
theorem LastInv.power (h : LastInv d f b m) (hf : f = 0 ∨ f = 1) (keep : List Int) : LastInv (d.power keep) f b (m + 1) := by
  have c0 := cut_len d.f0 keep 0 h.l0
  have c1 := cut_len d.f1 keep 1 h.l1
  have h0 := h.more.n0
  have h1 := h.more.n1
  have hp := h.pre
  have hl := h.last
  have hlv := h.lives
  have hst := h.more.steps
  refine ⟨?_, ?_, c0.1, c1.1, by simp only [DiskM.power]; omega, by simp only [DiskM.power]; omega, by simp [DiskM.power], by simpa [DiskM.power] using hst, by simp [DiskM.power]; omega⟩
  · rcases hf with rfl | rfl
    · simp only [DiskM.file, DiskM.power, if_true] at hp hl ⊢; exact cut_pre _ hp hl
    · simp only [DiskM.file, DiskM.power, Int.reduceEq, if_false] at hp hl ⊢; exact cut_pre _ hp hl
  · rcases hf with rfl | rfl
    · simp only [DiskM.file, DiskM.power, if_true] at hl ⊢; omega
    · simp only [DiskM.file, DiskM.power, Int.reduceEq, if_false] at hl ⊢; omega
theorem LastInv.fit (h : LastInv d f b m) (hm : m ≤ 1000) : d.Fit := ⟨h.armed, by have := h.steps; omega⟩
theorem LastInv.okk (h : LastInv d f b m) : d.Ok := ⟨h.l0, h.l1, h.armed⟩
theorem LastInv.start (hf : f = 0 ∨ f = 1) (hb : b.length ≤ 1000) : (DiskM.new.append f b).1 = 0 ∧ ((DiskM.new.append f b).2.sync f).1 = 0 ∧ LastInv ((DiskM.new.append f b).2.sync f).2 f b 0 := by
  rcases hf with rfl | rfl
  · refine ⟨by rfl, by rfl, ?_⟩
    exact ⟨by show b <+: [] ++ b; simp, by show b.length ≤ ([] ++ b).length; simp, by show ([] ++ b).length ≤ ([] ++ b).length; omega, by show 0 ≤ 0; omega, by show ([] ++ b).length ≤ _; simp; omega, by show 0 ≤ _; omega, by show -1 ≤ (-1 : Int) ∧ (-1 : Int) ≤ _; omega, by show 2 ≤ 2; omega, by show 0 ≤ 0; omega⟩
  · refine ⟨by rfl, by rfl, ?_⟩
    exact ⟨by show b <+: [] ++ b; simp, by show b.length ≤ ([] ++ b).length; simp, by show 0 ≤ 0; omega, by show ([] ++ b).length ≤ ([] ++ b).length; omega, by show 0 ≤ _; omega, by show ([] ++ b).length ≤ _; simp; omega, by show -1 ≤ (-1 : Int) ∧ (-1 : Int) ≤ _; omega, by show 2 ≤ 2; omega, by show 0 ≤ 0; omega⟩
/-- What is read in the end. -/
theorem LastInv.read (h : LastInv d f b m) (hf : f = 0 ∨ f = 1) : ∃ c, (d.power []).read f = (b ++ c, 0) ∧ (b ++ c).length ≤ (m + 2) * 1000 := by
  have hp := h.power hf []
  obtain ⟨c, hc⟩ := hp.pre
  have hl := file_len hp f
  refine ⟨c, ?_, by rw [hc]; omega⟩
  unfold DiskM.read
  have : (d.power []).may f = 0 := by unfold DiskM.may; rw [if_neg (by simp [DiskM.power]), if_pos hf]
  rw [if_neg (by simp [this]), hc]
end
set_option maxRecDepth 100000 in
set_option maxHeartbeats 2000000 in
theorem disklasts_walk (x : Int) (vb vo : Value) (b : List UInt8) (ops : List OpM) (w : World) (hx : -9223372036854775808 ≤ x ∧ x ≤ 9223372036854775807) (hb : By w (· < w.heap.size) vb b) (ho : SlOf cOp w (· < w.heap.size) vo ops) :
    Calls Try.prog 9 #[.int .i64 x, vb, vo] w (TrueP w) := by
  have hlg := fun W (h : Same (fun _ => True) w W) => light_any vo ops 60 (· < w.heap.size) W (ho.keep (h.mono fun _ _ _ => trivial)) (by decide)
  have ho' := ho
  obtain ⟨B, cb, rfl, hcb, hmb, hsb⟩ := hb
  obtain ⟨A, ca, rfl, hca, hma, -⟩ := ho'
  have HB := Lib.hid hsb
  have HO := Lib.hid ho
  unfold maxLen at hmb hma
  clear hsb ho
  cases hl : light 60 ops
  · rw [hl] at hlg
    clear hl
    go_enter Try.func9, Try.ntmps9
    go_wp2_with (first
      | (go_at_call 37; refine (diskbegun_any _).mono ?_; rintro e w1 ⟨rfl, hs1⟩)
      | (go_at_call 42; refine (hlg _ hs1).mono ?_; rintro e w' ⟨rfl, rfl⟩))
    go_ret
    exact ⟨rfl, hs1⟩
  · rw [hl] at hlg
    obtain ⟨ho60, hoe⟩ := light_out hl
    have HOE := Lib.hid hoe
    clear hl hoe
    by_cases hlong : 1000 < b.length
    · go_enter Try.func9, Try.ntmps9
      go_wp2_with (first
        | (go_at_call 37; refine (diskbegun_any _).mono ?_; rintro e w1 ⟨rfl, hs1⟩)
        | (go_at_call 42; refine (hlg _ hs1).mono ?_; rintro e w' ⟨rfl, rfl⟩))
      go_ret
      exact ⟨rfl, hs1⟩
    · have hb1000 : b.length ≤ 1000 := by omega
      clear hlong
      have hp := placeF_bd x 2
      have hp2 := hp.2 (by omega)
      have hpl := fun w => place_any x 2 w hx (by omega)
      generalize placeF x 2 = f at *
      have hf : f = 0 ∨ f = 1 := by omega
      have Hf := Lib.hid hf
      obtain ⟨q1, q2, q3⟩ := LastInv.start (f := f) (b := b) hf hb1000
      have Q := Lib.hid (And.intro q1 (And.intro q2 q3))
      clear hp hp2 q1 q2 q3 hf
      go_enter Try.func9, Try.ntmps9
      go_wp2_with (first
        | (go_at_call 37; refine (diskbegun_any _).mono ?_; rintro e w1 ⟨rfl, hs1⟩)
        | (go_at_call 42; refine (hlg _ hs1).mono ?_; rintro e w' ⟨rfl, rfl⟩)
        | (go_at_call 36; refine (hpl _).mono ?_; rintro e w' ⟨rfl, rfl⟩)
        | (go_at_call 38; refine (dnew_any _).mono ?_; rintro e w2 ⟨g, r, rfl, hg, hr, hd1, hs2⟩)
        | (go_at_call 39; refine stopAt ?_))
      unfold Hid
      have hs12 := hs1.trans hs2
      have hz1 := hs1.size
      refine (dappend_any g r _ (· < w.heap.size) DiskM.new f _ b _ hd1 ⟨by decide, by decide⟩ ⟨B, cb, rfl, hcb, hmb, HB.out.keep (hs12.mono fun _ _ _ => trivial)⟩ (by rcases Hf.out with rfl | rfl <;> (show 0 + _ ≤ _; omega))).mono ?_
      rintro e w3 ⟨rfl, ⟨F3, hF3, hd3⟩, hs3⟩
      rw [Q.out.1]
      have hs13 := hs12.trans' hs3 (fun k hk _ => by constructor <;> omega)
      go_wp2_with (go_at_call 43; refine stopAt ?_)
      unfold Hid
      have hz2 := hs2.size
      refine (dsync_any g r F3 _ f _ hd3 ⟨(by rcases Hf.out with rfl | rfl <;> (show -1 ≤ (-1 : Int) ∧ (-1 : Int) ≤ _; omega)), (by rcases Hf.out with rfl | rfl <;> (show 1 < _; omega))⟩).mono ?_
      rintro e w4 ⟨rfl, ⟨F4, hF4, hd4⟩, hs4⟩
      rw [Q.out.2.1]
      have hs14 := Lib.hid (hs13.trans' hs4 (fun k hk _ => by constructor <;> omega))
      have HD := Lib.hid hd4
      have HQ := Lib.hid Q.out.2.2
      clear hd1 hd3 hd4 hs1 hs2 hs3 hs4 hs12 hs13 hF3 hF4 Q hlg hpl
      generalize ((DiskM.new.append f b).2.sync f).2 = d0 at *
      go_wp2
      go_loopw [8] (fun i wr => ∃ (k : Nat) (d : DiskM) (F : Nat → Prop), k ≤ ops.length ∧ i = .int .i64 k ∧ Hid (LastInv d f b k) ∧ Hid (DiskAt wr g r F d) ∧ Hid (Same (fun _ => True) w wr)) (fun i _ => ops.length - (intOf i).toNat)
      case atStart => exact ⟨0, d0, _, by omega, rfl, HQ, HD, hs14⟩
      case round =>
        obtain ⟨k, d, F, hk, rfl, HI, hd, hsm⟩ := hrel
        clear HQ HD hs14
        by_cases hlt : k < ops.length
        · obtain ⟨ad, vb, vk, rfl, hadb, c0, c1, c2, c3, c4, hb, hkp, wk, wf, wn⟩ := op_at (HO.out.keep (hsm.out.mono fun _ _ _ => trivial)) hlt
          have HBY := Lib.hid hb
          have HKP := Lib.hid hkp
          obtain ⟨A1, c1', rfl, -, hm1, -⟩ := hb
          obtain ⟨A2, c2', rfl, -, hm2, -⟩ := hkp
          unfold maxLen at hm1 hm2
          have hlen := (HOE.out k hlt)
          have hIf := HI.out.fit (by omega)
          have hlv := HI.out.lives
          have hn0 := HI.out.n0
          have hn1 := HI.out.n1
          have hz := hsm.out.size
          obtain ⟨q, hq6, hq⟩ : ∃ q : Nat, q < 6 ∧ placeF ops[k].kind 6 = q := by
            have := placeF_bd ops[k].kind 6
            exact ⟨(placeF ops[k].kind 6).toNat, by have := this.2 (by omega); omega, by omega⟩
          have hplk := fun w => place_any ops[k].kind 6 w wk (by omega)
          rw [hq] at hplk
          have hkeepS : ∀ j, j < w.heap.size → j < wr.heap.size + 1 ∧ j ≠ g ∧ j ≠ r := fun j hj => by omega
          obtain rfl | rfl | rfl | rfl | rfl | rfl : q = 0 ∨ q = 1 ∨ q = 2 ∨ q = 3 ∨ q = 4 ∨ q = 5 := by omega
          · go_wp2_with (first | (go_at_call 36; refine (hplk _).mono ?_; rintro e w' ⟨rfl, rfl⟩) | (go_at_call 39; refine stopAt ?_))
            unfold Hid
            have hB : Same (fun _ => True) wr (wr.alloc (.cells #[.int .i64 ops[k].kind, .int .i64 ops[k].f, .int .i64 ops[k].n, .slice A1 ops[k].b.length c1', .slice A2 ops[k].keep.length c2'] 53)) := (Same.refl _ _).alloc _
            refine (dappend_any g r F _ d ops[k].f _ ops[k].b _ (hd.out.keepAll hB) hIf (HBY.out.keep (hB.mono fun _ _ _ => trivial)) (by have := (file_len HI.out ops[k].f).2; omega)).mono ?_
            rintro e w5 ⟨rfl, ⟨F', hF', hd'⟩, hs'⟩
            have hi' := Lib.hid (HI.out.append Hf.out ops[k].f ops[k].b hlen.1)
            have hsm' := Lib.hid ((hsm.out.trans hB).trans' hs' (fun k hk _ => by constructor <;> omega))
            have hgrow := hs'.size
            have Hd := Lib.hid hd'
            clear hd hsm hs' hd' hB HBY HKP HI hIf
            go_wp2
            go_roundw
            case rel => exact ⟨k + 1, _, _, by omega, by go_num, hi', Hd, hsm'⟩
            case measure => simp [intOf]; omega
          · go_wp2_with (first | (go_at_call 36; refine (hplk _).mono ?_; rintro e w' ⟨rfl, rfl⟩) | (go_at_call 43; refine stopAt ?_))
            unfold Hid
            have hB : Same (fun _ => True) wr (wr.alloc (.cells #[.int .i64 ops[k].kind, .int .i64 ops[k].f, .int .i64 ops[k].n, .slice A1 ops[k].b.length c1', .slice A2 ops[k].keep.length c2'] 53)) := (Same.refl _ _).alloc _
            refine (dsync_any g r F d ops[k].f _ (hd.out.keepAll hB) hIf).mono ?_
            rintro e w5 ⟨rfl, ⟨F', hF', hd'⟩, hs'⟩
            have hi' := Lib.hid (HI.out.sync Hf.out ops[k].f)
            have hsm' := Lib.hid ((hsm.out.trans hB).trans' hs' (fun k hk _ => by constructor <;> omega))
            have hgrow := hs'.size
            have Hd := Lib.hid hd'
            clear hd hsm hs' hd' hB HBY HKP HI hIf
            go_wp2
            go_roundw
            case rel => exact ⟨k + 1, _, _, by omega, by go_num, hi', Hd, hsm'⟩
            case measure => simp [intOf]; omega
          · by_cases hne : ops[k].f = f
            · have hneb : (ops[k].f != f) = false := by simpa using hne
              clear hne
              go_wp2_with (go_at_call 36; refine (hplk _).mono ?_; rintro e w' ⟨rfl, rfl⟩)
              have hB : Same (fun _ => True) wr (wr.alloc (.cells #[.int .i64 ops[k].kind, .int .i64 ops[k].f, .int .i64 ops[k].n, .slice A1 ops[k].b.length c1', .slice A2 ops[k].keep.length c2'] 53)) := (Same.refl _ _).alloc _
              have hi' := Lib.hid HI.out.more
              have Hd := Lib.hid (hd.out.keepAll hB)
              have hsm' := Lib.hid (hsm.out.trans hB)
              clear hd hsm hB HBY HKP HI hIf
              go_roundw
              case rel => exact ⟨k + 1, _, _, by omega, by go_num, hi', Hd, hsm'⟩
              case measure => simp [intOf]; omega
            · have hneb : (ops[k].f != f) = true := by simpa using hne
              have HN := Lib.hid hne
              clear hne
              go_wp2_with (first | (go_at_call 36; refine (hplk _).mono ?_; rintro e w' ⟨rfl, rfl⟩) | (go_at_call 44; refine stopAt ?_))
              unfold Hid
              have hB : Same (fun _ => True) wr (wr.alloc (.cells #[.int .i64 ops[k].kind, .int .i64 ops[k].f, .int .i64 ops[k].n, .slice A1 ops[k].b.length c1', .slice A2 ops[k].keep.length c2'] 53)) := (Same.refl _ _).alloc _
              refine (dclear_any g r F d ops[k].f _ (hd.out.keepAll hB) hIf).mono ?_
              rintro e w5 ⟨rfl, ⟨F', hF', hd'⟩, hs'⟩
              have hi' := Lib.hid (HI.out.clear Hf.out ops[k].f HN.out)
              have hsm' := Lib.hid ((hsm.out.trans hB).trans' hs' (fun k hk _ => by constructor <;> omega))
              have hgrow := hs'.size
              have Hd := Lib.hid hd'
              clear hd hsm hs' hd' hB HBY HKP HI hIf
              go_wp2
              go_roundw
              case rel => exact ⟨k + 1, _, _, by omega, by go_num, hi', Hd, hsm'⟩
              case measure => simp [intOf]; omega
          · go_wp2_with (go_at_call 36; refine (hplk _).mono ?_; rintro e w' ⟨rfl, rfl⟩)
            have hB : Same (fun _ => True) wr (wr.alloc (.cells #[.int .i64 ops[k].kind, .int .i64 ops[k].f, .int .i64 ops[k].n, .slice A1 ops[k].b.length c1', .slice A2 ops[k].keep.length c2'] 53)) := (Same.refl _ _).alloc _
            have hi' := Lib.hid HI.out.more
            have Hd := Lib.hid (hd.out.keepAll hB)
            have hsm' := Lib.hid (hsm.out.trans hB)
            clear hd hsm hB HBY HKP HI hIf
            go_roundw
            case rel => exact ⟨k + 1, _, _, by omega, by go_num, hi', Hd, hsm'⟩
            case measure => simp [intOf]; omega
          · go_wp2_with (first | (go_at_call 36; refine (hplk _).mono ?_; rintro e w' ⟨rfl, rfl⟩) | (go_at_call 45; refine stopAt ?_))
            unfold Hid
            have hB : Same (fun _ => True) wr (wr.alloc (.cells #[.int .i64 ops[k].kind, .int .i64 ops[k].f, .int .i64 ops[k].n, .slice A1 ops[k].b.length c1', .slice A2 ops[k].keep.length c2'] 53)) := (Same.refl _ _).alloc _
            refine (darm_any g r F d ops[k].n _ (hd.out.keepAll hB)).mono ?_
            rintro e w5 ⟨rfl, hd', hs'⟩
            have hi' := Lib.hid (HI.out.arm ops[k].n wn.2)
            have hsm' := Lib.hid ((hsm.out.trans hB).trans' hs' (fun k hk _ => by constructor <;> omega))
            have hgrow := hs'.size
            have Hd := Lib.hid hd'
            clear hd hsm hs' hd' hB HBY HKP HI hIf
            go_wp2
            go_roundw
            case rel => exact ⟨k + 1, _, _, by omega, by go_num, hi', Hd, hsm'⟩
            case measure => simp [intOf]; omega
          · go_wp2_with (first | (go_at_call 36; refine (hplk _).mono ?_; rintro e w' ⟨rfl, rfl⟩) | (go_at_call 40; refine stopAt ?_))
            unfold Hid
            have hB : Same (fun _ => True) wr (wr.alloc (.cells #[.int .i64 ops[k].kind, .int .i64 ops[k].f, .int .i64 ops[k].n, .slice A1 ops[k].b.length c1', .slice A2 ops[k].keep.length c2'] 53)) := (Same.refl _ _).alloc _
            refine (dpower_any g r F (· < w.heap.size) d ops[k].keep _ _ (hd.out.keepAll hB) HI.out.okk (HKP.out.keep (hB.mono fun _ _ _ => trivial)) (fun j hj => by simpa using hkeepS j hj) ⟨by omega, by omega⟩ (by omega)).mono ?_
            rintro e w5 ⟨rfl, hd', hs'⟩
            have hi' := Lib.hid (HI.out.power Hf.out ops[k].keep)
            have hsm' := Lib.hid ((hsm.out.trans hB).trans' hs' (fun k hk _ => by constructor <;> omega))
            have hgrow := hs'.size
            have Hd := Lib.hid hd'
            clear hd hsm hs' hd' hB HBY HKP HI hIf
            go_wp2
            go_roundw
            case rel => exact ⟨k + 1, _, _, by omega, by go_num, hi', Hd, hsm'⟩
            case measure => simp [intOf]; omega
        · obtain rfl : k = ops.length := by omega
          have hlv := HI.out.lives
          have hn0 := HI.out.n0
          have hn1 := HI.out.n1
          have hlr := hd.out.2.1
          have hlrr := hd.out.2.2.1
          go_wp2_with (go_at_call 40; refine stopAt ?_)
          unfold Hid
          refine (dpower_any g r F (fun _ => False) d [] _ _ hd.out HI.out.okk ⟨none, 0, rfl, by simp, by simp [maxLen], Sl.nil _ _ _ _, by simp⟩ (fun k hk => hk.elim) ⟨by omega, by omega⟩ (by omega)).mono ?_
          rintro e w5 ⟨rfl, hd5, hs5⟩
          have hsm5 := hsm.out.trans' hs5 (fun k hk _ => by constructor <;> omega)
          obtain ⟨c, hrd, hcl⟩ := HI.out.read Hf.out
          go_wp2_with (go_at_call 41; refine stopAt ?_)
          unfold Hid
          refine (dread_any g r F _ f _ hd5 (by have := (file_len (HI.out.power Hf.out []) f).2; omega)).mono ?_
          rw [hrd]
          rintro e w6 ⟨u, rfl, hu, hs6⟩
          have hsm6 := hsm5.trans hs6
          have hu : w6.ownsRow w5.heap.size 5 1 u (b ++ c).length (cs8 (b ++ c)) := hu
          obtain ⟨A6, c6, rfl, hc6, hm6, hsl6⟩ := own_by hu
          have v1 : ∀ k, (convert 27 9 (.slice A6 b.length c6)).run Try.prog (w6.drewN k) = .ok (.string (str b)) (w6.drewN k) := fun k => by
            have h := (hsl6.take (k := b.length) (by simp)).keep ((Same.refl _ _).drewN k)
            rw [Nat.mul_one, show (cs8 (b ++ c)).take b.length = cs8 b by simp [cs8]] at h
            exact conv_str (P := Try.prog) c6 27 9 5 Try.underlying27 Try.underlying5 Try.underlying9 h
          have v2 : ∀ k, (convert 27 9 (.slice B b.length cb)).run Try.prog (w6.drewN k) = .ok (.string (str b)) (w6.drewN k) := fun k =>
            conv_str (P := Try.prog) cb 27 9 5 Try.underlying27 Try.underlying5 Try.underlying9 ((HB.out.keep (hsm6.mono fun _ _ _ => trivial)).keep ((Same.refl _ _).drewN k))
          have hge : (b.length : Int) ≤ ((b ++ c).length : Int) := by simp; omega
          have hle : b.length ≤ (b ++ c).length := by simp
          unfold maxLen at hm6
          have Hs6 := Lib.hid hsm6
          clear hsm6 hsm5 hs5 hs6 hd5 hrd hu hsl6 hd hsm HI
          dsimp only
          generalize (b ++ c).length = L at *
          go_wp2
          go_quiet (fail)
          go_wp2
          go_ret
          exact ⟨rfl, Hs6.out.drewN _⟩
open Go.ChangeShapes Go.WideShapes Go.ChangeAt
set_option maxRecDepth 100000 in
theorem diskLasts_law {H : Type} {enc : TypeId × Value → H} : LawWalk Try.prog 9 Try.f9 H enc := by
  intro W base args ds ps hval hA
  rw [Try.params9] at hval
  have hA : DataW.TrodAll enc Try.prog W 0 (fun _ => true) true [3, 27, 49] args ds ps := hA
  obtain ⟨v0, vs0, d0, ds0, p0, q0, hargs, rfl, rfl, h0, r0⟩ := trodAll_cons hA
  obtain ⟨v1, vs1, d1, ds1, p1, q1, rfl, rfl, rfl, h1, r1⟩ := trodAll_cons r0
  obtain ⟨v2, vs2, d2, ds2, p2, q2, rfl, rfl, rfl, h2, r2⟩ := trodAll_cons r1
  obtain ⟨rfl, rfl, rfl⟩ := trodAll_nil r2
  subst hargs
  obtain ⟨x0, rfl, rfl, rfl, g0⟩ := open_int Try.underlying3 (hval 0 3 v0 rfl rfl) h0
  obtain ⟨x1, g1⟩ := open_bytes (hval 1 27 v1 rfl rfl) h1
  obtain ⟨x2, g2⟩ := open_ops (hval 2 49 v2 rfl rfl) h2
  exact disklasts_walk _ _ _ x1 x2 W (i64_of_wf g0) g1 g2
end Go.Proofs.Ytlnkhkkekfjebaa
