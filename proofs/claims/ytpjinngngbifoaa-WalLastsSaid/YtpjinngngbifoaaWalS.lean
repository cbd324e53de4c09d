/-
  The plain law of WalLasts: what an opening finds behind two failures of the power.
-/
import Derived.Test.YtpjinngngbifoaaWalJ
set_option linter.unusedSimpArgs false
set_option linter.unusedVariables false
namespace Go.Proofs.Ytpjinngngbifoaa
open Go.RowKit

/-- One file wins, whatever is armed. -/
structure Win (d : DiskM) (f : Int) (g : Nat) (R : List (List UInt8)) (sp : Bool) : Prop where
  f01 : F01 f
  look : LookF (d.file f).b (some ⟨g, R, sp⟩)
  plain : sp = false → ∃ rs more, rs ++ more = R ∧ (d.file f).b = fileW g rs ++ recsF (more.map (82 :: ·))
  last : (d.file f).last = (d.file f).b.length
  last2 : (d.file (1 - f)).last = (d.file (1 - f)).b.length
  low : Low (d.file f).b (g + 1)
  low2 : Low (d.file (1 - f)).b g
  gen : 1 ≤ g
  small : Small R
theorem cut_all {x : FileM} {n : Nat} (h : x.last = x.b.length) (hn : n ≤ x.b.length - x.last) : x.cut n = x := by
  have : n = 0 := by omega
  subst this
  simp only [FileM.cut, Nat.add_zero]
  rw [h, List.take_length]
  cases x
  simp at h
  simp [h]
/-- A file that was written, not let last, and cut off. -/
theorem half_low {g : Nat} (hg : 1 ≤ g ∧ g < 4611686018427387904) (rs : List (List UInt8)) (hr : Small rs) (k : Nat) (hk : k < (fileW g rs).length) : Low ((fileW g rs).take k) 1 := by
  intro j hj
  rw [List.take_take]
  have hjk : min j k < (fileW g rs).length := by omega
  rcases cut_whole hg rs hr (min j k) (by omega) with h | ⟨h, -⟩
  · exact ⟨none, h, fun x hx => by cases hx⟩
  · omega
/-- The other file behind a rewrite that failed, cut off: it wins, or it does not. -/
theorem Win.power_half {d d' : DiskM} {f : Int} {g : Nat} {R : List (List UInt8)} {sp : Bool} {N : List (List UInt8)} (keep : List Int) (hg : g + 1 < 4611686018427387904) (hf : F01 f) (hN : Small N) (hgen : 1 ≤ g)
    (hlook : LookF ((d'.power keep).file f).b (some ⟨g, R, sp⟩)) (hplain : sp = false → ∃ rs more, rs ++ more = R ∧ ((d'.power keep).file f).b = fileW g rs ++ recsF (more.map (82 :: ·))) (hlast : ((d'.power keep).file f).last = ((d'.power keep).file f).b.length) (hlow : Low ((d'.power keep).file f).b (g + 1)) (hR : Small R)
    (ho : (Low (d'.file (1 - f)).b g ∧ (d'.file (1 - f)).last ≤ (d'.file (1 - f)).b.length) ∨ d'.file (1 - f) = ⟨fileW (g + 1) N, 0⟩) :
    Win (d'.power keep) f g R sp ∨ Win (d'.power keep) (1 - f) (g + 1) N false := by
  obtain ⟨o1, o2, o3⟩ := hf.other
  obtain ⟨n, hn, e⟩ := power_file d' keep o1
  rcases ho with ⟨h1, h2⟩ | h
  · refine Or.inl ⟨hf, hlook, hplain, hlast, ?_, hlow, ?_, hgen, hR⟩
    · rw [e]; simp only [FileM.cut, List.length_take]; omega
    · rw [e]; exact h1.cut _
  · rw [h] at e hn
    have hb : ((d'.power keep).file (1 - f)).b = (fileW (g + 1) N).take n := by rw [e]; simp [FileM.cut]
    have hl : ((d'.power keep).file (1 - f)).last = n := by rw [e]; simp [FileM.cut]
    have hn' : n ≤ (fileW (g + 1) N).length := by simpa using hn
    have hll : ((d'.power keep).file (1 - f)).last = ((d'.power keep).file (1 - f)).b.length := by rw [hb, hl, List.length_take]; omega
    rcases Nat.lt_or_ge n (fileW (g + 1) N).length with hlt | hge
    · refine Or.inl ⟨hf, hlook, hplain, hlast, hll, hlow, ?_, hgen, hR⟩
      rw [hb]
      exact (half_low ⟨by omega, hg⟩ N hN n hlt).mono hgen
    · have hnn : n = (fileW (g + 1) N).length := by omega
      have hb' : ((d'.power keep).file (1 - f)).b = fileW (g + 1) N := by rw [hb, hnn, List.take_length]
      refine Or.inr ⟨o1, ?_, fun _ => ⟨N, [], by simp, by rw [hb']; simp [recsF]⟩, hll, by rw [o3]; exact hlast, ?_, by rw [o3]; exact hlow, by omega, hN⟩
      · rcases cut_whole ⟨by omega, hg⟩ N hN n (by omega) with h | ⟨-, h⟩
        · exfalso
          rw [hnn, List.take_length] at h
          have h2 := look_tail (g := g + 1) ⟨by omega, hg⟩ N [] hN (by simp) [] (by decide)
          have h3 : LookF (fileW (g + 1) N) (some ⟨g + 1, N, false⟩) := by simpa [recsF] using h2
          have := h.uniq h3
          cases this
        · rw [hnn, List.take_length] at h
          rw [hb']; exact h
      · rw [hb']
        have := Low.file (g := g + 1 + 1) (g' := g + 1) ⟨by omega, hg⟩ (by omega) N [] hN (by simp)
        simpa [recsF] using this
theorem Win.opened {d : DiskM} {f : Int} {g : Nat} {R : List (List UInt8)} {sp : Bool} (h : Win d f g R sp) {m0 m1 : Option LookM} (h0 : LookF d.f0.b m0) (h1 : LookF d.f1.b m1) :
    pickK d m0 m1 2 = ⟨f, g, R, (d.file f).b.length, sp⟩ := by
  have hlk := h.look
  have hl2 := h.low2
  rcases h.f01 with rfl | rfl
  · obtain rfl := h0.uniq hlk
    refine pick_low (x := ⟨g, R, sp⟩) (Or.inl rfl) h.gen rfl rfl ?_
    obtain ⟨m', k1, k2⟩ := hl2.whole
    obtain rfl := k1.uniq h1
    exact k2
  · obtain rfl := h1.uniq hlk
    refine pick_low (x := ⟨g, R, sp⟩) (Or.inr rfl) h.gen rfl rfl ?_
    obtain ⟨m', k1, k2⟩ := hl2.whole
    obtain rfl := k1.uniq h0
    exact k2
/-- A failure of the power where nothing was done. -/
theorem Win.power {d : DiskM} {f : Int} {g : Nat} {R : List (List UInt8)} {sp : Bool} (h : Win d f g R sp) (keep : List Int) : Win (d.power keep) f g R sp := by
  obtain ⟨o1, o2, o3⟩ := h.f01.other
  obtain ⟨n, hn, e⟩ := power_file d keep h.f01
  obtain ⟨n', hn', e'⟩ := power_file d keep o1
  rw [cut_all h.last hn] at e
  rw [cut_all h.last2 hn'] at e'
  exact ⟨h.f01, by rw [e]; exact h.look, by rw [e]; exact h.plain, by rw [e]; exact h.last, by rw [e']; exact h.last2, by rw [e]; exact h.low, by rw [e']; exact h.low2, h.gen, h.small⟩
/-- An opening on an armed disk, and a failure of the power: the same records win. -/
theorem Win.again {d : DiskM} {f : Int} {g : Nat} {R : List (List UInt8)} {sp : Bool} (h : Win d f g R sp) (hg : g + 1 < 4611686018427387904) (hoff : d.off = false) (ha : -1 ≤ d.armed ∧ d.armed ≤ 9223372036854775807) (keep : List Int) {m0 m1 : Option LookM} (h0 : LookF d.f0.b m0) (h1 : LookF d.f1.b m1) :
    ∃ f' g' sp', Win ((openW d m0 m1).2.1.power keep) f' g' R sp' ∧ g' ≤ g + 1 := by
  obtain ⟨o1, o2, o3⟩ := h.f01.other
  unfold openW
  rw [if_neg (by simp [hoff]), h.opened h0 h1]
  unfold openR
  dsimp only
  have hf0 : ¬ f < 0 := by rcases h.f01 with rfl | rfl <;> decide
  cases sp with
  | false =>
    rw [if_neg (by simp [hf0])]
    exact ⟨f, g, false, h.power keep, by omega⟩
  | true =>
    rw [if_pos (Or.inr rfl)]
    have hal : Alive d (walOf d ⟨f, g, R, (d.file f).b.length, true⟩) := ⟨hoff, rfl, rfl, ha.1, ha.2⟩
    have hoe : (walOf d ⟨f, g, R, (d.file f).b.length, true⟩).other = 1 - f := other_eq (l := walOf d ⟨f, g, R, (d.file f).b.length, true⟩) h.f01
    rcases rewrite_good R hal hg with ⟨d', e, hh⟩ | ⟨d1, d2, d3, e, k1, k2, k3⟩
    · rw [e, if_pos (by show (6 : Int) ≠ 0; decide)]
      dsimp only
      rw [hoe] at hh
      have hs := hh.same
      rw [o3] at hs
      obtain ⟨n, hn, ep⟩ := power_file d' keep h.f01
      rw [hs, cut_all h.last (by rw [← hs]; exact hn)] at ep
      have key := Win.power_half (d := d) (d' := d') (g := g) (R := R) (sp := true) (N := R) keep hg h.f01 h.small h.gen (by rw [ep]; exact h.look) (fun e => by cases e) (by rw [ep]; exact h.last) (by rw [ep]; exact h.low) h.small (by
        rcases hh.other with q | q | q
        · rw [q]; exact Or.inl ⟨h.low2, Nat.le_of_eq h.last2⟩
        · rw [q]; exact Or.inl ⟨Low.nil _, Nat.le_refl _⟩
        · exact Or.inr q)
      rcases key with q | q
      · exact ⟨f, g, true, q, by omega⟩
      · exact ⟨1 - f, g + 1, false, q, Nat.le_refl _⟩
    · rw [e, if_neg (by simp)]
      dsimp only
      rw [hoe] at k1 k2 k3
      have hnx := Good.next h.f01 ⟨by show 1 ≤ g + 1; omega, hg⟩ h.small h.low (Nat.le_of_eq h.last) k1 k2 k3
      have hb : (d3.file (1 - f)).b = fileW (g + 1) R := by rw [hnx.1.b]; simp [recsF]
      have hfo : d3.file f = d.file f := by rw [k3.other f h.f01 (Ne.symm o2), k2.other f h.f01 (Ne.symm o2), k1.other f h.f01 (Ne.symm o2)]
      refine ⟨1 - f, g + 1, false, Win.power ⟨o1, ?_, fun _ => ⟨R, [], by simp, by rw [hb]; simp [recsF]⟩, hnx.2, by rw [o3, hfo]; exact h.last, ?_, by rw [o3, hfo]; exact h.low, by omega, h.small⟩ keep, Nat.le_refl _⟩
      · rw [hb]
        have h2 := look_tail (g := g + 1) ⟨by omega, hg⟩ R [] h.small (by simp) [] (by decide)
        simpa [recsF] using h2
      · rw [hb]
        have := Low.file (g := g + 1 + 1) (g' := g + 1) ⟨by omega, hg⟩ (by omega) R [] h.small (by simp)
        simpa [recsF] using this
/-- An opening with nothing armed finds them. -/
theorem Win.found {d : DiskM} {f : Int} {g : Nat} {R : List (List UInt8)} {sp : Bool} (h : Win d f g R sp) (hg : g + 1 < 4611686018427387904) (hoff : d.off = false) (ha : d.armed < 0 ∧ -1 ≤ d.armed) {m0 m1 : Option LookM} (h0 : LookF d.f0.b m0) (h1 : LookF d.f1.b m1) :
    ∃ d' l', openW d m0 m1 = (0, d', some (l', R)) := by
  unfold openW
  rw [if_neg (by simp [hoff]), h.opened h0 h1]
  unfold openR
  dsimp only
  have hf0 : ¬ f < 0 := by rcases h.f01 with rfl | rfl <;> decide
  cases sp with
  | false => rw [if_neg (by simp [hf0])]; exact ⟨_, _, rfl⟩
  | true =>
    rw [if_pos (Or.inr rfl)]
    have hal : Alive d (walOf d ⟨f, g, R, (d.file f).b.length, true⟩) := ⟨hoff, rfl, rfl, ha.2, by omega⟩
    rcases rewrite_good R hal hg with ⟨d', e, hh⟩ | ⟨d1, d2, d3, e, k1, k2, k3⟩
    · exact absurd hh.armed.1 (by omega)
    · rw [e, if_neg (by simp)]
      exact ⟨_, _, rfl⟩
/-! ### the run ahead of the failures -/
def Acc (now : List (List UInt8)) (safe : Nat) (failed : Bool) (next R : List (List UInt8)) : Prop := (∃ m, safe ≤ m ∧ m ≤ now.length ∧ R = now.take m) ∨ (failed = true ∧ R = next)
/-- Where the run stands; off: nothing is done any more. -/
structure RunI (now : List (List UInt8)) (safe : Nat) (failed : Bool) (next : List (List UInt8)) (d : DiskM) (f : Int) (g : Nat) : Prop where
  main : ∃ rs more, rs ++ more = now ∧ f = f ∧ F01 f ∧ (d.file f).b = fileW g rs ++ recsF (more.map (82 :: ·)) ∧ (fileW g rs).length ≤ (d.file f).last ∧ (d.file f).last ≤ (d.file f).b.length ∧ Small rs ∧ Small more ∧
    ∃ i, i ≤ more.length ∧ safe ≤ rs.length + i ∧ (fileW g rs ++ recsF ((more.take i).map (82 :: ·))).length ≤ (d.file f).last
  gen : 1 ≤ g ∧ g + 1 < 4611686018427387904
  other : (Low (d.file (1 - f)).b g ∧ (d.file (1 - f)).last ≤ (d.file (1 - f)).b.length) ∨ (failed = true ∧ d.file (1 - f) = ⟨fileW (g + 1) next, 0⟩ ∧ Small next)
theorem RunI.win {now next : List (List UInt8)} {safe : Nat} {failed : Bool} {d : DiskM} {f : Int} {g : Nat} (h : RunI now safe failed next d f g) (keep : List Int) :
    ∃ f' g' R sp, Win (d.power keep) f' g' R sp ∧ g' ≤ g + 1 ∧ Acc now safe failed next R := by
  obtain ⟨rs, more, hnow, -, hf, hb, hl1, hl2, hrs, hmore, i, hi, hsafe, hil⟩ := h.main
  obtain ⟨o1, o2, o3⟩ := hf.other
  have hgn := h.gen
  obtain ⟨n, hn, e⟩ := power_file d keep hf
  obtain ⟨m, k1, k2⟩ := cutLook ⟨h.gen.1, by omega⟩ rs more hrs hmore ((d.file f).last + n) (by rw [← hb]; omega)
  rw [← hb] at k1
  have hbe : ((d.power keep).file f).b = (d.file f).b.take ((d.file f).last + n) := by rw [e]; rfl
  have hle : ((d.power keep).file f).last = ((d.power keep).file f).b.length := by rw [e]; simp only [FileM.cut, List.length_take]; omega
  rw [← hbe] at k1
  have hlow : Low ((d.power keep).file f).b (g + 1) := by
    rw [hbe]
    refine Low.cut ?_ _
    rw [hb]
    exact Low.file ⟨h.gen.1, by omega⟩ (by omega) rs more hrs hmore
  cases k2 with
  | part hp => omega
  | whole j hj hjl hjm =>
    have hij := hjm i hi (by omega)
    have hR : Small (rs ++ more.take j) := hrs.app fun r hr => hmore r (List.mem_of_mem_take hr)
    have hacc : Acc now safe failed next (rs ++ more.take j) := Or.inl ⟨rs.length + j, by omega, by rw [← hnow, List.length_append]; omega, by
      have e1 : rs.take (rs.length + j) = rs := List.take_of_length_le (Nat.le_add_right _ _)
      rw [← hnow, List.take_append, e1, Nat.add_sub_cancel_left]⟩
    have hplain : decide ((fileW g rs ++ recsF ((more.take j).map (82 :: ·))).length < (d.file f).last + n) = false → ∃ rs' more', rs' ++ more' = rs ++ more.take j ∧ ((d.power keep).file f).b = fileW g rs' ++ recsF (more'.map (82 :: ·)) := fun hd => by
      have := of_decide_eq_false hd
      refine ⟨rs, more.take j, rfl, ?_⟩
      have hk : (d.file f).last + n = (fileW g rs ++ recsF ((more.take j).map (82 :: ·))).length := by omega
      rw [hbe, hb, recsR_split more j, ← List.append_assoc, hk, List.take_left]
    rcases h.other with ho | ⟨hfl, ho, hsn⟩
    · rcases Win.power_half (d := d) (d' := d) (N := []) keep h.gen.2 hf (fun r hr => by cases hr) h.gen.1 k1 hplain hle hlow hR (Or.inl ho) with q | q
      · exact ⟨f, g, _, _, q, by omega, hacc⟩
      · -- the other file is low: it does not win
        exact ⟨f, g, _, _, ⟨hf, k1, hplain, hle, by
          obtain ⟨n', hn', e'⟩ := power_file d keep o1
          rw [e']; simp only [FileM.cut, List.length_take]; have := ho.2; omega, hlow, by
          obtain ⟨n', hn', e'⟩ := power_file d keep o1
          rw [e']; exact ho.1.cut _, h.gen.1, hR⟩, by omega, hacc⟩
    · rcases Win.power_half (d := d) (d' := d) (N := next) keep h.gen.2 hf hsn h.gen.1 k1 hplain hle hlow hR (Or.inr ho) with q | q
      · exact ⟨f, g, _, _, q, by omega, hacc⟩
      · exact ⟨1 - f, g + 1, next, false, q, Nat.le_refl _, Or.inr ⟨hfl, rfl⟩⟩
end Go.Proofs.Ytpjinngngbifoaa
