/-
  DiskArmed: for every n and every run of kinds, an armed disk does just n steps, and the next one does nothing.
-/
import Derived.Test.YtlnkhkkekfjebaaDiskB
import Derived.BigQuiet
set_option linter.unusedSimpArgs false
set_option linter.unusedVariables false
namespace Go.Proofs.Ytlnkhkkekfjebaa
open Go.RowKit Go.ChangeMaps Go.MapKept

/-- An armed disk behind k of the calls. -/
structure ArmInv (d : DiskM) (n k s l : Nat) : Prop where
  f1 : d.f1 = ⟨[], 0⟩
  len : d.f0.b.length = s
  last : d.f0.last = l
  le : l ≤ s
  sk : s ≤ k
  on : k ≤ n → d.off = false ∧ d.armed = (n : Int) - k ∧ d.steps = k
  gone : n < k → d.off = true ∧ d.armed = 0 ∧ d.steps = n
  lives : d.lives = 0
theorem ArmInv.step_ {d : DiskM} {n k s l : Nat} (h : ArmInv d n k s l) (f : Int) (hf : f = 0 ∨ f = 1) (x : FileM) :
    (if d.may f ≠ 0 then (d.may f, d) else d.step f x) = if k < n then (0, { d.put f x with armed := (n : Int) - k - 1, steps := k + 1 }) else (6, { d with off := true }) := by
  rcases Nat.lt_trichotomy k n with hk | hk | hk
  · obtain ⟨h1, h2, h3⟩ := h.on (by omega)
    have hm : d.may f = 0 := by simp [DiskM.may, h1, hf]
    rw [if_neg (by simp [hm]), if_pos hk]
    unfold DiskM.step
    rw [if_neg (by rw [h2]; omega), if_pos (by rw [h2]; omega), h2, h3]
  · obtain ⟨h1, h2, h3⟩ := h.on (by omega)
    have hm : d.may f = 0 := by simp [DiskM.may, h1, hf]
    rw [if_neg (by simp [hm]), if_neg (by omega)]
    unfold DiskM.step
    rw [if_pos (by rw [h2]; omega)]
  · obtain ⟨h1, h2, h3⟩ := h.gone hk
    have hm : d.may f = 6 := by simp [DiskM.may, h1]
    rw [if_pos (by simp [hm]), if_neg (by omega), hm]
    cases d
    simp_all
theorem ArmInv.append {d : DiskM} {n k s l : Nat} (h : ArmInv d n k s l) :
    (d.append 0 [7]).1 = (if k < n then 0 else 6) ∧ ArmInv (d.append 0 [7]).2 n (k + 1) (if k < n then s + 1 else s) l := by
  have e : d.append 0 [7] = _ := h.step_ 0 (.inl rfl) ⟨(d.file 0).b ++ [7], (d.file 0).last⟩
  rw [e]
  have h1 := h.le
  have h2 := h.sk
  by_cases hk : k < n
  · rw [if_pos hk, if_pos hk, if_pos hk]
    refine ⟨rfl, h.f1, by simp [DiskM.put, DiskM.file, h.len], by simp [DiskM.put, DiskM.file, h.last], by omega, by omega, fun h' => ⟨(h.on (by omega)).1, by simp; omega, rfl⟩, fun h' => by omega, h.lives⟩
  · rw [if_neg hk, if_neg hk, if_neg hk]
    refine ⟨rfl, h.f1, h.len, h.last, by omega, by omega, fun h' => by omega, fun h' => ⟨rfl, ?_⟩, h.lives⟩
    rcases Nat.lt_or_ge n k with h3 | h3
    · exact (h.gone h3).2
    · obtain ⟨_, h5, h6⟩ := h.on (by omega)
      exact ⟨by show d.armed = 0; omega, by show d.steps = n; omega⟩
theorem ArmInv.sync {d : DiskM} {n k s l : Nat} (h : ArmInv d n k s l) :
    (d.sync 0).1 = (if k < n then 0 else 6) ∧ ArmInv (d.sync 0).2 n (k + 1) s (if k < n then s else l) := by
  have e : d.sync 0 = _ := h.step_ 0 (.inl rfl) ⟨(d.file 0).b, (d.file 0).b.length⟩
  rw [e]
  have h1 := h.le
  have h2 := h.sk
  by_cases hk : k < n
  · rw [if_pos hk, if_pos hk, if_pos hk]
    refine ⟨rfl, h.f1, by simp [DiskM.put, DiskM.file, h.len], by simp [DiskM.put, DiskM.file, h.len], by omega, by omega, fun h' => ⟨(h.on (by omega)).1, by simp; omega, rfl⟩, fun h' => by omega, h.lives⟩
  · rw [if_neg hk, if_neg hk, if_neg hk]
    refine ⟨rfl, h.f1, h.len, h.last, by omega, by omega, fun h' => by omega, fun h' => ⟨rfl, ?_⟩, h.lives⟩
    rcases Nat.lt_or_ge n k with h3 | h3
    · exact (h.gone h3).2
    · obtain ⟨_, h5, h6⟩ := h.on (by omega)
      exact ⟨by show d.armed = 0; omega, by show d.steps = n; omega⟩
theorem ArmInv.clear {d : DiskM} {n k s l : Nat} (h : ArmInv d n k s l) :
    (d.clear 1).1 = (if k < n then 0 else 6) ∧ ArmInv (d.clear 1).2 n (k + 1) s l := by
  have e : d.clear 1 = _ := h.step_ 1 (.inr rfl) ⟨[], 0⟩
  rw [e]
  have h1 := h.le
  have h2 := h.sk
  by_cases hk : k < n
  · rw [if_pos hk, if_pos hk]
    refine ⟨rfl, rfl, h.len, h.last, by omega, by omega, fun h' => ⟨(h.on (by omega)).1, by simp; omega, rfl⟩, fun h' => by omega, h.lives⟩
  · rw [if_neg hk, if_neg hk]
    refine ⟨rfl, h.f1, h.len, h.last, by omega, by omega, fun h' => by omega, fun h' => ⟨rfl, ?_⟩, h.lives⟩
    rcases Nat.lt_or_ge n k with h3 | h3
    · exact (h.gone h3).2
    · obtain ⟨_, h5, h6⟩ := h.on (by omega)
      exact ⟨by show d.armed = 0; omega, by show d.steps = n; omega⟩

/-- The disk that the power leaves. -/
theorem ArmInv.power {d : DiskM} {n k s l : Nat} (h : ArmInv d n k s l) : ∃ b, (d.power [1]) = ⟨⟨b, l + min (s - l) 1⟩, ⟨[], 0⟩, -1, false, 1, d.steps⟩ ∧ b.length = l + min (s - l) 1 := by
  have h1 := h.f1
  have h2 := h.len
  have h3 := h.last
  have h4 := h.le
  have h5 := h.lives
  refine ⟨d.f0.b.take (l + min (s - l) 1), ?_, by rw [List.length_take]; omega⟩
  have e : keepN [1] 0 d.f0 = min (s - l) 1 := by
    unfold keepN
    rw [h2, h3]
    simp
    omega
  simp only [DiskM.power, e, h1, h5, FileM.cut, h3]
  simp [keepN]
theorem ArmInv.start (n : Nat) (hn : n < 30) : ArmInv (DiskM.new.arm n) n 0 0 0 :=
  ⟨rfl, rfl, rfl, by omega, by omega, fun _ => ⟨rfl, by simp [DiskM.arm]; omega, rfl⟩, fun h => by omega, rfl⟩
theorem ArmInv.fit {d : DiskM} {n k s l : Nat} (h : ArmInv d n k s l) (hn : n < 30) : d.Fit := by
  rcases Nat.lt_or_ge n k with h3 | h3
  · obtain ⟨_, h5, h6⟩ := h.gone h3; exact ⟨by omega, by omega⟩
  · obtain ⟨_, h5, h6⟩ := h.on h3; exact ⟨by omega, by omega⟩
set_option maxRecDepth 100000 in
set_option maxHeartbeats 1000000 in
theorem diskarmed_walk (x : Int) (v : Value) (ks : List UInt8) (w : World) (hx : -9223372036854775808 ≤ x ∧ x ≤ 9223372036854775807) (hv : By w (· < w.heap.size) v ks) :
    Calls Try.prog 11 #[.int .i64 x, v] w (TrueP w) := by
  obtain ⟨A, c, rfl, hc, hm, hs⟩ := hv
  have HS := Lib.hid hs
  unfold maxLen at hm
  clear hs
  by_cases hlong : 30 < ks.length
  · go_enter Try.func11, Try.ntmps11
    go_wp2_with (go_at_call 37; refine (diskbegun_any _).mono ?_; rintro e w1 ⟨rfl, hs1⟩)
    go_ret
    exact ⟨rfl, hs1⟩
  · have hl : ks.length ≤ 30 := by omega
    clear hlong
    have hp := placeF_bd x 30
    obtain ⟨n, hn⟩ : ∃ n : Nat, placeF x 30 = n := ⟨(placeF x 30).toNat, by omega⟩
    have hn30 : n < 30 := by have := hp.2 (by omega); omega
    have hpl := fun w => place_any x 30 w hx (by omega)
    rw [hn] at hpl
    clear hp hn
    go_enter Try.func11, Try.ntmps11
    go_wp2_with (first
      | (go_at_call 37; refine (diskbegun_any _).mono ?_; rintro e w1 ⟨rfl, hs1⟩)
      | (go_at_call 36; refine (hpl _).mono ?_; rintro e w' ⟨rfl, rfl⟩)
      | (go_at_call 38; refine (dnew_any _).mono ?_; rintro e w2 ⟨g, r, rfl, hg, hr, hd1, hs2⟩)
      | (go_at_call 45; refine (darm_any g r _ _ n _ hd1).mono ?_; rintro e w3 ⟨rfl, hd3, hs3⟩))
    have hz1 := hs1.size
    have hs13 := Lib.hid ((hs1.trans hs2).trans' hs3 (fun k hk _ => by constructor <;> omega))
    have hz2 := hs2.size
    have HD := Lib.hid hd3
    clear hd1 hd3 hs1 hs2 hs3
    go_loopw [6, 7, 8] (fun a b i wr => ∃ (k s l : Nat) (d : DiskM) (F : Nat → Prop), k ≤ ks.length ∧ a = .int .i64 s ∧ b = .int .i64 l ∧ i = .int .i64 k ∧ Hid (ArmInv d n k s l) ∧ Hid (DiskAt wr g r F d) ∧ Hid (Same (fun _ => True) w wr)) (fun _ _ i _ => ks.length - (intOf i).toNat)
    case atStart => exact ⟨0, 0, 0, _, _, by omega, rfl, rfl, rfl, Lib.hid (ArmInv.start n hn30), HD, hs13⟩
    case round =>
      obtain ⟨k, s, l, d, F, hk, rfl, rfl, rfl, hi, hd, hsm⟩ := hrel
      clear HD hs13
      by_cases hlt : k < ks.length
      · obtain ⟨ad, u, rfl, _, hu, hcell⟩ := HS.out.at_ hlt
        obtain rfl : u = V8 ks[k] := by simpa [hlt] using hu.symm
        have hcell := hsm.out.cell trivial hcell
        clear hu
        obtain ⟨q, hq3, hq⟩ : ∃ q : Nat, q < 3 ∧ (n8 ks[k]).tmod 3 = q := ⟨ks[k].toNat % 3, by omega, by unfold n8; rw [Int.tmod_eq_emod_of_nonneg (by omega)]; omega⟩
        have hfit := hi.out.fit hn30
        have hlen := hi.out.len
        have hsk := hi.out.sk
        have hle := hi.out.le
        have hkI : (k : Int) < (ks.length : Int) := by omega
        obtain rfl | rfl | rfl : q = 0 ∨ q = 1 ∨ q = 2 := by omega
        · go_wp2_with (go_at_call 39; refine stopAt ?_)
          unfold Hid
          have hB : Same (fun _ => True) wr (wr.alloc (.cells #[.int .u8 7] 5)) := (Same.refl _ _).alloc _
          refine (dappend_any g r F (fun _ => True) d 0 _ [7] _ (hd.out.keepAll hB) hfit (By.lit (fr := (0, 0)) (e := 5) (heap_now rfl) trivial rfl (by decide) (by simp [maxLen])) (by show d.f0.b.length + 1 ≤ _; omega)).mono ?_
          rintro e w5 ⟨rfl, ⟨F', hF', hd'⟩, hs'⟩
          obtain ⟨he, hi'⟩ := hi.out.append
          rw [he]
          have hsm' := Lib.hid ((hsm.out.trans hB).trans' hs' (fun k hk _ => by constructor <;> omega))
          have hgrow := hs'.size
          by_cases hkn : k < n
          · rw [if_pos hkn] at hi' ⊢
            obtain ⟨o1, o2, o3⟩ := hi'.on (by omega)
            have hdead := ddead_any g r F' _ w5 hd'
            have hsteps := dsteps_any g r F' _ w5 hd'
            rw [o1] at hdead
            rw [o3] at hsteps
            have Hi := Lib.hid hi'
            have Hd := Lib.hid hd'
            have hknI : (k : Int) < (n : Int) := by omega
            have hmin : min ((k : Int) + 1) (n : Int) = (k : Int) + 1 := by omega
            clear hi hd hsm hs' hi' hd' o1 o2 o3 he hF' hcell
            go_wp2_with (first | (go_at_call 50; refine hdead.mono ?_; rintro e w6 ⟨rfl, rfl⟩) | (go_at_call 51; refine hsteps.mono ?_; rintro e w6 ⟨rfl, rfl⟩))
            go_roundw
            case rel => exact ⟨k + 1, s + 1, l, _, F', by omega, by go_num, by go_num, by go_num, Hi, Hd, hsm'⟩
            case measure => simp [intOf]; omega
          · rw [if_neg hkn] at hi' ⊢
            obtain ⟨o1, o2, o3⟩ := hi'.gone (by omega)
            have hdead := ddead_any g r F' _ w5 hd'
            have hsteps := dsteps_any g r F' _ w5 hd'
            rw [o1] at hdead
            rw [o3] at hsteps
            have Hi := Lib.hid hi'
            have Hd := Lib.hid hd'
            have hknI : (n : Int) ≤ (k : Int) := by omega
            have hmin : min ((k : Int) + 1) (n : Int) = (n : Int) := by omega
            clear hi hd hsm hs' hi' hd' o1 o2 o3 he hF' hcell
            go_wp2_with (first | (go_at_call 50; refine hdead.mono ?_; rintro e w6 ⟨rfl, rfl⟩) | (go_at_call 51; refine hsteps.mono ?_; rintro e w6 ⟨rfl, rfl⟩))
            go_roundw
            case rel => exact ⟨k + 1, s, l, _, F', by omega, by go_num, by go_num, by go_num, Hi, Hd, hsm'⟩
            case measure => simp [intOf]; omega
        · go_wp2_with (go_at_call 43; refine stopAt ?_)
          unfold Hid
          refine (dsync_any g r F d 0 _ hd.out hfit).mono ?_
          rintro e w5 ⟨rfl, ⟨F', hF', hd'⟩, hs'⟩
          obtain ⟨he, hi'⟩ := hi.out.sync
          rw [he]
          have hsm' := Lib.hid (hsm.out.trans' hs' (fun k hk _ => by constructor <;> omega))
          have hgrow := hs'.size
          by_cases hkn : k < n
          · rw [if_pos hkn] at hi' ⊢
            obtain ⟨o1, o2, o3⟩ := hi'.on (by omega)
            have hdead := ddead_any g r F' _ w5 hd'
            have hsteps := dsteps_any g r F' _ w5 hd'
            rw [o1] at hdead
            rw [o3] at hsteps
            have Hi := Lib.hid hi'
            have Hd := Lib.hid hd'
            have hknI : (k : Int) < (n : Int) := by omega
            have hmin : min ((k : Int) + 1) (n : Int) = (k : Int) + 1 := by omega
            clear hi hd hsm hs' hi' hd' o1 o2 o3 he hF' hcell
            go_wp2_with (first | (go_at_call 50; refine hdead.mono ?_; rintro e w6 ⟨rfl, rfl⟩) | (go_at_call 51; refine hsteps.mono ?_; rintro e w6 ⟨rfl, rfl⟩))
            go_roundw
            case rel => exact ⟨k + 1, s, s, _, F', by omega, by go_num, by go_num, by go_num, Hi, Hd, hsm'⟩
            case measure => simp [intOf]; omega
          · rw [if_neg hkn] at hi' ⊢
            obtain ⟨o1, o2, o3⟩ := hi'.gone (by omega)
            have hdead := ddead_any g r F' _ w5 hd'
            have hsteps := dsteps_any g r F' _ w5 hd'
            rw [o1] at hdead
            rw [o3] at hsteps
            have Hi := Lib.hid hi'
            have Hd := Lib.hid hd'
            have hknI : (n : Int) ≤ (k : Int) := by omega
            have hmin : min ((k : Int) + 1) (n : Int) = (n : Int) := by omega
            clear hi hd hsm hs' hi' hd' o1 o2 o3 he hF' hcell
            go_wp2_with (first | (go_at_call 50; refine hdead.mono ?_; rintro e w6 ⟨rfl, rfl⟩) | (go_at_call 51; refine hsteps.mono ?_; rintro e w6 ⟨rfl, rfl⟩))
            go_roundw
            case rel => exact ⟨k + 1, s, l, _, F', by omega, by go_num, by go_num, by go_num, Hi, Hd, hsm'⟩
            case measure => simp [intOf]; omega
        · go_wp2_with (go_at_call 44; refine stopAt ?_)
          unfold Hid
          refine (dclear_any g r F d 1 _ hd.out hfit).mono ?_
          rintro e w5 ⟨rfl, ⟨F', hF', hd'⟩, hs'⟩
          obtain ⟨he, hi'⟩ := hi.out.clear
          rw [he]
          have hsm' := Lib.hid (hsm.out.trans' hs' (fun k hk _ => by constructor <;> omega))
          have hgrow := hs'.size
          by_cases hkn : k < n
          · rw [if_pos hkn]
            obtain ⟨o1, o2, o3⟩ := hi'.on (by omega)
            have hdead := ddead_any g r F' _ w5 hd'
            have hsteps := dsteps_any g r F' _ w5 hd'
            rw [o1] at hdead
            rw [o3] at hsteps
            have Hi := Lib.hid hi'
            have Hd := Lib.hid hd'
            have hknI : (k : Int) < (n : Int) := by omega
            have hmin : min ((k : Int) + 1) (n : Int) = (k : Int) + 1 := by omega
            clear hi hd hsm hs' hi' hd' o1 o2 o3 he hF' hcell
            go_wp2_with (first | (go_at_call 50; refine hdead.mono ?_; rintro e w6 ⟨rfl, rfl⟩) | (go_at_call 51; refine hsteps.mono ?_; rintro e w6 ⟨rfl, rfl⟩))
            go_roundw
            case rel => exact ⟨k + 1, s, l, _, F', by omega, by go_num, by go_num, by go_num, Hi, Hd, hsm'⟩
            case measure => simp [intOf]; omega
          · rw [if_neg hkn]
            obtain ⟨o1, o2, o3⟩ := hi'.gone (by omega)
            have hdead := ddead_any g r F' _ w5 hd'
            have hsteps := dsteps_any g r F' _ w5 hd'
            rw [o1] at hdead
            rw [o3] at hsteps
            have Hi := Lib.hid hi'
            have Hd := Lib.hid hd'
            have hknI : (n : Int) ≤ (k : Int) := by omega
            have hmin : min ((k : Int) + 1) (n : Int) = (n : Int) := by omega
            clear hi hd hsm hs' hi' hd' o1 o2 o3 he hF' hcell
            go_wp2_with (first | (go_at_call 50; refine hdead.mono ?_; rintro e w6 ⟨rfl, rfl⟩) | (go_at_call 51; refine hsteps.mono ?_; rintro e w6 ⟨rfl, rfl⟩))
            go_roundw
            case rel => exact ⟨k + 1, s, l, _, F', by omega, by go_num, by go_num, by go_num, Hi, Hd, hsm'⟩
            case measure => simp [intOf]; omega
      · obtain rfl : k = ks.length := by omega
        have hfit := hi.out.fit hn30
        have hlen := hi.out.len
        have hlast := hi.out.last
        have hle := hi.out.le
        have hsk := hi.out.sk
        have hf1 := hi.out.f1
        have hlv := hi.out.lives
        have Hlen := Lib.hid hlen
        have Hlast := Lib.hid hlast
        have Hf1 := Lib.hid hf1
        have Hlv := Lib.hid hlv
        clear hlen hlast hf1 hlv
        go_wp2_with (go_at_call 40; refine stopAt ?_)
        unfold Hid
        have hB : Same (fun _ => True) wr (wr.alloc (.cells #[.int .i64 1] 3)) := (Same.refl _ _).alloc _
        have hlr := hd.out.2.1
        have hlrr := hd.out.2.2.1
        refine (dpower_any g r F (fun k => k = wr.heap.size) d [1] _ _ (hd.out.keepAll hB) ⟨by rw [Hlen.out, Hlast.out]; exact hle, by rw [Hf1.out]; simp, hfit.1⟩ (Ints.lit (fr := (0, 0)) (e := 3) (heap_now rfl) rfl rfl (by decide) (by simp [maxLen]) (by simp)) (fun k hk => by simp; omega) ⟨by rw [Hlen.out]; omega, by rw [Hf1.out]; simp⟩ (by rw [Hlv.out]; omega)).mono ?_
        rintro e w5 ⟨rfl, hd5, hs5⟩
        have hsm5 := (hsm.out.trans hB).trans' hs5 (fun k hk _ => by constructor <;> omega)
        obtain ⟨b, hpw, hbl⟩ := hi.out.power
        rw [hpw] at hd5
        have hst := hfit.2
        generalize d.steps = st at *
        go_wp2_with (go_at_call 41; refine stopAt ?_)
        unfold Hid
        refine (dread_any g r F _ 0 _ hd5 (by simp [DiskM.file]; omega)).mono ?_
        rw [show (DiskM.read ⟨⟨b, l + min (s - l) 1⟩, ⟨[], 0⟩, -1, false, 1, st⟩ 0) = (b, 0) from rfl]
        rintro e w6 ⟨u, rfl, hu, hs6⟩
        have hd6 := hd5.keepAll hs6
        have hdead := ddead_any g r F _ w6 hd6
        have happ := dappend_any g r F (fun _ => True) _ 0 (.slice none 0 0) [] w6 hd6 ⟨by simp, by simpa using hst⟩ ⟨none, 0, rfl, by simp, by simp [maxLen], Sl.nil _ _ _ _⟩ (by simp [DiskM.file]; omega)
        rw [show (DiskM.append ⟨⟨b, l + min (s - l) 1⟩, ⟨[], 0⟩, -1, false, 1, st⟩ 0 []).1 = 0 from rfl] at happ
        obtain ⟨A6, c6, rfl, _, _, hsl6⟩ := own_by hu
        have hsm6 := Lib.hid (hsm5.trans hs6)
        have hmn : min ((s : Int) - (l : Int)) 1 = ((min (s - l) 1 : Nat) : Int) := by omega
        have hbl' : ((b.length : Int) == (l : Int) + ((min (s - l) 1 : Nat) : Int)) = true := by rw [hbl]; simp
        clear hd5 hd6 hs6 hs5 hsm5 hu hsl6 hB hd hsm hi hpw hbl
        dsimp only
        go_wp2_with (first | (go_at_call 50; refine hdead.mono ?_; rintro e w7 ⟨rfl, rfl⟩) | (go_at_call 39; refine happ.mono ?_; rintro e w7 ⟨rfl, -, hs7⟩))
        go_ret
        exact ⟨rfl, hsm6.out.trans' hs7 (fun k hk _ => by constructor <;> omega)⟩
open Go.ChangeShapes Go.WideShapes Go.ChangeAt
set_option maxRecDepth 100000 in
theorem diskArmed_law {H : Type} {enc : TypeId × Value → H} : LawWalk Try.prog 11 Try.f11 H enc := by
  intro W base args ds ps hval hA
  rw [Try.params11] at hval
  have hA : DataW.TrodAll enc Try.prog W 0 (fun _ => true) true [3, 27] args ds ps := hA
  obtain ⟨v0, vs0, d0, ds0, p0, q0, hargs, rfl, rfl, h0, r0⟩ := trodAll_cons hA
  obtain ⟨v1, vs1, d1, ds1, p1, q1, rfl, rfl, rfl, h1, r1⟩ := trodAll_cons r0
  obtain ⟨rfl, rfl, rfl⟩ := trodAll_nil r1
  subst hargs
  obtain ⟨x0, rfl, rfl, rfl, g0⟩ := open_int Try.underlying3 (hval 0 3 v0 rfl rfl) h0
  obtain ⟨x1, g1⟩ := open_bytes (hval 1 27 v1 rfl rfl) h1
  exact diskarmed_walk _ _ x1 W (i64_of_wf g0) g1
end Go.Proofs.Ytlnkhkkekfjebaa
