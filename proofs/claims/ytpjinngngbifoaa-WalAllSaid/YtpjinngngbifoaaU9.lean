/-
  Words, plain models, laws and walks that the claims of this layer share (joined by shake.py). No condition.
-/
import Derived.Test.YtpjinngngbifoaaU1
import Derived.Test.YtpjinngngbifoaaU2
import Derived.Test.YtpjinngngbifoaaU5
import Derived.Test.YtpjinngngbifoaaU6
import Derived.Test.YtpjinngngbifoaaU7
import Derived.Test.YtpjinngngbifoaaU8
set_option linter.unusedSimpArgs false
set_option linter.unusedVariables false
namespace Go.Proofs.Ytpjinngngbifoaa
open Go.RowKit
/-- A record: its length, its sum, its bytes. -/
def recF (r : List UInt8) : List UInt8 := putN 4 r.length ++ putN 4 (ofF [putN 4 r.length, r]).toNat ++ r
theorem recF_len (r : List UInt8) : (recF r).length = 8 + r.length := by simp [recF, putN_len]; omega
/-- What stands at a place: the record, where it ends, or why there is none. -/
def nextF (b : List UInt8) (at_ : Int) : List UInt8 × Int × Int :=
  if at_ < 0 ∨ (b.length : Int) < at_ then ([], 0, 1)
  else if (b.drop at_.toNat).length < 8 then ([], 0, 2)
  else if 1048576 < getN ((b.drop at_.toNat).take 4) then ([], 0, 3)
  else if (b.drop at_.toNat).length - 8 < getN ((b.drop at_.toNat).take 4) then ([], 0, 2)
  else if (ofF [(b.drop at_.toNat).take 4, ((b.drop at_.toNat).drop 8).take (getN ((b.drop at_.toNat).take 4))]).toNat ≠ getN (((b.drop at_.toNat).drop 4).take 4) then ([], 0, 4)
  else (((b.drop at_.toNat).drop 8).take (getN ((b.drop at_.toNat).take 4)), at_ + 8 + getN ((b.drop at_.toNat).take 4), 0)
/-- Two byte slices, laid as a list of two. -/
theorem ByL.two {w : World} {S : Nat → Prop} {u v : Value} {a b : List UInt8} {e : TypeId} (hu : By w S u a) (hv : By w S v b) :
    ByL (w.alloc (.cells #[u, v] e)) (fun k => S k ∨ k = w.heap.size) (.slice (some ⟨w.heap.size, 0, none⟩) 2 2) [a, b] := by
  have hs : Same (fun _ => True) w (w.alloc (.cells #[u, v] e)) := (Same.refl _ _).alloc _
  refine ⟨_, 2, [u, v], rfl, by simp, by simp [maxLen], ⟨by simp, fun _ => ⟨_, rfl, .inr rfl, fun j x hx => ?_⟩⟩, fun i x y hx hy => ?_⟩
  · have e0 : (⟨w.heap.size, 0, none⟩ : Addr).add j = ⟨w.heap.size, j, none⟩ := by unfold Addr.add; split <;> simp_all
    rw [e0, cell_of_row _ w.heap.size j _ e (0, 0) (heap_alloc_new w _)]
    simpa using hx
  · match i, hx, hy with
    | 0, hx, hy => simp at hx hy; subst hx hy; exact (hu.keepAll hs).mono fun _ _ h => .inl h
    | 1, hx, hy => simp at hx hy; subst hx hy; exact (hv.keepAll hs).mono fun _ _ h => .inl h
def PutPost (bs : List UInt8) (w : World) (e : Ending) (w' : World) : Prop := ∃ u, e = .returned (.tuple #[u, .int .i64 0]) ∧ OwnB w' w.heap.size u bs ∧ Same (fun _ => True) w w'
set_option maxRecDepth 100000 in
set_option maxHeartbeats 1000000 in
theorem fput_any (v u : Value) (b r : List UInt8) (S S' : Nat → Prop) (w : World) (hv : By w S v b) (hu : By w S' u r) (hb : b.length ≤ 1000000) (hr : r.length ≤ 20000) :
    Calls Try.prog 43 #[v, u] w (PutPost (b ++ recF r) w) := by
  obtain ⟨A, ca, rfl, hca, hma, -⟩ := id hv
  obtain ⟨B, cb, rfl, hcb, hmb, -⟩ := id hu
  have HV := Lib.hid hv
  have HU := Lib.hid hu
  unfold maxLen at hma hmb
  clear hv hu
  have hput : ∀ w, Calls Try.prog 46 #[.slice none 0 0, .int .u64 (r.length : Nat), .int .i64 4] w (PutPost (putN 4 r.length) w) := fun w => put_any (.slice none 0 0) [] r.length 4 (fun _ => True) w ⟨none, 0, rfl, by simp, by simp [maxLen], Sl.nil _ _ _ _⟩ (by simp) (by omega) (by omega)
  go_enter Try.func43, Try.ntmps43
  go_wp2_with (first
    | (go_at_call 46; refine (hput _).mono ?_; rintro e w1 ⟨u1, rfl, hu1, hs1⟩; obtain ⟨A1, c1, rfl, hc1, hm1⟩ := hu1.formN (putN_len 4 _))
    | (at_make; refine wpList_mk2 T8 _ rfl _ _ rfl .i64 .i64 _ _ 0 (b.length + 8 + r.length) rfl rfl (by simp) (by simp) (by omega) (by omega) (by simp only [maxLen]; omega) ?_; intro w2 hr2 hs2 hz2)
    | (at_builtin; refine stopAt ?_))
  unfold Hid
  have hz1 := hs1.size
  have hby1 := hu1.byLt.keepAll hs2
  have hs12 := hs1.trans hs2
  refine wpList_appB rfl (.tmp 25) (.tmp 26) rfl rfl rfl ((OwnB.made hr2 (by simp only [maxLen]; omega)).lower hz1) (HV.out.keep (hs12.mono fun _ _ _ => trivial)) (by omega) (by simp; omega) ?_
  intro v3 w3 hown3 hs3 hob3
  have hfar3 : ∀ k, k < w1.heap.size → some k ≠ (Value.slice (some ⟨w1.heap.size, 0, none⟩) 0 (b.length + 8 + r.length)).ownBlock := fun k hk e => by
    have e : some k = some w1.heap.size := e
    injection e with e
    omega
  have hby3 := hby1.keep (hs3.mono fun k _ hk => hfar3 k hk.2)
  have hs13 := hs12.trans' hs3 (fun k hk _ => hfar3 k (by omega))
  rw [List.nil_append] at hown3
  obtain ⟨A3, c3, rfl, -, -⟩ := hown3.form
  have hne3 : ∀ k, w.heap.size ≤ k ∧ k < w1.heap.size → some k ≠ (Value.slice A3 b.length c3).ownBlock := fun k hk e => by
    rcases hob3 with h | h
    · exact hfar3 k hk.2 (e.trans h)
    · have := e.trans h
      injection this with this
      omega
  have Hs13 := Lib.hid hs13
  have Hne3 := Lib.hid hne3
  clear hs1 hs2 hs3 hs12 hs13 hby1 hu1 hr2 hob3 hfar3 hne3
  go_wp2_with (at_builtin; refine stopAt ?_)
  unfold Hid
  refine wpList_appB rfl (.tmp 29) (.tmp 30) rfl rfl rfl hown3 hby3 (by have := Hs13.out.size; omega) (by simp [putN_len]; omega) ?_
  intro v4 w4 hown4 hs4 hob4
  have hby4 := hby3.keep (hs4.mono fun k _ hk => Hne3.out k hk)
  have hs14 : Hid (Same (fun _ => True) w w4) := Lib.hid (Hs13.out.trans' hs4 fun k hk _ e => by have := hown3.lt_ e.symm; omega)
  obtain ⟨A4, c4, rfl, -, -⟩ := hown4.formN (n := b.length + 4) (by simp [putN_len])
  have hbl := ByL.two (e := 24) (hby4.mono (S' := fun _ => True) fun _ _ _ => trivial) ((HU.out.keep (hs14.out.mono fun _ _ _ => trivial)).mono (S' := fun _ => True) fun _ _ _ => trivial)
  have hof := of_any _ _ _ _ hbl
  have hs5 : Same (fun _ => True) w4 (w4.alloc (.cells #[.slice A1 4 c1, .slice B r.length cb] 24)) := (Same.refl _ _).alloc _
  have hp : Calls Try.prog 46 #[.slice A4 (b.length + 4) c4, .int .u64 (n32 (ofF [putN 4 r.length, r])), .int .i64 4] (w4.alloc (.cells #[.slice A1 4 c1, .slice B r.length cb] 24))
      (PutPost (b ++ putN 4 r.length ++ putN 4 (ofF [putN 4 r.length, r]).toNat) (w4.alloc (.cells #[.slice A1 4 c1, .slice B r.length cb] 24))) := put_any _ (b ++ putN 4 r.length) (ofF [putN 4 r.length, r]).toNat 4 _ _ (hown4.keepAll hs5).by_ (by simp [putN_len]; omega) (by omega) (by have := (ofF [putN 4 r.length, r]).toNat_lt; omega)
  have Hs5 := Lib.hid (hs14.out.trans hs5)
  clear hbl hs5 hown3 hown4 hs4 hob4 hby3 hby4 hput Hne3 hs14 Hs13
  have hn := n32_bd (ofF [putN 4 r.length, r])
  have HR := Lib.hid (show b ++ putN 4 r.length ++ putN 4 (ofF [putN 4 r.length, r]).toNat ++ r = b ++ recF r by simp [recF])
  have HL := Lib.hid (show (b ++ putN 4 r.length ++ putN 4 (ofF [putN 4 r.length, r]).toNat).length = b.length + 8 by simp [putN_len])
  go_wp2_with (first
    | (go_at_call 66; refine hof.mono ?_; rintro e w6 ⟨rfl, rfl⟩)
    | (go_at_call 46; refine hp.mono ?_; rintro e w7 ⟨u7, rfl, hu7, hs7⟩; obtain ⟨A7, c7, rfl, hc7, hm7⟩ := hu7.formN HL.out)
    | (at_builtin; refine stopAt ?_))
  unfold Hid
  have hs17 := Hs5.out.trans hs7
  refine wpList_appB rfl (.tmp 40) (.tmp 41) rfl rfl rfl hu7 (HU.out.keep (hs17.mono fun _ _ _ => trivial)) (by have := hs7.size; omega) (by rw [HL.out]; omega) ?_
  intro v8 w8 hown8 hs8 _
  have hz5 := Hs5.out.size
  go_wp2
  go_ret2
  rw [HR.out] at hown8
  exact ⟨_, rfl, hown8.lower hz5, hs17.trans' hs8 fun k hk _ e => by have := hu7.lt_ e.symm; omega⟩
theorem OwnB.fresh' {w : World} {B g : Nat} (hB : B ≤ w.heap.size) (hg : g = w.heap.size) : OwnB (w.alloc (.cells #[] 5)) B (.slice (some ⟨g, 0, none⟩) 0 0) [] := by
  subst hg
  exact OwnB.fresh hB
theorem size_two (w : World) (a b : Obj) : ((w.alloc a).alloc b).heap.size = w.heap.size + 2 := by simp
def NextPost (x : List UInt8 × Int × Int) (w : World) (e : Ending) (w' : World) : Prop :=
  ∃ u, e = .returned (.tuple #[u, .int .i64 x.2.1, .int .i64 x.2.2]) ∧ OwnB w' w.heap.size u x.1 ∧ Same (fun _ => True) w w'
theorem getN_four (l : List UInt8) : getN (l.take 4) < 4294967296 :=
  Nat.lt_of_lt_of_le (getN_lt (l.take 4)) (Nat.le_trans (Nat.pow_le_pow_right (by omega) (by simp; omega : (l.take 4).length ≤ 4)) (by decide))
set_option maxRecDepth 100000 in
set_option maxHeartbeats 2000000 in
theorem fnext_any (v : Value) (b : List UInt8) (at_ : Int) (S : Nat → Prop) (w : World) (hv : By w S v b) (hb : b.length ≤ 1000000) :
    Calls Try.prog 77 #[v, .int .i64 at_] w (NextPost (nextF b at_) w) := by
  obtain ⟨A, ca, rfl, hca, hma, -⟩ := id hv
  have HV := Lib.hid hv
  unfold maxLen at hma
  clear hv
  by_cases h1 : at_ < 0 ∨ (b.length : Int) < at_
  · have e : nextF b at_ = ([], 0, 1) := by unfold nextF; rw [if_pos h1]
    rw [e]
    clear e
    rcases h1 with h1 | h1
    all_goals
      go_enter Try.func77, Try.ntmps77
      go_wp2
      all_goals
        go_ret3
        exact ⟨_, rfl, OwnB.nil _ _, Same.refl _ _⟩
  obtain ⟨at_, rfl⟩ := Int.eq_ofNat_of_zero_le (show 0 ≤ at_ by omega)
  have hat : at_ ≤ b.length := by omega
  have hatI : (at_ : Int) ≤ (b.length : Int) := by omega
  by_cases h2 : b.length - at_ < 8
  · have e : nextF b at_ = ([], 0, 2) := by unfold nextF; rw [if_neg h1, Int.toNat_natCast, if_pos (by rw [List.length_drop]; exact h2)]
    rw [e]
    clear e h1
    have hlI : (b.length : Int) - (at_ : Int) < 8 := by omega
    go_enter Try.func77, Try.ntmps77
    go_wp2
    all_goals
      go_ret3
      exact ⟨_, rfl, OwnB.nil _ _, Same.refl _ _⟩
  obtain ⟨ad, rfl⟩ : ∃ ad, A = some ad := by
    obtain ⟨A', c', e, -, -, h3⟩ := HV.out
    injection e with e1
    subst e1
    obtain ⟨ad, h, -⟩ := h3.2 (by omega)
    exact ⟨ad, h⟩
  have hne : ¬ ca = at_ := by omega
  have hr8 : 8 ≤ b.length - at_ := by omega
  obtain ⟨rest, hrest⟩ : ∃ rest, rest = b.drop at_ := ⟨_, rfl⟩
  have hrl : rest.length = b.length - at_ := by rw [hrest, List.length_drop]
  have hrby : By w S (.slice (some (ad.add at_)) (b.length - at_) (ca - at_)) rest := by
    have := HV.out.cut at_ b.length (ca - at_) hat (Nat.le_refl _) (by omega) (by simp only [maxLen]; omega)
    rwa [List.take_of_length_le (by rw [List.length_drop]; omega), ← hrest] at this
  obtain ⟨sz, hsz⟩ : ∃ sz, sz = getN (rest.take 4) := ⟨_, rfl⟩
  obtain ⟨told, htold⟩ : ∃ told, told = getN ((rest.drop 4).take 4) := ⟨_, rfl⟩
  have hg0 := get_any _ rest 0 4 S w hrby (by omega) (by omega)
  have hg4 := get_any _ rest 4 4 S w hrby (by omega) (by omega)
  rw [List.drop_zero, ← hsz] at hg0
  rw [← htold] at hg4
  have hszl : sz < 4294967296 := by rw [hsz]; exact getN_four _
  have htl : told < 4294967296 := by rw [htold]; exact getN_four _
  have hf : nextF b at_ = if 1048576 < sz then ([], 0, 3) else if rest.length - 8 < sz then ([], 0, 2) else if (ofF [rest.take 4, (rest.drop 8).take sz]).toNat ≠ told then ([], 0, 4) else ((rest.drop 8).take sz, (at_ : Int) + 8 + sz, 0) := by
    unfold nextF
    rw [if_neg h1, Int.toNat_natCast, ← hrest, if_neg (by omega), ← hsz, ← htold]
  have HF := Lib.hid hf
  have HRB := Lib.hid hrby
  have Hrl := Lib.hid hrl
  clear h1 h2 hf hrby hsz htold hrl
  have G0 : Calls Try.prog 65 #[.slice (some (ad.add at_)) (b.length - at_) (ca - at_), .int .i64 0, .int .i64 4] w fun e w' => e = .returned (.tuple #[.int .u64 sz, .int .i64 0]) ∧ w = w' := hg0
  have G4 : Calls Try.prog 65 #[.slice (some (ad.add at_)) (b.length - at_) (ca - at_), .int .i64 4, .int .i64 4] w fun e w' => e = .returned (.tuple #[.int .u64 told, .int .i64 0]) ∧ w = w' := hg4
  clear hg0 hg4
  by_cases h3 : 1048576 < sz
  · rw [if_pos h3] at HF
    rw [HF.out]
    go_enter Try.func77, Try.ntmps77
    go_wp2_with (go_at_call 65; refine stopAt ?_)
    unfold Hid
    refine G0.mono ?_
    rintro e w' ⟨rfl, rfl⟩
    go_wp2_with (first | (go_at_call 65; refine G4.mono ?_; rintro e w' ⟨rfl, rfl⟩))
    go_ret3
    exact ⟨_, rfl, OwnB.nil _ _, Same.refl _ _⟩
  rw [if_neg h3] at HF
  by_cases h4 : rest.length - 8 < sz
  · rw [if_pos h4] at HF
    rw [HF.out]
    have h4 : b.length - at_ - 8 < sz := by have := Hrl.out; omega
    have hb8 : (0 : Int) ≤ ((b.length - at_ : Nat) : Int) - 8 := by omega
    have h4I : ((b.length - at_ : Nat) : Int) - 8 < (sz : Int) := by omega
    go_enter Try.func77, Try.ntmps77
    go_wp2_with (go_at_call 65; refine stopAt ?_)
    unfold Hid
    refine G0.mono ?_
    rintro e w' ⟨rfl, rfl⟩
    go_wp2_with (first | (go_at_call 65; refine G4.mono ?_; rintro e w' ⟨rfl, rfl⟩))
    go_ret3
    exact ⟨_, rfl, OwnB.nil _ _, Same.refl _ _⟩
  rw [if_neg h4] at HF
  have h4' : 8 + sz ≤ b.length - at_ := by have := Hrl.out; omega
  have hb8 : (0 : Int) ≤ ((b.length - at_ : Nat) : Int) - 8 := by omega
  have h4I : (sz : Int) ≤ ((b.length - at_ : Nat) : Int) - 8 := by omega
  have h3I : (sz : Int) ≤ 1048576 := by omega
  clear h3 h4
  by_cases hz : sz = 0
  · subst hz
    have hX : By w S (.slice (some (ad.add at_)) 0 0) ((rest.drop 8).take 0) := by
      rw [List.take_zero]; exact By.none_ _ _ _ _ (by simp [maxLen])
    have h4b : By w S (.slice (some (ad.add at_)) 4 4) (rest.take 4) := by
      obtain ⟨A', c', e, e1, e2, e3⟩ := HRB.out
      injection e with e4 e5 e6
      subst e4
      have := e3.take (k := 4) (by have := Hrl.out; omega)
      have hl : (rest.take 4).length = 4 := by have := Hrl.out; simp; omega
      refine ⟨_, 4, by rw [hl], by rw [hl]; exact Nat.le_refl _, by simp [maxLen], ?_⟩
      rw [hl]
      simpa [cs8, List.map_take] using this
    have hbl := ByL.two (e := 24) h4b hX
    have hof := of_any _ _ _ _ hbl
    have hlX : ((rest.drop 8).take 0).length = 0 := by have := Hrl.out; simp
    obtain ⟨body, hbody⟩ : ∃ body, body = (rest.drop 8).take 0 := ⟨_, rfl⟩
    have HF := HF.out
    rw [← hbody] at hX hlX hof HF
    have HF := Lib.hid HF
    clear hbody hbl
    have HX := Lib.hid hX
    have HlX := Lib.hid hlX
    have hs2 := Lib.hid ((Same.refl (fun _ => True) w).alloc (.cells #[.slice (some (ad.add at_)) 4 4, (.slice (some (ad.add at_)) 0 0)] 24))
    clear hX h4b hlX
    have hn := n32_bd (ofF [rest.take 4, body])
    by_cases h5 : (ofF [rest.take 4, body]).toNat ≠ told
    · rw [if_pos h5] at HF
      rw [HF.out]
      have hc : ((n32 (ofF [rest.take 4, body]) : Int) != (told : Int)) = true := by
        rw [bne_iff_ne]
        unfold n32
        omega
      clear h5
      generalize ofF [rest.take 4, body] = cc at *
      go_enter Try.func77, Try.ntmps77
      go_wp2_with (go_at_call 65; refine stopAt ?_)
      unfold Hid
      refine G0.mono ?_
      rintro e w' ⟨rfl, rfl⟩
      go_wp2_with (first | (go_at_call 65; refine G4.mono ?_; rintro e w' ⟨rfl, rfl⟩) | (go_at_call 66; refine hof.mono ?_; rintro e w' ⟨rfl, rfl⟩))
      go_ret3
      exact ⟨_, rfl, OwnB.nil _ _, hs2.out⟩
    · rw [if_neg h5] at HF
      rw [HF.out]
      have hc : ((n32 (ofF [rest.take 4, body]) : Int) != (told : Int)) = false := by
        rw [show (n32 (ofF [rest.take 4, body]) : Int) = (told : Int) by unfold n32; omega]
        simp
      clear h5
      generalize ofF [rest.take 4, body] = cc at *
      go_enter Try.func77, Try.ntmps77
      go_wp2_with (go_at_call 65; refine stopAt ?_)
      unfold Hid
      refine G0.mono ?_
      rintro e w' ⟨rfl, rfl⟩
      go_wp2_with (first | (go_at_call 65; refine G4.mono ?_; rintro e w' ⟨rfl, rfl⟩) | (go_at_call 66; refine hof.mono ?_; rintro e w' ⟨rfl, rfl⟩) | (at_builtin; refine stopAt ?_))
      unfold Hid
      have hXb := HX.out.keep ((hs2.out.mono (S' := S) fun _ _ _ => trivial).trans ((Same.refl _ _).alloc (.cells #[] 5)))
      refine wpList_appB (B := w.heap.size) (bs := []) (es := body) rfl (.tmp 64) (.tmp 65) rfl rfl rfl (OwnB.fresh' (g := w.heap.size + 1) hs2.out.size (by simp)) hXb (by rw [size_two]; omega) (by rw [HlX.out]; simp; try omega) ?_
      intro v3 w3 hown3 hs3 _
      go_wp2
      go_ret3
      refine ⟨_, congrArg Ending.returned ?_, hown3, (hs2.out.trans ((Same.refl _ _).alloc (.cells #[] 5))).trans' hs3 fun k hk _ e => ?_⟩
      · rfl
      · have e : some k = some (w.heap.size + 1) := e
        injection e with e
        omega
  · have hpos : 0 < sz := by omega
    have hz0 : ¬ sz = 0 := hz
    have hX : By w S (.slice (some ⟨(ad.add at_).block, (ad.add at_).off + 8, none⟩) sz sz) ((rest.drop 8).take sz) := by
      have := HRB.out.cut 8 (8 + sz) sz (by omega) (by have := Hrl.out; omega) (by omega) (by simp only [maxLen]; omega)
      rw [show 8 + sz - 8 = sz from by omega] at this
      exact this
    have h4b : By w S (.slice (some (ad.add at_)) 4 4) (rest.take 4) := by
      obtain ⟨A', c', e, e1, e2, e3⟩ := HRB.out
      injection e with e4 e5 e6
      subst e4
      have := e3.take (k := 4) (by have := Hrl.out; omega)
      have hl : (rest.take 4).length = 4 := by have := Hrl.out; simp; omega
      refine ⟨_, 4, by rw [hl], by rw [hl]; exact Nat.le_refl _, by simp [maxLen], ?_⟩
      rw [hl]
      simpa [cs8, List.map_take] using this
    have hbl := ByL.two (e := 24) h4b hX
    have hof := of_any _ _ _ _ hbl
    have hlX : ((rest.drop 8).take sz).length = sz := by have := Hrl.out; simp; omega
    obtain ⟨body, hbody⟩ : ∃ body, body = (rest.drop 8).take sz := ⟨_, rfl⟩
    have HF := HF.out
    rw [← hbody] at hX hlX hof HF
    have HF := Lib.hid HF
    clear hbody hbl
    have HX := Lib.hid hX
    have HlX := Lib.hid hlX
    have hs2 := Lib.hid ((Same.refl (fun _ => True) w).alloc (.cells #[.slice (some (ad.add at_)) 4 4, (.slice (some ⟨(ad.add at_).block, (ad.add at_).off + 8, none⟩) sz sz)] 24))
    clear hX h4b hlX
    have hn := n32_bd (ofF [rest.take 4, body])
    by_cases h5 : (ofF [rest.take 4, body]).toNat ≠ told
    · rw [if_pos h5] at HF
      rw [HF.out]
      have hc : ((n32 (ofF [rest.take 4, body]) : Int) != (told : Int)) = true := by
        rw [bne_iff_ne]
        unfold n32
        omega
      clear h5
      generalize ofF [rest.take 4, body] = cc at *
      go_enter Try.func77, Try.ntmps77
      go_wp2_with (go_at_call 65; refine stopAt ?_)
      unfold Hid
      refine G0.mono ?_
      rintro e w' ⟨rfl, rfl⟩
      go_wp2_with (first | (go_at_call 65; refine G4.mono ?_; rintro e w' ⟨rfl, rfl⟩) | (go_at_call 66; refine hof.mono ?_; rintro e w' ⟨rfl, rfl⟩))
      go_ret3
      exact ⟨_, rfl, OwnB.nil _ _, hs2.out⟩
    · rw [if_neg h5] at HF
      rw [HF.out]
      have hc : ((n32 (ofF [rest.take 4, body]) : Int) != (told : Int)) = false := by
        rw [show (n32 (ofF [rest.take 4, body]) : Int) = (told : Int) by unfold n32; omega]
        simp
      clear h5
      generalize ofF [rest.take 4, body] = cc at *
      go_enter Try.func77, Try.ntmps77
      go_wp2_with (go_at_call 65; refine stopAt ?_)
      unfold Hid
      refine G0.mono ?_
      rintro e w' ⟨rfl, rfl⟩
      go_wp2_with (first | (go_at_call 65; refine G4.mono ?_; rintro e w' ⟨rfl, rfl⟩) | (go_at_call 66; refine hof.mono ?_; rintro e w' ⟨rfl, rfl⟩) | (at_builtin; refine stopAt ?_))
      unfold Hid
      have hXb := HX.out.keep ((hs2.out.mono (S' := S) fun _ _ _ => trivial).trans ((Same.refl _ _).alloc (.cells #[] 5)))
      refine wpList_appB (B := w.heap.size) (bs := []) (es := body) rfl (.tmp 64) (.tmp 65) rfl rfl rfl (OwnB.fresh' (g := w.heap.size + 1) hs2.out.size (by simp)) hXb (by rw [size_two]; omega) (by rw [HlX.out]; simp; try omega) ?_
      intro v3 w3 hown3 hs3 _
      go_wp2
      go_ret3
      refine ⟨_, congrArg Ending.returned ?_, hown3, (hs2.out.trans ((Same.refl _ _).alloc (.cells #[] 5))).trans' hs3 fun k hk _ e => ?_⟩
      · rfl
      · have e : some k = some (w.heap.size + 1) := e
        injection e with e
        omega
end Go.Proofs.Ytpjinngngbifoaa
