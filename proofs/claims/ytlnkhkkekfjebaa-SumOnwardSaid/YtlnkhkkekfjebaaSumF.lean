/-
  SumOnward: for every bytes and count, noughts of unlike counts are told apart, and what goes on from one sum goes on as bytes do.
-/
import Derived.Test.YtlnkhkkekfjebaaSumC
import Derived.Test.YtlnkhkkekfjebaaReg
set_option linter.unusedSimpArgs false
namespace Go.Proofs.Ytlnkhkkekfjebaa
open Go.RowKit Go.ChangeShapes Go.WideShapes Go.ChangeAt

theorem by_one' {w : World} {S : Nat → Prop} {A : Option Addr} {c n : Nat} {bs : List UInt8} (h : By w S (.slice A n c) bs) (hn : bs.length = n) (hs : S w.heap.size) :
    ByL (w.alloc (.cells #[.slice A n c] 27)) S (.slice (some ⟨w.heap.size, 0, none⟩) 1 1) [bs] := by
  subst hn; exact by_one h hs
/-- Two parts, laid into a new row of two cells. -/
theorem by_two {w : World} {S : Nat → Prop} {v1 v2 : Value} {x y : List UInt8} (h1 : By w S v1 x) (h2 : By w S v2 y) (hs : S w.heap.size) :
    ByL (w.alloc (.cells #[v1, v2] 27)) S (.slice (some ⟨w.heap.size, 0, none⟩) 2 2) [x, y] := by
  refine ⟨_, _, [v1, v2], rfl, by simp, by simp [maxLen], ⟨rfl, fun _ => ⟨_, rfl, hs, fun j u hu => ?_⟩⟩, fun i u b hu hx => ?_⟩
  · have e0 : (⟨w.heap.size, 0, none⟩ : Addr).add j = ⟨w.heap.size, j, none⟩ := by unfold Addr.add; split <;> simp_all
    rw [e0, cell_of_row _ _ j #[v1, v2] 27 (0, 0) (heap_alloc_new w _)]
    simpa using hu
  · match i, hu, hx with
    | 0, hu, hx =>
      simp at hu hx
      subst hu hx
      exact h1.keep ((Same.refl S w).alloc _)
    | 1, hu, hx =>
      simp at hu hx
      subst hu hx
      exact h2.keep ((Same.refl S w).alloc _)
    | i + 2, hu, _ => simp at hu
theorem crc_zeros (c : UInt32) (n : Nat) : crc c (List.replicate n 0) = itS (8 * n) c := by
  induction n generalizing c with
  | zero => rfl
  | succ n ih =>
    show crc (byt c 0) (List.replicate n 0) = _
    rw [ih]
    have : byt c 0 = itS 8 c := by
      unfold byt
      have : (0 : UInt8).toUInt32 = 0 := rfl
      rw [this, xor_zero32]
    rw [this, ← itS_add, Nat.mul_succ]
theorem zeros_ne (n : Nat) : ofF [List.replicate (n + 1) 0] ≠ ofF [List.replicate n 0] := by
  simp only [ofF_one, moreF, crc_zeros]
  intro e
  have e1 := congrArg (fun x => ~~~ x) e
  simp only [not_not32] at e1
  rw [Nat.mul_succ, itS_add] at e1
  have := itS_inj e1
  exact absurd this (by decide)

set_option maxRecDepth 100000 in
set_option maxHeartbeats 2000000 in
theorem sumonward_walk (v : Value) (bs : List UInt8) (x : Int) (S : Nat → Prop) (w : World) (hv : By w S v bs) (hx : -9223372036854775808 ≤ x ∧ x ≤ 9223372036854775807) :
    Calls Try.prog 7 #[v, .int .i64 x] w (TrueP w) := by
  have hv' := hv.mono (S' := fun _ => True) fun _ _ _ => trivial
  obtain ⟨A, cap, rfl, hc1, hm, hs⟩ := hv
  unfold maxLen at hm
  clear hs
  obtain ⟨hx1, hx2⟩ := hx
  by_cases h1 : 4096 < bs.length
  · clear hv'
    go_enter Try.func7, Try.ntmps7
    go_wp2_with (go_at_call 26; refine (sumbegun_any _).mono ?_; rintro e w1 ⟨rfl, hs1⟩)
    go_ret
    exact ⟨rfl, hs1⟩
  · have t1 := Int.tmod_lt_of_pos x (b := 50) (by omega)
    have t2 := Int.lt_tmod_of_pos x (b := 50) (by omega)
    obtain ⟨n, hN⟩ : ∃ n : Nat, (x.tmod 50 + 50) % 50 = n := ⟨((x.tmod 50 + 50) % 50).toNat, by omega⟩
    have hn50 : n < 50 := by omega
    have HB := Lib.hid hv'
    clear hv'
    go_enter Try.func7, Try.ntmps7
    go_wp2_with (first | (go_at_call 26; refine (sumbegun_any _).mono ?_; rintro e w1 ⟨rfl, hs1⟩) | (at_make; refine stopAt ?_))
    unfold Hid
    simp only [hN]
    clear hN
    refine wpList_mk T8 _ rfl _ _ rfl .i64 .i64 _ _ n rfl rfl rfl rfl (by omega) (by simp only [maxLen]; omega) ?_
    intro w2 hr2 hs2 hz2
    rw [made8] at hr2
    obtain ⟨Zs, hZ⟩ : ∃ Zs : List UInt8, Zs = List.replicate n 0 := ⟨_, rfl⟩
    have hZl : Zs.length = n := by rw [hZ]; simp
    have hzs : Sl w2 (fun _ => True) 1 (some ⟨w1.heap.size, 0, none⟩) n (cs8 Zs) := by
      have h5 := hr2.sl (size := 1) (off := 0) (n := n) (by simp)
      have e : ((List.replicate n (V8 0)).drop 0).take (n * 1) = cs8 Zs := by
        rw [hZ, List.drop_zero, Nat.mul_one, List.take_of_length_le (by simp)]; simp [cs8]
      rw [e] at h5
      exact h5.mono (S' := fun _ => True) (fun _ _ _ => trivial) (by omega)
    have BZ := Lib.hid (show ∀ w', Same (fun _ => True) w2 w' → By w' (fun _ => True) (.slice (some ⟨w1.heap.size, 0, none⟩) n n) Zs from fun w' h => ⟨_, n, by rw [hZl], by omega, by simp only [maxLen]; omega, by rw [hZl]; exact hzs.keep h⟩)
    have BB := Lib.hid (show ∀ w', Same (fun _ => True) w2 w' → By w' (fun _ => True) (.slice A bs.length cap) bs from fun w' h => (HB.out.keep (hs1.trans hs2)).keep h)
    have H12 := Lib.hid (hs1.trans hs2)
    have Hzs := Lib.hid hzs
    have HZ := Lib.hid hZ
    have HZl := Lib.hid hZl
    clear hr2 hzs hZ hZl t1 t2 hs1 hs2
    go_wp2_with (go_at_call 30; refine stopAt ?_)
    unfold Hid
    refine (of_any _ [Zs, bs] _ _ (by_two (BZ.out _ (Same.refl _ _)) (BB.out _ (Same.refl _ _)) trivial)).mono ?_
    rintro e w4 ⟨rfl, rfl⟩
    go_wp2_with (go_at_call 30; refine stopAt ?_)
    unfold Hid
    refine (of_any _ [bs, Zs] (fun _ => True) _ (by simpa using by_two (BB.out _ ((Same.refl _ _).alloc (.cells #[.slice (some ⟨w1.heap.size, 0, none⟩) n n, .slice A bs.length cap] 27))) (BZ.out _ ((Same.refl _ _).alloc _)) trivial)).mono ?_
    rintro e w4 ⟨rfl, rfl⟩
    obtain ⟨w5, hw5⟩ : ∃ w5, w5 = (w2.alloc (.cells #[.slice (some ⟨w1.heap.size, 0, none⟩) n n, .slice A bs.length cap] 27)).alloc (.cells #[.slice A bs.length cap, .slice (some ⟨w1.heap.size, 0, none⟩) n n] 27) := ⟨_, rfl⟩
    have S5 : Same (fun _ => True) w2 w5 := by rw [hw5]; exact ((Same.refl _ _).alloc _).alloc _
    have BZ := Lib.hid (show ∀ w', Same (fun _ => True) w5 w' → By w' (fun _ => True) (.slice (some ⟨w1.heap.size, 0, none⟩) n n) Zs from fun w' h => BZ.out w' (S5.trans h))
    have BB := Lib.hid (show ∀ w', Same (fun _ => True) w5 w' → By w' (fun _ => True) (.slice A bs.length cap) bs from fun w' h => BB.out w' (S5.trans h))
    rw [hw5] at BZ BB
    have q1 := Lib.hid (show ofF [Zs, bs] = moreF (ofF [Zs]) bs from rfl)
    have q2 := Lib.hid (show ofF [bs, Zs] = moreF (ofF [bs]) Zs from rfl)
    have bylZ : ∀ {w'}, By w' (fun _ => True) (.slice (some ⟨w1.heap.size, 0, none⟩) n n) Zs → ByL (w'.alloc (.cells #[.slice (some ⟨w1.heap.size, 0, none⟩) n n] 27)) (fun _ => True) (.slice (some ⟨w'.heap.size, 0, none⟩) 1 1) [Zs] := fun h => by_one' h HZl.out trivial
    have bylB : ∀ {w'}, By w' (fun _ => True) (.slice A bs.length cap) bs → ByL (w'.alloc (.cells #[.slice A bs.length cap] 27)) (fun _ => True) (.slice (some ⟨w'.heap.size, 0, none⟩) 1 1) [bs] := fun h => by_one' h rfl trivial
    have bylZB : ∀ {w'}, By w' (fun _ => True) (.slice (some ⟨w1.heap.size, 0, none⟩) n n) Zs → By w' (fun _ => True) (.slice A bs.length cap) bs → ByL (w'.alloc (.cells #[.slice (some ⟨w1.heap.size, 0, none⟩) n n, .slice A bs.length cap] 27)) (fun _ => True) (.slice (some ⟨w'.heap.size, 0, none⟩) 2 2) [Zs, bs] := fun h h' => by_two h h' trivial
    clear hw5 S5
    by_cases hpos : 0 < n
    · have qpos := Lib.hid (show decide ((0 : Int) < (n : Int)) = true by simpa using hpos)
      have qzero := Lib.hid (show ((n : Int) == 0) = false by simp; omega)
      have q4 := Lib.hid (show (!(n32 (ofF [Zs]) == n32 (ofF [Zs.tail]))) = true by
        have hne : ofF [Zs] ≠ ofF [Zs.tail] := by
          obtain ⟨k, rfl⟩ : ∃ k, n = k + 1 := ⟨n - 1, by omega⟩
          rw [HZ.out]
          exact zeros_ne k
        simpa using fun e => hne (n32_inj.1 e))
      have qz1 : Hid (Value.slice (if n = 1 then some ⟨w1.heap.size, 0, none⟩ else some ⟨w1.heap.size, 1, none⟩) (n - 1) (n - 1) = Value.slice (if n = 1 then some ⟨w1.heap.size, 0, none⟩ else some ⟨w1.heap.size, 1, none⟩) (n - 1) (n - 1)) := rfl
      have hZ1l : Zs.tail.length = n - 1 := by rw [List.length_tail, HZl.out]
      have BZ1 := Lib.hid (show ∀ w', Same (fun _ => True) ((w2.alloc (.cells #[.slice (some ⟨w1.heap.size, 0, none⟩) n n, .slice A bs.length cap] 27)).alloc (.cells #[.slice A bs.length cap, .slice (some ⟨w1.heap.size, 0, none⟩) n n] 27)) w' → By w' (fun _ => True) (.slice (if n = 1 then some ⟨w1.heap.size, 0, none⟩ else some ⟨w1.heap.size, 1, none⟩) (n - 1) (n - 1)) Zs.tail from fun w' h => by
        refine ⟨_, n - 1, by rw [hZ1l], by omega, by simp only [maxLen]; omega, ?_⟩
        have h6 := (Hzs.out.cut (k := 1) (cap := n) (by omega) (by omega)).keep ((((Same.refl (fun _ => True) _).alloc _).alloc _).trans h)
        rw [hZ1l]
        have e1 : (cs8 Zs).drop (1 * 1) = cs8 Zs.tail := by simp [cs8]
        rw [e1] at h6
        have e2 : (if n = 1 then some (⟨w1.heap.size, 0, none⟩ : Addr) else (some (⟨w1.heap.size, 0, none⟩ : Addr)).map (·.add (1 * 1))) = (if n = 1 then some ⟨w1.heap.size, 0, none⟩ else some ⟨w1.heap.size, 1, none⟩) := by simp [Addr.add]
        rw [e2] at h6
        exact h6)
      have HZ1l := Lib.hid hZ1l
      have bylZ1 : ∀ {w'}, By w' (fun _ => True) (.slice (if n = 1 then some ⟨w1.heap.size, 0, none⟩ else some ⟨w1.heap.size, 1, none⟩) (n - 1) (n - 1)) Zs.tail → ByL (w'.alloc (.cells #[.slice (if n = 1 then some ⟨w1.heap.size, 0, none⟩ else some ⟨w1.heap.size, 1, none⟩) (n - 1) (n - 1)] 27)) (fun _ => True) (.slice (some ⟨w'.heap.size, 0, none⟩) 1 1) [Zs.tail] := fun h => by_one' h HZ1l.out trivial
      have hn1 : 1 ≤ n := by omega
      have hn1i : (1 : Int) ≤ (n : Int) := by omega
      clear hZ1l
      go_wp2
      refine wp_region_rel_lit (L := [.eq (.int .u32 (n32 (ofF [Zs, bs]))), .eq (.slice (some ⟨w1.heap.size, 0, none⟩) n n), .byl (fun _ => True) [Zs], .eq (.int .u32 (n32 (ofF [Zs]))), .eq (.slice A bs.length cap), .eq (.int .u32 (n32 (moreF (ofF [Zs]) bs))), .eq (.bool true), .eq (.bool true), .eq (.int .u32 (n32 (ofF [bs, Zs]))), .eq (.slice A bs.length cap), .byl (fun _ => True) [bs], .eq (.int .u32 (n32 (ofF [bs]))), .eq (.slice (some ⟨w1.heap.size, 0, none⟩) n n), .eq (.int .u32 (n32 (moreF (ofF [bs]) Zs))), .eq (.bool true), .eq (.bool true), .eq (.bool true), .eq (.int .i64 n), .eq (.bool true), .eq (.bool true), .eq undef, .eq undef, .eq undef, .eq undef, .eq undef, .eq (.bool true), .eq (.bool true), .eq (.bool true), .eq (.int .i64 n), .eq (.bool false), .eq (.bool false), .eq (.slice (some ⟨w1.heap.size, 0, none⟩) n n), .byl (fun _ => True) [Zs], .eq (.int .u32 (n32 (ofF [Zs]))), .eq (.slice (some ⟨w1.heap.size, 0, none⟩) n n), .eq (.slice (if n = 1 then some ⟨w1.heap.size, 0, none⟩ else some ⟨w1.heap.size, 1, none⟩) (n - 1) (n - 1)), .byl (fun _ => True) [Zs.tail], .eq (.int .u32 (n32 (ofF [Zs.tail]))), .eq (.bool true), .eq (.bool true), .eq (.bool true), .eq (.bool true), .eq (.int .u32 (n32 (ofF [Zs, bs]))), .eq (.slice (some ⟨w1.heap.size, 0, none⟩) n n), .eq (.slice A bs.length cap), .byl (fun _ => True) [Zs, bs], .eq (.int .u32 (n32 (ofF [Zs, bs]))), .eq (.bool true), .eq (.bool true), .eq (.bool true)]) (by kernel_rfl) (by kernel_rfl) rfl ?_ ?_
      · refine ⟨?_, ?_, ?_, ?_, ?_, ?_, ?_, ?_, ?_, ?_, ?_, ?_, ?_, ?_, ?_, ?_, ?_, ?_, ?_, ?_, ?_, ?_, ?_, ?_, ?_, ?_, ?_, ?_, ?_, ?_, ?_, ?_, ?_, ?_, ?_, ?_, ?_, ?_, ?_, ?_, ?_, ?_, ?_, ?_, ?_, ?_, ?_, ?_, ?_, ?_, trivial⟩
        · intro ac wc hs hd hz hf hw K hK
          have e0 : ac.eval (.tmp 6) = (.int .u32 (n32 (ofF [Zs, bs]))) := hf 6 rfl
          clear hd hz hf hw
          simp only [Region.wanted, if_true,  Oper.wp, execOp, resolve, List.map_toArray, List.map_cons, List.map_nil, Option.map_some, Option.map_none, e0]
          go_simp
          exact hK _ _ rfl (Same.refl _ _)
        · intro ac wc hs hd hz hf hw K hK
          have e0 : ac.eval (.tmp 5) = (.slice (some ⟨w1.heap.size, 0, none⟩) n n) := hf 5 rfl
          clear hd hz hf hw
          simp only [Region.wanted, if_true,  Oper.wp, execOp, resolve, List.map_toArray, List.map_cons, List.map_nil, Option.map_some, Option.map_none, e0]
          go_simp
          exact hK _ _ rfl (Same.refl _ _)
        · intro ac wc hs hd hz hf hw K hK
          have e0 : ac.eval (.tmp 28) = (.slice (some ⟨w1.heap.size, 0, none⟩) n n) := hw 1 rfl
          clear hd hz hf hw
          simp only [Region.wanted, if_true,  Oper.wp, execOp, resolve, List.map_toArray, List.map_cons, List.map_nil, Option.map_some, Option.map_none, e0]
          go_simp
          exact hK _ _ (bylZ (BZ.out _ hs)) ((Same.refl _ _).alloc _)
        · intro ac wc hs hd hz hf hw K hK
          have p0 : ByL wc (fun _ => True) (ac.eval (.tmp 29)) [Zs] := hw 2 rfl
          obtain ⟨u0, e0⟩ : ∃ u, ac.eval (.tmp 29) = u := ⟨_, rfl⟩
          rw [e0] at p0
          clear hd hz hf hw
          simp only [Region.wanted, if_true,  Oper.wp, execOp, resolve, List.map_toArray, List.map_cons, List.map_nil, Option.map_some, Option.map_none, e0]
          go_simp
          refine (of_any _ [Zs] _ _ p0).mono ?_
          rintro e w' ⟨rfl, rfl⟩
          exact hK _ _ rfl (Same.refl _ _)
        · intro ac wc hs hd hz hf hw K hK
          have e0 : ac.eval (.tmp 0) = (.slice A bs.length cap) := hf 0 rfl
          clear hd hz hf hw
          simp only [Region.wanted, if_true,  Oper.wp, execOp, resolve, List.map_toArray, List.map_cons, List.map_nil, Option.map_some, Option.map_none, e0]
          go_simp
          exact hK _ _ rfl (Same.refl _ _)
        · intro ac wc hs hd hz hf hw K hK
          have e0 : ac.eval (.tmp 30) = (.int .u32 (n32 (ofF [Zs]))) := hw 3 rfl
          have e1 : ac.eval (.tmp 31) = (.slice A bs.length cap) := hw 4 rfl
          clear hd hz hf hw
          simp only [Region.wanted, if_true,  Oper.wp, execOp, resolve, List.map_toArray, List.map_cons, List.map_nil, Option.map_some, Option.map_none, e0, e1]
          go_simp
          refine (more_any _ _ _ _ _ (BB.out _ hs)).mono ?_
          rintro e w' ⟨rfl, rfl⟩
          exact hK _ _ rfl (Same.refl _ _)
        · intro ac wc hs hd hz hf hw K hK
          have e0 : ac.eval (.tmp 27) = (.int .u32 (n32 (ofF [Zs, bs]))) := hw 0 rfl
          have e1 : ac.eval (.tmp 32) = (.int .u32 (n32 (moreF (ofF [Zs]) bs))) := hw 5 rfl
          clear hd hz hf hw
          simp only [Region.wanted, if_true,  Oper.wp, execOp, resolve, List.map_toArray, List.map_cons, List.map_nil, Option.map_some, Option.map_none, e0, e1]
          rw [q1.out]
          go_simp
          exact hK _ _ rfl (Same.refl _ _)
        · intro ac wc hs hd hz hf hw K hK
          have e0 : ac.eval (.tmp 33) = (.bool true) := hw 6 rfl
          clear hd hz hf hw
          simp only [Region.wanted, if_true,  Oper.wp, execOp, resolve, List.map_toArray, List.map_cons, List.map_nil, Option.map_some, Option.map_none, e0]
          go_simp
          exact hK _ _ rfl (Same.refl _ _)
        · intro ac wc hs hd hz hf hw K hK
          have eg : ac.eval (.tmp 34) = .bool true := hw 7 rfl
          refine run_wanted (j := 7) (d := 34) (b := true) rfl rfl hz (of_decide_eq_true rfl) eg ?_
          have e1 : ac.eval (.tmp 7) = (.int .u32 (n32 (ofF [bs, Zs]))) := hf 7 rfl
          clear eg
          clear hd hz hf hw
          simp only [ Oper.wp, execOp, resolve, List.map_toArray, List.map_cons, List.map_nil, Option.map_some, Option.map_none, e1]
          go_simp
          exact hK _ _ rfl (Same.refl _ _)
        · intro ac wc hs hd hz hf hw K hK
          have eg : ac.eval (.tmp 34) = .bool true := hw 7 rfl
          refine run_wanted (j := 7) (d := 34) (b := true) rfl rfl hz (of_decide_eq_true rfl) eg ?_
          have e1 : ac.eval (.tmp 0) = (.slice A bs.length cap) := hf 0 rfl
          clear eg
          clear hd hz hf hw
          simp only [ Oper.wp, execOp, resolve, List.map_toArray, List.map_cons, List.map_nil, Option.map_some, Option.map_none, e1]
          go_simp
          exact hK _ _ rfl (Same.refl _ _)
        · intro ac wc hs hd hz hf hw K hK
          have eg : ac.eval (.tmp 34) = .bool true := hw 7 rfl
          refine run_wanted (j := 7) (d := 34) (b := true) rfl rfl hz (of_decide_eq_true rfl) eg ?_
          have e1 : ac.eval (.tmp 36) = (.slice A bs.length cap) := hw 9 rfl
          clear eg
          clear hd hz hf hw
          simp only [ Oper.wp, execOp, resolve, List.map_toArray, List.map_cons, List.map_nil, Option.map_some, Option.map_none, e1]
          go_simp
          exact hK _ _ (bylB (BB.out _ hs)) ((Same.refl _ _).alloc _)
        · intro ac wc hs hd hz hf hw K hK
          have eg : ac.eval (.tmp 34) = .bool true := hw 7 rfl
          refine run_wanted (j := 7) (d := 34) (b := true) rfl rfl hz (of_decide_eq_true rfl) eg ?_
          have p0 : ByL wc (fun _ => True) (ac.eval (.tmp 37)) [bs] := hw 10 rfl
          obtain ⟨u1, e1⟩ : ∃ u, ac.eval (.tmp 37) = u := ⟨_, rfl⟩
          rw [e1] at p0
          clear eg
          clear hd hz hf hw
          simp only [ Oper.wp, execOp, resolve, List.map_toArray, List.map_cons, List.map_nil, Option.map_some, Option.map_none, e1]
          go_simp
          refine (of_any _ [bs] _ _ p0).mono ?_
          rintro e w' ⟨rfl, rfl⟩
          exact hK _ _ rfl (Same.refl _ _)
        · intro ac wc hs hd hz hf hw K hK
          have eg : ac.eval (.tmp 34) = .bool true := hw 7 rfl
          refine run_wanted (j := 7) (d := 34) (b := true) rfl rfl hz (of_decide_eq_true rfl) eg ?_
          have e1 : ac.eval (.tmp 5) = (.slice (some ⟨w1.heap.size, 0, none⟩) n n) := hf 5 rfl
          clear eg
          clear hd hz hf hw
          simp only [ Oper.wp, execOp, resolve, List.map_toArray, List.map_cons, List.map_nil, Option.map_some, Option.map_none, e1]
          go_simp
          exact hK _ _ rfl (Same.refl _ _)
        · intro ac wc hs hd hz hf hw K hK
          have eg : ac.eval (.tmp 34) = .bool true := hw 7 rfl
          refine run_wanted (j := 7) (d := 34) (b := true) rfl rfl hz (of_decide_eq_true rfl) eg ?_
          have e1 : ac.eval (.tmp 38) = (.int .u32 (n32 (ofF [bs]))) := hw 11 rfl
          have e2 : ac.eval (.tmp 39) = (.slice (some ⟨w1.heap.size, 0, none⟩) n n) := hw 12 rfl
          clear eg
          clear hd hz hf hw
          simp only [ Oper.wp, execOp, resolve, List.map_toArray, List.map_cons, List.map_nil, Option.map_some, Option.map_none, e1, e2]
          go_simp
          refine (more_any _ _ _ _ _ (BZ.out _ hs)).mono ?_
          rintro e w' ⟨rfl, rfl⟩
          exact hK _ _ rfl (Same.refl _ _)
        · intro ac wc hs hd hz hf hw K hK
          have eg : ac.eval (.tmp 34) = .bool true := hw 7 rfl
          refine run_wanted (j := 7) (d := 34) (b := true) rfl rfl hz (of_decide_eq_true rfl) eg ?_
          have e1 : ac.eval (.tmp 35) = (.int .u32 (n32 (ofF [bs, Zs]))) := hw 8 rfl
          have e2 : ac.eval (.tmp 40) = (.int .u32 (n32 (moreF (ofF [bs]) Zs))) := hw 13 rfl
          clear eg
          clear hd hz hf hw
          simp only [ Oper.wp, execOp, resolve, List.map_toArray, List.map_cons, List.map_nil, Option.map_some, Option.map_none, e1, e2]
          rw [q2.out]
          go_simp
          exact hK _ _ rfl (Same.refl _ _)
        · intro ac wc hs hd hz hf hw K hK
          have e0 : ac.eval (.tmp 34) = (.bool true) := hw 7 rfl
          have e1 : ac.eval (.tmp 41) = (.bool true) := hw 14 rfl
          clear hd hz hf hw
          simp only [Region.wanted, if_true,  Oper.wp, execOp, resolve, List.map_toArray, List.map_cons, List.map_nil, Option.map_some, Option.map_none, e0, e1]
          go_simp
          exact hK _ _ rfl (Same.refl _ _)
        · intro ac wc hs hd hz hf hw K hK
          have e0 : ac.eval (.tmp 42) = (.bool true) := hw 15 rfl
          clear hd hz hf hw
          simp only [Region.wanted, if_true,  Oper.wp, execOp, resolve, List.map_toArray, List.map_cons, List.map_nil, Option.map_some, Option.map_none, e0]
          go_simp
          exact hK _ _ rfl (Same.refl _ _)
        · intro ac wc hs hd hz hf hw K hK
          have eg : ac.eval (.tmp 43) = .bool true := hw 16 rfl
          refine run_wanted (j := 16) (d := 43) (b := true) rfl rfl hz (of_decide_eq_true rfl) eg ?_
          have e1 : ac.eval (.tmp 1) = (.int .i64 n) := hf 1 rfl
          clear eg
          clear hd hz hf hw
          simp only [ Oper.wp, execOp, resolve, List.map_toArray, List.map_cons, List.map_nil, Option.map_some, Option.map_none, e1]
          go_simp
          exact hK _ _ rfl (Same.refl _ _)
        · intro ac wc hs hd hz hf hw K hK
          have eg : ac.eval (.tmp 43) = .bool true := hw 16 rfl
          refine run_wanted (j := 16) (d := 43) (b := true) rfl rfl hz (of_decide_eq_true rfl) eg ?_
          have e1 : ac.eval (.tmp 44) = (.int .i64 n) := hw 17 rfl
          clear eg
          clear hd hz hf hw
          simp only [ Oper.wp, execOp, resolve, List.map_toArray, List.map_cons, List.map_nil, Option.map_some, Option.map_none, e1]
          go_simp
          first | exact hK _ _ rfl (Same.refl _ _) | exact hK _ _ (congrArg Value.bool qpos.out) (Same.refl _ _)
        · intro ac wc hs hd hz hf hw K hK
          have eg : ac.eval (.tmp 43) = .bool true := hw 16 rfl
          refine run_wanted (j := 16) (d := 43) (b := true) rfl rfl hz (of_decide_eq_true rfl) eg ?_
          have e1 : ac.eval (.tmp 45) = (.bool true) := hw 18 rfl
          clear eg
          clear hd hz hf hw
          simp only [ Oper.wp, execOp, resolve, List.map_toArray, List.map_cons, List.map_nil, Option.map_some, Option.map_none, e1]
          go_simp
          exact hK _ _ rfl (Same.refl _ _)
        · intro ac wc hs hd hz hf hw K hK
          have eg : ac.eval (.tmp 46) = .bool true := hw 19 rfl
          refine skip_wanted (j := 19) (d := 46) (b := true) rfl rfl hz (of_decide_eq_true rfl) eg ?_
          clear eg
          clear hd hz hf hw
          exact hK _ _ rfl (Same.refl _ _)
        · intro ac wc hs hd hz hf hw K hK
          have eg : ac.eval (.tmp 46) = .bool true := hw 19 rfl
          refine skip_wanted (j := 19) (d := 46) (b := true) rfl rfl hz (of_decide_eq_true rfl) eg ?_
          clear eg
          clear hd hz hf hw
          exact hK _ _ rfl (Same.refl _ _)
        · intro ac wc hs hd hz hf hw K hK
          have eg : ac.eval (.tmp 46) = .bool true := hw 19 rfl
          refine skip_wanted (j := 19) (d := 46) (b := true) rfl rfl hz (of_decide_eq_true rfl) eg ?_
          clear eg
          clear hd hz hf hw
          exact hK _ _ rfl (Same.refl _ _)
        · intro ac wc hs hd hz hf hw K hK
          have eg : ac.eval (.tmp 46) = .bool true := hw 19 rfl
          refine skip_wanted (j := 19) (d := 46) (b := true) rfl rfl hz (of_decide_eq_true rfl) eg ?_
          clear eg
          clear hd hz hf hw
          exact hK _ _ rfl (Same.refl _ _)
        · intro ac wc hs hd hz hf hw K hK
          have eg : ac.eval (.tmp 46) = .bool true := hw 19 rfl
          refine skip_wanted (j := 19) (d := 46) (b := true) rfl rfl hz (of_decide_eq_true rfl) eg ?_
          clear eg
          clear hd hz hf hw
          exact hK _ _ rfl (Same.refl _ _)
        · intro ac wc hs hd hz hf hw K hK
          have eg : ac.eval (.tmp 43) = .bool true := hw 16 rfl
          refine run_wanted (j := 16) (d := 43) (b := true) rfl rfl hz (of_decide_eq_true rfl) eg ?_
          have e1 : ac.eval (.tmp 46) = (.bool true) := hw 19 rfl
          have e2 : ac.eval (.tmp 51) = undef := hw 24 rfl
          clear eg
          clear hd hz hf hw
          simp only [ Oper.wp, execOp, resolve, List.map_toArray, List.map_cons, List.map_nil, Option.map_some, Option.map_none, e1, e2]
          go_simp
          exact hK _ _ rfl (Same.refl _ _)
        · intro ac wc hs hd hz hf hw K hK
          have e0 : ac.eval (.tmp 43) = (.bool true) := hw 16 rfl
          have e1 : ac.eval (.tmp 52) = (.bool true) := hw 25 rfl
          clear hd hz hf hw
          simp only [Region.wanted, if_true,  Oper.wp, execOp, resolve, List.map_toArray, List.map_cons, List.map_nil, Option.map_some, Option.map_none, e0, e1]
          go_simp
          exact hK _ _ rfl (Same.refl _ _)
        · intro ac wc hs hd hz hf hw K hK
          have e0 : ac.eval (.tmp 53) = (.bool true) := hw 26 rfl
          clear hd hz hf hw
          simp only [Region.wanted, if_true,  Oper.wp, execOp, resolve, List.map_toArray, List.map_cons, List.map_nil, Option.map_some, Option.map_none, e0]
          go_simp
          exact hK _ _ rfl (Same.refl _ _)
        · intro ac wc hs hd hz hf hw K hK
          have eg : ac.eval (.tmp 54) = .bool true := hw 27 rfl
          refine run_wanted (j := 27) (d := 54) (b := true) rfl rfl hz (of_decide_eq_true rfl) eg ?_
          have e1 : ac.eval (.tmp 1) = (.int .i64 n) := hf 1 rfl
          clear eg
          clear hd hz hf hw
          simp only [ Oper.wp, execOp, resolve, List.map_toArray, List.map_cons, List.map_nil, Option.map_some, Option.map_none, e1]
          go_simp
          exact hK _ _ rfl (Same.refl _ _)
        · intro ac wc hs hd hz hf hw K hK
          have eg : ac.eval (.tmp 54) = .bool true := hw 27 rfl
          refine run_wanted (j := 27) (d := 54) (b := true) rfl rfl hz (of_decide_eq_true rfl) eg ?_
          have e1 : ac.eval (.tmp 55) = (.int .i64 n) := hw 28 rfl
          clear eg
          clear hd hz hf hw
          simp only [ Oper.wp, execOp, resolve, List.map_toArray, List.map_cons, List.map_nil, Option.map_some, Option.map_none, e1]
          go_simp
          first | exact hK _ _ rfl (Same.refl _ _) | exact hK _ _ (congrArg Value.bool qzero.out) (Same.refl _ _)
        · intro ac wc hs hd hz hf hw K hK
          have eg : ac.eval (.tmp 54) = .bool true := hw 27 rfl
          refine run_wanted (j := 27) (d := 54) (b := true) rfl rfl hz (of_decide_eq_true rfl) eg ?_
          have e1 : ac.eval (.tmp 56) = (.bool false) := hw 29 rfl
          clear eg
          clear hd hz hf hw
          simp only [ Oper.wp, execOp, resolve, List.map_toArray, List.map_cons, List.map_nil, Option.map_some, Option.map_none, e1]
          go_simp
          exact hK _ _ rfl (Same.refl _ _)
        · intro ac wc hs hd hz hf hw K hK
          have eg : ac.eval (.tmp 57) = .bool false := hw 30 rfl
          refine run_wanted (j := 30) (d := 57) (b := false) rfl rfl hz (of_decide_eq_true rfl) eg ?_
          have e1 : ac.eval (.tmp 5) = (.slice (some ⟨w1.heap.size, 0, none⟩) n n) := hf 5 rfl
          clear eg
          clear hd hz hf hw
          simp only [ Oper.wp, execOp, resolve, List.map_toArray, List.map_cons, List.map_nil, Option.map_some, Option.map_none, e1]
          go_simp
          exact hK _ _ rfl (Same.refl _ _)
        · intro ac wc hs hd hz hf hw K hK
          have eg : ac.eval (.tmp 57) = .bool false := hw 30 rfl
          refine run_wanted (j := 30) (d := 57) (b := false) rfl rfl hz (of_decide_eq_true rfl) eg ?_
          have e1 : ac.eval (.tmp 58) = (.slice (some ⟨w1.heap.size, 0, none⟩) n n) := hw 31 rfl
          clear eg
          clear hd hz hf hw
          simp only [ Oper.wp, execOp, resolve, List.map_toArray, List.map_cons, List.map_nil, Option.map_some, Option.map_none, e1]
          go_simp
          exact hK _ _ (bylZ (BZ.out _ hs)) ((Same.refl _ _).alloc _)
        · intro ac wc hs hd hz hf hw K hK
          have eg : ac.eval (.tmp 57) = .bool false := hw 30 rfl
          refine run_wanted (j := 30) (d := 57) (b := false) rfl rfl hz (of_decide_eq_true rfl) eg ?_
          have p0 : ByL wc (fun _ => True) (ac.eval (.tmp 59)) [Zs] := hw 32 rfl
          obtain ⟨u1, e1⟩ : ∃ u, ac.eval (.tmp 59) = u := ⟨_, rfl⟩
          rw [e1] at p0
          clear eg
          clear hd hz hf hw
          simp only [ Oper.wp, execOp, resolve, List.map_toArray, List.map_cons, List.map_nil, Option.map_some, Option.map_none, e1]
          go_simp
          refine (of_any _ [Zs] _ _ p0).mono ?_
          rintro e w' ⟨rfl, rfl⟩
          exact hK _ _ rfl (Same.refl _ _)
        · intro ac wc hs hd hz hf hw K hK
          have eg : ac.eval (.tmp 57) = .bool false := hw 30 rfl
          refine run_wanted (j := 30) (d := 57) (b := false) rfl rfl hz (of_decide_eq_true rfl) eg ?_
          have e1 : ac.eval (.tmp 5) = (.slice (some ⟨w1.heap.size, 0, none⟩) n n) := hf 5 rfl
          clear eg
          clear hd hz hf hw
          simp only [ Oper.wp, execOp, resolve, List.map_toArray, List.map_cons, List.map_nil, Option.map_some, Option.map_none, e1]
          go_simp
          exact hK _ _ rfl (Same.refl _ _)
        · intro ac wc hs hd hz hf hw K hK
          have eg : ac.eval (.tmp 57) = .bool false := hw 30 rfl
          refine run_wanted (j := 30) (d := 57) (b := false) rfl rfl hz (of_decide_eq_true rfl) eg ?_
          have e1 : ac.eval (.tmp 61) = (.slice (some ⟨w1.heap.size, 0, none⟩) n n) := hw 34 rfl
          clear eg
          clear hd hz hf hw
          simp only [ Oper.wp, execOp, resolve, List.map_toArray, List.map_cons, List.map_nil, Option.map_some, Option.map_none, e1]
          go_simp
          exact hK _ _ rfl (Same.refl _ _)
        · intro ac wc hs hd hz hf hw K hK
          have eg : ac.eval (.tmp 57) = .bool false := hw 30 rfl
          refine run_wanted (j := 30) (d := 57) (b := false) rfl rfl hz (of_decide_eq_true rfl) eg ?_
          have e1 : ac.eval (.tmp 62) = (.slice (if n = 1 then some ⟨w1.heap.size, 0, none⟩ else some ⟨w1.heap.size, 1, none⟩) (n - 1) (n - 1)) := hw 35 rfl
          clear eg
          clear hd hz hf hw
          simp only [ Oper.wp, execOp, resolve, List.map_toArray, List.map_cons, List.map_nil, Option.map_some, Option.map_none, e1]
          go_simp
          exact hK _ _ (bylZ1 (BZ1.out _ hs)) ((Same.refl _ _).alloc _)
        · intro ac wc hs hd hz hf hw K hK
          have eg : ac.eval (.tmp 57) = .bool false := hw 30 rfl
          refine run_wanted (j := 30) (d := 57) (b := false) rfl rfl hz (of_decide_eq_true rfl) eg ?_
          have p0 : ByL wc (fun _ => True) (ac.eval (.tmp 63)) [Zs.tail] := hw 36 rfl
          obtain ⟨u1, e1⟩ : ∃ u, ac.eval (.tmp 63) = u := ⟨_, rfl⟩
          rw [e1] at p0
          clear eg
          clear hd hz hf hw
          simp only [ Oper.wp, execOp, resolve, List.map_toArray, List.map_cons, List.map_nil, Option.map_some, Option.map_none, e1]
          go_simp
          refine (of_any _ [Zs.tail] _ _ p0).mono ?_
          rintro e w' ⟨rfl, rfl⟩
          exact hK _ _ rfl (Same.refl _ _)
        · intro ac wc hs hd hz hf hw K hK
          have eg : ac.eval (.tmp 57) = .bool false := hw 30 rfl
          refine run_wanted (j := 30) (d := 57) (b := false) rfl rfl hz (of_decide_eq_true rfl) eg ?_
          have e1 : ac.eval (.tmp 60) = (.int .u32 (n32 (ofF [Zs]))) := hw 33 rfl
          have e2 : ac.eval (.tmp 64) = (.int .u32 (n32 (ofF [Zs.tail]))) := hw 37 rfl
          clear eg
          clear hd hz hf hw
          simp only [ Oper.wp, execOp, resolve, List.map_toArray, List.map_cons, List.map_nil, Option.map_some, Option.map_none, e1, e2]
          go_simp
          first | exact hK _ _ rfl (Same.refl _ _) | exact hK _ _ (congrArg Value.bool q4.out) (Same.refl _ _)
        · intro ac wc hs hd hz hf hw K hK
          have eg : ac.eval (.tmp 54) = .bool true := hw 27 rfl
          refine run_wanted (j := 27) (d := 54) (b := true) rfl rfl hz (of_decide_eq_true rfl) eg ?_
          have e1 : ac.eval (.tmp 57) = (.bool false) := hw 30 rfl
          have e2 : ac.eval (.tmp 65) = (.bool true) := hw 38 rfl
          clear eg
          clear hd hz hf hw
          simp only [ Oper.wp, execOp, resolve, List.map_toArray, List.map_cons, List.map_nil, Option.map_some, Option.map_none, e1, e2]
          go_simp
          exact hK _ _ rfl (Same.refl _ _)
        · intro ac wc hs hd hz hf hw K hK
          have e0 : ac.eval (.tmp 54) = (.bool true) := hw 27 rfl
          have e1 : ac.eval (.tmp 66) = (.bool true) := hw 39 rfl
          clear hd hz hf hw
          simp only [Region.wanted, if_true,  Oper.wp, execOp, resolve, List.map_toArray, List.map_cons, List.map_nil, Option.map_some, Option.map_none, e0, e1]
          go_simp
          exact hK _ _ rfl (Same.refl _ _)
        · intro ac wc hs hd hz hf hw K hK
          have e0 : ac.eval (.tmp 67) = (.bool true) := hw 40 rfl
          clear hd hz hf hw
          simp only [Region.wanted, if_true,  Oper.wp, execOp, resolve, List.map_toArray, List.map_cons, List.map_nil, Option.map_some, Option.map_none, e0]
          go_simp
          exact hK _ _ rfl (Same.refl _ _)
        · intro ac wc hs hd hz hf hw K hK
          have eg : ac.eval (.tmp 68) = .bool true := hw 41 rfl
          refine run_wanted (j := 41) (d := 68) (b := true) rfl rfl hz (of_decide_eq_true rfl) eg ?_
          have e1 : ac.eval (.tmp 6) = (.int .u32 (n32 (ofF [Zs, bs]))) := hf 6 rfl
          clear eg
          clear hd hz hf hw
          simp only [ Oper.wp, execOp, resolve, List.map_toArray, List.map_cons, List.map_nil, Option.map_some, Option.map_none, e1]
          go_simp
          exact hK _ _ rfl (Same.refl _ _)
        · intro ac wc hs hd hz hf hw K hK
          have eg : ac.eval (.tmp 68) = .bool true := hw 41 rfl
          refine run_wanted (j := 41) (d := 68) (b := true) rfl rfl hz (of_decide_eq_true rfl) eg ?_
          have e1 : ac.eval (.tmp 5) = (.slice (some ⟨w1.heap.size, 0, none⟩) n n) := hf 5 rfl
          clear eg
          clear hd hz hf hw
          simp only [ Oper.wp, execOp, resolve, List.map_toArray, List.map_cons, List.map_nil, Option.map_some, Option.map_none, e1]
          go_simp
          exact hK _ _ rfl (Same.refl _ _)
        · intro ac wc hs hd hz hf hw K hK
          have eg : ac.eval (.tmp 68) = .bool true := hw 41 rfl
          refine run_wanted (j := 41) (d := 68) (b := true) rfl rfl hz (of_decide_eq_true rfl) eg ?_
          have e1 : ac.eval (.tmp 0) = (.slice A bs.length cap) := hf 0 rfl
          clear eg
          clear hd hz hf hw
          simp only [ Oper.wp, execOp, resolve, List.map_toArray, List.map_cons, List.map_nil, Option.map_some, Option.map_none, e1]
          go_simp
          exact hK _ _ rfl (Same.refl _ _)
        · intro ac wc hs hd hz hf hw K hK
          have eg : ac.eval (.tmp 68) = .bool true := hw 41 rfl
          refine run_wanted (j := 41) (d := 68) (b := true) rfl rfl hz (of_decide_eq_true rfl) eg ?_
          have e1 : ac.eval (.tmp 70) = (.slice (some ⟨w1.heap.size, 0, none⟩) n n) := hw 43 rfl
          have e2 : ac.eval (.tmp 71) = (.slice A bs.length cap) := hw 44 rfl
          clear eg
          clear hd hz hf hw
          simp only [ Oper.wp, execOp, resolve, List.map_toArray, List.map_cons, List.map_nil, Option.map_some, Option.map_none, e1, e2]
          go_simp
          exact hK _ _ (bylZB (BZ.out _ hs) (BB.out _ hs)) ((Same.refl _ _).alloc _)
        · intro ac wc hs hd hz hf hw K hK
          have eg : ac.eval (.tmp 68) = .bool true := hw 41 rfl
          refine run_wanted (j := 41) (d := 68) (b := true) rfl rfl hz (of_decide_eq_true rfl) eg ?_
          have p0 : ByL wc (fun _ => True) (ac.eval (.tmp 72)) [Zs, bs] := hw 45 rfl
          obtain ⟨u1, e1⟩ : ∃ u, ac.eval (.tmp 72) = u := ⟨_, rfl⟩
          rw [e1] at p0
          clear eg
          clear hd hz hf hw
          simp only [ Oper.wp, execOp, resolve, List.map_toArray, List.map_cons, List.map_nil, Option.map_some, Option.map_none, e1]
          go_simp
          refine (refof_any _ [Zs, bs] _ _ p0).mono ?_
          rintro e w' ⟨rfl, rfl⟩
          exact hK _ _ rfl (Same.refl _ _)
        · intro ac wc hs hd hz hf hw K hK
          have eg : ac.eval (.tmp 68) = .bool true := hw 41 rfl
          refine run_wanted (j := 41) (d := 68) (b := true) rfl rfl hz (of_decide_eq_true rfl) eg ?_
          have e1 : ac.eval (.tmp 69) = (.int .u32 (n32 (ofF [Zs, bs]))) := hw 42 rfl
          have e2 : ac.eval (.tmp 73) = (.int .u32 (n32 (ofF [Zs, bs]))) := hw 46 rfl
          clear eg
          clear hd hz hf hw
          simp only [ Oper.wp, execOp, resolve, List.map_toArray, List.map_cons, List.map_nil, Option.map_some, Option.map_none, e1, e2]
          go_simp
          exact hK _ _ rfl (Same.refl _ _)
        · intro ac wc hs hd hz hf hw K hK
          have e0 : ac.eval (.tmp 68) = (.bool true) := hw 41 rfl
          have e1 : ac.eval (.tmp 74) = (.bool true) := hw 47 rfl
          clear hd hz hf hw
          simp only [Region.wanted, if_true,  Oper.wp, execOp, resolve, List.map_toArray, List.map_cons, List.map_nil, Option.map_some, Option.map_none, e0, e1]
          go_simp
          exact hK _ _ rfl (Same.refl _ _)
        · intro ac wc hs hd hz hf hw K hK
          have e0 : ac.eval (.tmp 75) = (.bool true) := hw 48 rfl
          clear hd hz hf hw
          simp only [Region.wanted, if_true,  Oper.wp, execOp, resolve, List.map_toArray, List.map_cons, List.map_nil, Option.map_some, Option.map_none, e0]
          go_simp
          exact hK _ _ rfl (Same.refl _ _)
      · intro a' w' hs hd hz hf hw
        have e : a'.tmps.getD 4 undef = .bool true := hw 49 (by decide)
        have hd' : a'.defers = [] := hd
        show Exit.then _ _ .normal a' w'
        go_wp2
        refine bodyPost_ret (results_tmp rfl _ _ _) hd' ?_
        rw [e]
        exact ⟨rfl, ((H12.out.alloc _).alloc _).trans hs⟩
    · have qpos := Lib.hid (show decide ((0 : Int) < (n : Int)) = false by simp; omega)
      have qzero := Lib.hid (show ((n : Int) == 0) = true by simp; omega)
      have q3 := Lib.hid (show ofF [bs, Zs] = ofF [bs] by
        have : Zs = [] := List.eq_nil_of_length_eq_zero (by have := HZl.out; omega)
        rw [this]
        exact ofF_parts [bs, []] bs (by simp))
      go_wp2
      refine wp_region_rel_lit (L := [.eq (.int .u32 (n32 (ofF [Zs, bs]))), .eq (.slice (some ⟨w1.heap.size, 0, none⟩) n n), .byl (fun _ => True) [Zs], .eq (.int .u32 (n32 (ofF [Zs]))), .eq (.slice A bs.length cap), .eq (.int .u32 (n32 (moreF (ofF [Zs]) bs))), .eq (.bool true), .eq (.bool true), .eq (.int .u32 (n32 (ofF [bs, Zs]))), .eq (.slice A bs.length cap), .byl (fun _ => True) [bs], .eq (.int .u32 (n32 (ofF [bs]))), .eq (.slice (some ⟨w1.heap.size, 0, none⟩) n n), .eq (.int .u32 (n32 (moreF (ofF [bs]) Zs))), .eq (.bool true), .eq (.bool true), .eq (.bool true), .eq (.int .i64 n), .eq (.bool false), .eq (.bool false), .eq (.int .u32 (n32 (ofF [bs, Zs]))), .eq (.slice A bs.length cap), .byl (fun _ => True) [bs], .eq (.int .u32 (n32 (ofF [bs]))), .eq (.bool true), .eq (.bool true), .eq (.bool true), .eq (.bool true), .eq (.int .i64 n), .eq (.bool true), .eq (.bool true), .eq undef, .eq undef, .eq undef, .eq undef, .eq undef, .eq undef, .eq undef, .eq undef, .eq (.bool true), .eq (.bool true), .eq (.bool true), .eq (.int .u32 (n32 (ofF [Zs, bs]))), .eq (.slice (some ⟨w1.heap.size, 0, none⟩) n n), .eq (.slice A bs.length cap), .byl (fun _ => True) [Zs, bs], .eq (.int .u32 (n32 (ofF [Zs, bs]))), .eq (.bool true), .eq (.bool true), .eq (.bool true)]) (by kernel_rfl) (by kernel_rfl) rfl ?_ ?_
      · refine ⟨?_, ?_, ?_, ?_, ?_, ?_, ?_, ?_, ?_, ?_, ?_, ?_, ?_, ?_, ?_, ?_, ?_, ?_, ?_, ?_, ?_, ?_, ?_, ?_, ?_, ?_, ?_, ?_, ?_, ?_, ?_, ?_, ?_, ?_, ?_, ?_, ?_, ?_, ?_, ?_, ?_, ?_, ?_, ?_, ?_, ?_, ?_, ?_, ?_, ?_, trivial⟩
        · intro ac wc hs hd hz hf hw K hK
          have e0 : ac.eval (.tmp 6) = (.int .u32 (n32 (ofF [Zs, bs]))) := hf 6 rfl
          clear hd hz hf hw
          simp only [Region.wanted, if_true,  Oper.wp, execOp, resolve, List.map_toArray, List.map_cons, List.map_nil, Option.map_some, Option.map_none, e0]
          go_simp
          exact hK _ _ rfl (Same.refl _ _)
        · intro ac wc hs hd hz hf hw K hK
          have e0 : ac.eval (.tmp 5) = (.slice (some ⟨w1.heap.size, 0, none⟩) n n) := hf 5 rfl
          clear hd hz hf hw
          simp only [Region.wanted, if_true,  Oper.wp, execOp, resolve, List.map_toArray, List.map_cons, List.map_nil, Option.map_some, Option.map_none, e0]
          go_simp
          exact hK _ _ rfl (Same.refl _ _)
        · intro ac wc hs hd hz hf hw K hK
          have e0 : ac.eval (.tmp 28) = (.slice (some ⟨w1.heap.size, 0, none⟩) n n) := hw 1 rfl
          clear hd hz hf hw
          simp only [Region.wanted, if_true,  Oper.wp, execOp, resolve, List.map_toArray, List.map_cons, List.map_nil, Option.map_some, Option.map_none, e0]
          go_simp
          exact hK _ _ (bylZ (BZ.out _ hs)) ((Same.refl _ _).alloc _)
        · intro ac wc hs hd hz hf hw K hK
          have p0 : ByL wc (fun _ => True) (ac.eval (.tmp 29)) [Zs] := hw 2 rfl
          obtain ⟨u0, e0⟩ : ∃ u, ac.eval (.tmp 29) = u := ⟨_, rfl⟩
          rw [e0] at p0
          clear hd hz hf hw
          simp only [Region.wanted, if_true,  Oper.wp, execOp, resolve, List.map_toArray, List.map_cons, List.map_nil, Option.map_some, Option.map_none, e0]
          go_simp
          refine (of_any _ [Zs] _ _ p0).mono ?_
          rintro e w' ⟨rfl, rfl⟩
          exact hK _ _ rfl (Same.refl _ _)
        · intro ac wc hs hd hz hf hw K hK
          have e0 : ac.eval (.tmp 0) = (.slice A bs.length cap) := hf 0 rfl
          clear hd hz hf hw
          simp only [Region.wanted, if_true,  Oper.wp, execOp, resolve, List.map_toArray, List.map_cons, List.map_nil, Option.map_some, Option.map_none, e0]
          go_simp
          exact hK _ _ rfl (Same.refl _ _)
        · intro ac wc hs hd hz hf hw K hK
          have e0 : ac.eval (.tmp 30) = (.int .u32 (n32 (ofF [Zs]))) := hw 3 rfl
          have e1 : ac.eval (.tmp 31) = (.slice A bs.length cap) := hw 4 rfl
          clear hd hz hf hw
          simp only [Region.wanted, if_true,  Oper.wp, execOp, resolve, List.map_toArray, List.map_cons, List.map_nil, Option.map_some, Option.map_none, e0, e1]
          go_simp
          refine (more_any _ _ _ _ _ (BB.out _ hs)).mono ?_
          rintro e w' ⟨rfl, rfl⟩
          exact hK _ _ rfl (Same.refl _ _)
        · intro ac wc hs hd hz hf hw K hK
          have e0 : ac.eval (.tmp 27) = (.int .u32 (n32 (ofF [Zs, bs]))) := hw 0 rfl
          have e1 : ac.eval (.tmp 32) = (.int .u32 (n32 (moreF (ofF [Zs]) bs))) := hw 5 rfl
          clear hd hz hf hw
          simp only [Region.wanted, if_true,  Oper.wp, execOp, resolve, List.map_toArray, List.map_cons, List.map_nil, Option.map_some, Option.map_none, e0, e1]
          rw [q1.out]
          go_simp
          exact hK _ _ rfl (Same.refl _ _)
        · intro ac wc hs hd hz hf hw K hK
          have e0 : ac.eval (.tmp 33) = (.bool true) := hw 6 rfl
          clear hd hz hf hw
          simp only [Region.wanted, if_true,  Oper.wp, execOp, resolve, List.map_toArray, List.map_cons, List.map_nil, Option.map_some, Option.map_none, e0]
          go_simp
          exact hK _ _ rfl (Same.refl _ _)
        · intro ac wc hs hd hz hf hw K hK
          have eg : ac.eval (.tmp 34) = .bool true := hw 7 rfl
          refine run_wanted (j := 7) (d := 34) (b := true) rfl rfl hz (of_decide_eq_true rfl) eg ?_
          have e1 : ac.eval (.tmp 7) = (.int .u32 (n32 (ofF [bs, Zs]))) := hf 7 rfl
          clear eg
          clear hd hz hf hw
          simp only [ Oper.wp, execOp, resolve, List.map_toArray, List.map_cons, List.map_nil, Option.map_some, Option.map_none, e1]
          go_simp
          exact hK _ _ rfl (Same.refl _ _)
        · intro ac wc hs hd hz hf hw K hK
          have eg : ac.eval (.tmp 34) = .bool true := hw 7 rfl
          refine run_wanted (j := 7) (d := 34) (b := true) rfl rfl hz (of_decide_eq_true rfl) eg ?_
          have e1 : ac.eval (.tmp 0) = (.slice A bs.length cap) := hf 0 rfl
          clear eg
          clear hd hz hf hw
          simp only [ Oper.wp, execOp, resolve, List.map_toArray, List.map_cons, List.map_nil, Option.map_some, Option.map_none, e1]
          go_simp
          exact hK _ _ rfl (Same.refl _ _)
        · intro ac wc hs hd hz hf hw K hK
          have eg : ac.eval (.tmp 34) = .bool true := hw 7 rfl
          refine run_wanted (j := 7) (d := 34) (b := true) rfl rfl hz (of_decide_eq_true rfl) eg ?_
          have e1 : ac.eval (.tmp 36) = (.slice A bs.length cap) := hw 9 rfl
          clear eg
          clear hd hz hf hw
          simp only [ Oper.wp, execOp, resolve, List.map_toArray, List.map_cons, List.map_nil, Option.map_some, Option.map_none, e1]
          go_simp
          exact hK _ _ (bylB (BB.out _ hs)) ((Same.refl _ _).alloc _)
        · intro ac wc hs hd hz hf hw K hK
          have eg : ac.eval (.tmp 34) = .bool true := hw 7 rfl
          refine run_wanted (j := 7) (d := 34) (b := true) rfl rfl hz (of_decide_eq_true rfl) eg ?_
          have p0 : ByL wc (fun _ => True) (ac.eval (.tmp 37)) [bs] := hw 10 rfl
          obtain ⟨u1, e1⟩ : ∃ u, ac.eval (.tmp 37) = u := ⟨_, rfl⟩
          rw [e1] at p0
          clear eg
          clear hd hz hf hw
          simp only [ Oper.wp, execOp, resolve, List.map_toArray, List.map_cons, List.map_nil, Option.map_some, Option.map_none, e1]
          go_simp
          refine (of_any _ [bs] _ _ p0).mono ?_
          rintro e w' ⟨rfl, rfl⟩
          exact hK _ _ rfl (Same.refl _ _)
        · intro ac wc hs hd hz hf hw K hK
          have eg : ac.eval (.tmp 34) = .bool true := hw 7 rfl
          refine run_wanted (j := 7) (d := 34) (b := true) rfl rfl hz (of_decide_eq_true rfl) eg ?_
          have e1 : ac.eval (.tmp 5) = (.slice (some ⟨w1.heap.size, 0, none⟩) n n) := hf 5 rfl
          clear eg
          clear hd hz hf hw
          simp only [ Oper.wp, execOp, resolve, List.map_toArray, List.map_cons, List.map_nil, Option.map_some, Option.map_none, e1]
          go_simp
          exact hK _ _ rfl (Same.refl _ _)
        · intro ac wc hs hd hz hf hw K hK
          have eg : ac.eval (.tmp 34) = .bool true := hw 7 rfl
          refine run_wanted (j := 7) (d := 34) (b := true) rfl rfl hz (of_decide_eq_true rfl) eg ?_
          have e1 : ac.eval (.tmp 38) = (.int .u32 (n32 (ofF [bs]))) := hw 11 rfl
          have e2 : ac.eval (.tmp 39) = (.slice (some ⟨w1.heap.size, 0, none⟩) n n) := hw 12 rfl
          clear eg
          clear hd hz hf hw
          simp only [ Oper.wp, execOp, resolve, List.map_toArray, List.map_cons, List.map_nil, Option.map_some, Option.map_none, e1, e2]
          go_simp
          refine (more_any _ _ _ _ _ (BZ.out _ hs)).mono ?_
          rintro e w' ⟨rfl, rfl⟩
          exact hK _ _ rfl (Same.refl _ _)
        · intro ac wc hs hd hz hf hw K hK
          have eg : ac.eval (.tmp 34) = .bool true := hw 7 rfl
          refine run_wanted (j := 7) (d := 34) (b := true) rfl rfl hz (of_decide_eq_true rfl) eg ?_
          have e1 : ac.eval (.tmp 35) = (.int .u32 (n32 (ofF [bs, Zs]))) := hw 8 rfl
          have e2 : ac.eval (.tmp 40) = (.int .u32 (n32 (moreF (ofF [bs]) Zs))) := hw 13 rfl
          clear eg
          clear hd hz hf hw
          simp only [ Oper.wp, execOp, resolve, List.map_toArray, List.map_cons, List.map_nil, Option.map_some, Option.map_none, e1, e2]
          rw [q2.out]
          go_simp
          exact hK _ _ rfl (Same.refl _ _)
        · intro ac wc hs hd hz hf hw K hK
          have e0 : ac.eval (.tmp 34) = (.bool true) := hw 7 rfl
          have e1 : ac.eval (.tmp 41) = (.bool true) := hw 14 rfl
          clear hd hz hf hw
          simp only [Region.wanted, if_true,  Oper.wp, execOp, resolve, List.map_toArray, List.map_cons, List.map_nil, Option.map_some, Option.map_none, e0, e1]
          go_simp
          exact hK _ _ rfl (Same.refl _ _)
        · intro ac wc hs hd hz hf hw K hK
          have e0 : ac.eval (.tmp 42) = (.bool true) := hw 15 rfl
          clear hd hz hf hw
          simp only [Region.wanted, if_true,  Oper.wp, execOp, resolve, List.map_toArray, List.map_cons, List.map_nil, Option.map_some, Option.map_none, e0]
          go_simp
          exact hK _ _ rfl (Same.refl _ _)
        · intro ac wc hs hd hz hf hw K hK
          have eg : ac.eval (.tmp 43) = .bool true := hw 16 rfl
          refine run_wanted (j := 16) (d := 43) (b := true) rfl rfl hz (of_decide_eq_true rfl) eg ?_
          have e1 : ac.eval (.tmp 1) = (.int .i64 n) := hf 1 rfl
          clear eg
          clear hd hz hf hw
          simp only [ Oper.wp, execOp, resolve, List.map_toArray, List.map_cons, List.map_nil, Option.map_some, Option.map_none, e1]
          go_simp
          exact hK _ _ rfl (Same.refl _ _)
        · intro ac wc hs hd hz hf hw K hK
          have eg : ac.eval (.tmp 43) = .bool true := hw 16 rfl
          refine run_wanted (j := 16) (d := 43) (b := true) rfl rfl hz (of_decide_eq_true rfl) eg ?_
          have e1 : ac.eval (.tmp 44) = (.int .i64 n) := hw 17 rfl
          clear eg
          clear hd hz hf hw
          simp only [ Oper.wp, execOp, resolve, List.map_toArray, List.map_cons, List.map_nil, Option.map_some, Option.map_none, e1]
          go_simp
          first | exact hK _ _ rfl (Same.refl _ _) | exact hK _ _ (congrArg Value.bool qpos.out) (Same.refl _ _)
        · intro ac wc hs hd hz hf hw K hK
          have eg : ac.eval (.tmp 43) = .bool true := hw 16 rfl
          refine run_wanted (j := 16) (d := 43) (b := true) rfl rfl hz (of_decide_eq_true rfl) eg ?_
          have e1 : ac.eval (.tmp 45) = (.bool false) := hw 18 rfl
          clear eg
          clear hd hz hf hw
          simp only [ Oper.wp, execOp, resolve, List.map_toArray, List.map_cons, List.map_nil, Option.map_some, Option.map_none, e1]
          go_simp
          exact hK _ _ rfl (Same.refl _ _)
        · intro ac wc hs hd hz hf hw K hK
          have eg : ac.eval (.tmp 46) = .bool false := hw 19 rfl
          refine run_wanted (j := 19) (d := 46) (b := false) rfl rfl hz (of_decide_eq_true rfl) eg ?_
          have e1 : ac.eval (.tmp 7) = (.int .u32 (n32 (ofF [bs, Zs]))) := hf 7 rfl
          clear eg
          clear hd hz hf hw
          simp only [ Oper.wp, execOp, resolve, List.map_toArray, List.map_cons, List.map_nil, Option.map_some, Option.map_none, e1]
          go_simp
          exact hK _ _ rfl (Same.refl _ _)
        · intro ac wc hs hd hz hf hw K hK
          have eg : ac.eval (.tmp 46) = .bool false := hw 19 rfl
          refine run_wanted (j := 19) (d := 46) (b := false) rfl rfl hz (of_decide_eq_true rfl) eg ?_
          have e1 : ac.eval (.tmp 0) = (.slice A bs.length cap) := hf 0 rfl
          clear eg
          clear hd hz hf hw
          simp only [ Oper.wp, execOp, resolve, List.map_toArray, List.map_cons, List.map_nil, Option.map_some, Option.map_none, e1]
          go_simp
          exact hK _ _ rfl (Same.refl _ _)
        · intro ac wc hs hd hz hf hw K hK
          have eg : ac.eval (.tmp 46) = .bool false := hw 19 rfl
          refine run_wanted (j := 19) (d := 46) (b := false) rfl rfl hz (of_decide_eq_true rfl) eg ?_
          have e1 : ac.eval (.tmp 48) = (.slice A bs.length cap) := hw 21 rfl
          clear eg
          clear hd hz hf hw
          simp only [ Oper.wp, execOp, resolve, List.map_toArray, List.map_cons, List.map_nil, Option.map_some, Option.map_none, e1]
          go_simp
          exact hK _ _ (bylB (BB.out _ hs)) ((Same.refl _ _).alloc _)
        · intro ac wc hs hd hz hf hw K hK
          have eg : ac.eval (.tmp 46) = .bool false := hw 19 rfl
          refine run_wanted (j := 19) (d := 46) (b := false) rfl rfl hz (of_decide_eq_true rfl) eg ?_
          have p0 : ByL wc (fun _ => True) (ac.eval (.tmp 49)) [bs] := hw 22 rfl
          obtain ⟨u1, e1⟩ : ∃ u, ac.eval (.tmp 49) = u := ⟨_, rfl⟩
          rw [e1] at p0
          clear eg
          clear hd hz hf hw
          simp only [ Oper.wp, execOp, resolve, List.map_toArray, List.map_cons, List.map_nil, Option.map_some, Option.map_none, e1]
          go_simp
          refine (of_any _ [bs] _ _ p0).mono ?_
          rintro e w' ⟨rfl, rfl⟩
          exact hK _ _ rfl (Same.refl _ _)
        · intro ac wc hs hd hz hf hw K hK
          have eg : ac.eval (.tmp 46) = .bool false := hw 19 rfl
          refine run_wanted (j := 19) (d := 46) (b := false) rfl rfl hz (of_decide_eq_true rfl) eg ?_
          have e1 : ac.eval (.tmp 47) = (.int .u32 (n32 (ofF [bs, Zs]))) := hw 20 rfl
          have e2 : ac.eval (.tmp 50) = (.int .u32 (n32 (ofF [bs]))) := hw 23 rfl
          clear eg
          clear hd hz hf hw
          simp only [ Oper.wp, execOp, resolve, List.map_toArray, List.map_cons, List.map_nil, Option.map_some, Option.map_none, e1, e2]
          rw [q3.out]
          go_simp
          exact hK _ _ rfl (Same.refl _ _)
        · intro ac wc hs hd hz hf hw K hK
          have eg : ac.eval (.tmp 43) = .bool true := hw 16 rfl
          refine run_wanted (j := 16) (d := 43) (b := true) rfl rfl hz (of_decide_eq_true rfl) eg ?_
          have e1 : ac.eval (.tmp 46) = (.bool false) := hw 19 rfl
          have e2 : ac.eval (.tmp 51) = (.bool true) := hw 24 rfl
          clear eg
          clear hd hz hf hw
          simp only [ Oper.wp, execOp, resolve, List.map_toArray, List.map_cons, List.map_nil, Option.map_some, Option.map_none, e1, e2]
          go_simp
          exact hK _ _ rfl (Same.refl _ _)
        · intro ac wc hs hd hz hf hw K hK
          have e0 : ac.eval (.tmp 43) = (.bool true) := hw 16 rfl
          have e1 : ac.eval (.tmp 52) = (.bool true) := hw 25 rfl
          clear hd hz hf hw
          simp only [Region.wanted, if_true,  Oper.wp, execOp, resolve, List.map_toArray, List.map_cons, List.map_nil, Option.map_some, Option.map_none, e0, e1]
          go_simp
          exact hK _ _ rfl (Same.refl _ _)
        · intro ac wc hs hd hz hf hw K hK
          have e0 : ac.eval (.tmp 53) = (.bool true) := hw 26 rfl
          clear hd hz hf hw
          simp only [Region.wanted, if_true,  Oper.wp, execOp, resolve, List.map_toArray, List.map_cons, List.map_nil, Option.map_some, Option.map_none, e0]
          go_simp
          exact hK _ _ rfl (Same.refl _ _)
        · intro ac wc hs hd hz hf hw K hK
          have eg : ac.eval (.tmp 54) = .bool true := hw 27 rfl
          refine run_wanted (j := 27) (d := 54) (b := true) rfl rfl hz (of_decide_eq_true rfl) eg ?_
          have e1 : ac.eval (.tmp 1) = (.int .i64 n) := hf 1 rfl
          clear eg
          clear hd hz hf hw
          simp only [ Oper.wp, execOp, resolve, List.map_toArray, List.map_cons, List.map_nil, Option.map_some, Option.map_none, e1]
          go_simp
          exact hK _ _ rfl (Same.refl _ _)
        · intro ac wc hs hd hz hf hw K hK
          have eg : ac.eval (.tmp 54) = .bool true := hw 27 rfl
          refine run_wanted (j := 27) (d := 54) (b := true) rfl rfl hz (of_decide_eq_true rfl) eg ?_
          have e1 : ac.eval (.tmp 55) = (.int .i64 n) := hw 28 rfl
          clear eg
          clear hd hz hf hw
          simp only [ Oper.wp, execOp, resolve, List.map_toArray, List.map_cons, List.map_nil, Option.map_some, Option.map_none, e1]
          go_simp
          first | exact hK _ _ rfl (Same.refl _ _) | exact hK _ _ (congrArg Value.bool qzero.out) (Same.refl _ _)
        · intro ac wc hs hd hz hf hw K hK
          have eg : ac.eval (.tmp 54) = .bool true := hw 27 rfl
          refine run_wanted (j := 27) (d := 54) (b := true) rfl rfl hz (of_decide_eq_true rfl) eg ?_
          have e1 : ac.eval (.tmp 56) = (.bool true) := hw 29 rfl
          clear eg
          clear hd hz hf hw
          simp only [ Oper.wp, execOp, resolve, List.map_toArray, List.map_cons, List.map_nil, Option.map_some, Option.map_none, e1]
          go_simp
          exact hK _ _ rfl (Same.refl _ _)
        · intro ac wc hs hd hz hf hw K hK
          have eg : ac.eval (.tmp 57) = .bool true := hw 30 rfl
          refine skip_wanted (j := 30) (d := 57) (b := true) rfl rfl hz (of_decide_eq_true rfl) eg ?_
          clear eg
          clear hd hz hf hw
          exact hK _ _ rfl (Same.refl _ _)
        · intro ac wc hs hd hz hf hw K hK
          have eg : ac.eval (.tmp 57) = .bool true := hw 30 rfl
          refine skip_wanted (j := 30) (d := 57) (b := true) rfl rfl hz (of_decide_eq_true rfl) eg ?_
          clear eg
          clear hd hz hf hw
          exact hK _ _ rfl (Same.refl _ _)
        · intro ac wc hs hd hz hf hw K hK
          have eg : ac.eval (.tmp 57) = .bool true := hw 30 rfl
          refine skip_wanted (j := 30) (d := 57) (b := true) rfl rfl hz (of_decide_eq_true rfl) eg ?_
          clear eg
          clear hd hz hf hw
          exact hK _ _ rfl (Same.refl _ _)
        · intro ac wc hs hd hz hf hw K hK
          have eg : ac.eval (.tmp 57) = .bool true := hw 30 rfl
          refine skip_wanted (j := 30) (d := 57) (b := true) rfl rfl hz (of_decide_eq_true rfl) eg ?_
          clear eg
          clear hd hz hf hw
          exact hK _ _ rfl (Same.refl _ _)
        · intro ac wc hs hd hz hf hw K hK
          have eg : ac.eval (.tmp 57) = .bool true := hw 30 rfl
          refine skip_wanted (j := 30) (d := 57) (b := true) rfl rfl hz (of_decide_eq_true rfl) eg ?_
          clear eg
          clear hd hz hf hw
          exact hK _ _ rfl (Same.refl _ _)
        · intro ac wc hs hd hz hf hw K hK
          have eg : ac.eval (.tmp 57) = .bool true := hw 30 rfl
          refine skip_wanted (j := 30) (d := 57) (b := true) rfl rfl hz (of_decide_eq_true rfl) eg ?_
          clear eg
          clear hd hz hf hw
          exact hK _ _ rfl (Same.refl _ _)
        · intro ac wc hs hd hz hf hw K hK
          have eg : ac.eval (.tmp 57) = .bool true := hw 30 rfl
          refine skip_wanted (j := 30) (d := 57) (b := true) rfl rfl hz (of_decide_eq_true rfl) eg ?_
          clear eg
          clear hd hz hf hw
          exact hK _ _ rfl (Same.refl _ _)
        · intro ac wc hs hd hz hf hw K hK
          have eg : ac.eval (.tmp 57) = .bool true := hw 30 rfl
          refine skip_wanted (j := 30) (d := 57) (b := true) rfl rfl hz (of_decide_eq_true rfl) eg ?_
          clear eg
          clear hd hz hf hw
          exact hK _ _ rfl (Same.refl _ _)
        · intro ac wc hs hd hz hf hw K hK
          have eg : ac.eval (.tmp 54) = .bool true := hw 27 rfl
          refine run_wanted (j := 27) (d := 54) (b := true) rfl rfl hz (of_decide_eq_true rfl) eg ?_
          have e1 : ac.eval (.tmp 57) = (.bool true) := hw 30 rfl
          have e2 : ac.eval (.tmp 65) = undef := hw 38 rfl
          clear eg
          clear hd hz hf hw
          simp only [ Oper.wp, execOp, resolve, List.map_toArray, List.map_cons, List.map_nil, Option.map_some, Option.map_none, e1, e2]
          go_simp
          exact hK _ _ rfl (Same.refl _ _)
        · intro ac wc hs hd hz hf hw K hK
          have e0 : ac.eval (.tmp 54) = (.bool true) := hw 27 rfl
          have e1 : ac.eval (.tmp 66) = (.bool true) := hw 39 rfl
          clear hd hz hf hw
          simp only [Region.wanted, if_true,  Oper.wp, execOp, resolve, List.map_toArray, List.map_cons, List.map_nil, Option.map_some, Option.map_none, e0, e1]
          go_simp
          exact hK _ _ rfl (Same.refl _ _)
        · intro ac wc hs hd hz hf hw K hK
          have e0 : ac.eval (.tmp 67) = (.bool true) := hw 40 rfl
          clear hd hz hf hw
          simp only [Region.wanted, if_true,  Oper.wp, execOp, resolve, List.map_toArray, List.map_cons, List.map_nil, Option.map_some, Option.map_none, e0]
          go_simp
          exact hK _ _ rfl (Same.refl _ _)
        · intro ac wc hs hd hz hf hw K hK
          have eg : ac.eval (.tmp 68) = .bool true := hw 41 rfl
          refine run_wanted (j := 41) (d := 68) (b := true) rfl rfl hz (of_decide_eq_true rfl) eg ?_
          have e1 : ac.eval (.tmp 6) = (.int .u32 (n32 (ofF [Zs, bs]))) := hf 6 rfl
          clear eg
          clear hd hz hf hw
          simp only [ Oper.wp, execOp, resolve, List.map_toArray, List.map_cons, List.map_nil, Option.map_some, Option.map_none, e1]
          go_simp
          exact hK _ _ rfl (Same.refl _ _)
        · intro ac wc hs hd hz hf hw K hK
          have eg : ac.eval (.tmp 68) = .bool true := hw 41 rfl
          refine run_wanted (j := 41) (d := 68) (b := true) rfl rfl hz (of_decide_eq_true rfl) eg ?_
          have e1 : ac.eval (.tmp 5) = (.slice (some ⟨w1.heap.size, 0, none⟩) n n) := hf 5 rfl
          clear eg
          clear hd hz hf hw
          simp only [ Oper.wp, execOp, resolve, List.map_toArray, List.map_cons, List.map_nil, Option.map_some, Option.map_none, e1]
          go_simp
          exact hK _ _ rfl (Same.refl _ _)
        · intro ac wc hs hd hz hf hw K hK
          have eg : ac.eval (.tmp 68) = .bool true := hw 41 rfl
          refine run_wanted (j := 41) (d := 68) (b := true) rfl rfl hz (of_decide_eq_true rfl) eg ?_
          have e1 : ac.eval (.tmp 0) = (.slice A bs.length cap) := hf 0 rfl
          clear eg
          clear hd hz hf hw
          simp only [ Oper.wp, execOp, resolve, List.map_toArray, List.map_cons, List.map_nil, Option.map_some, Option.map_none, e1]
          go_simp
          exact hK _ _ rfl (Same.refl _ _)
        · intro ac wc hs hd hz hf hw K hK
          have eg : ac.eval (.tmp 68) = .bool true := hw 41 rfl
          refine run_wanted (j := 41) (d := 68) (b := true) rfl rfl hz (of_decide_eq_true rfl) eg ?_
          have e1 : ac.eval (.tmp 70) = (.slice (some ⟨w1.heap.size, 0, none⟩) n n) := hw 43 rfl
          have e2 : ac.eval (.tmp 71) = (.slice A bs.length cap) := hw 44 rfl
          clear eg
          clear hd hz hf hw
          simp only [ Oper.wp, execOp, resolve, List.map_toArray, List.map_cons, List.map_nil, Option.map_some, Option.map_none, e1, e2]
          go_simp
          exact hK _ _ (bylZB (BZ.out _ hs) (BB.out _ hs)) ((Same.refl _ _).alloc _)
        · intro ac wc hs hd hz hf hw K hK
          have eg : ac.eval (.tmp 68) = .bool true := hw 41 rfl
          refine run_wanted (j := 41) (d := 68) (b := true) rfl rfl hz (of_decide_eq_true rfl) eg ?_
          have p0 : ByL wc (fun _ => True) (ac.eval (.tmp 72)) [Zs, bs] := hw 45 rfl
          obtain ⟨u1, e1⟩ : ∃ u, ac.eval (.tmp 72) = u := ⟨_, rfl⟩
          rw [e1] at p0
          clear eg
          clear hd hz hf hw
          simp only [ Oper.wp, execOp, resolve, List.map_toArray, List.map_cons, List.map_nil, Option.map_some, Option.map_none, e1]
          go_simp
          refine (refof_any _ [Zs, bs] _ _ p0).mono ?_
          rintro e w' ⟨rfl, rfl⟩
          exact hK _ _ rfl (Same.refl _ _)
        · intro ac wc hs hd hz hf hw K hK
          have eg : ac.eval (.tmp 68) = .bool true := hw 41 rfl
          refine run_wanted (j := 41) (d := 68) (b := true) rfl rfl hz (of_decide_eq_true rfl) eg ?_
          have e1 : ac.eval (.tmp 69) = (.int .u32 (n32 (ofF [Zs, bs]))) := hw 42 rfl
          have e2 : ac.eval (.tmp 73) = (.int .u32 (n32 (ofF [Zs, bs]))) := hw 46 rfl
          clear eg
          clear hd hz hf hw
          simp only [ Oper.wp, execOp, resolve, List.map_toArray, List.map_cons, List.map_nil, Option.map_some, Option.map_none, e1, e2]
          go_simp
          exact hK _ _ rfl (Same.refl _ _)
        · intro ac wc hs hd hz hf hw K hK
          have e0 : ac.eval (.tmp 68) = (.bool true) := hw 41 rfl
          have e1 : ac.eval (.tmp 74) = (.bool true) := hw 47 rfl
          clear hd hz hf hw
          simp only [Region.wanted, if_true,  Oper.wp, execOp, resolve, List.map_toArray, List.map_cons, List.map_nil, Option.map_some, Option.map_none, e0, e1]
          go_simp
          exact hK _ _ rfl (Same.refl _ _)
        · intro ac wc hs hd hz hf hw K hK
          have e0 : ac.eval (.tmp 75) = (.bool true) := hw 48 rfl
          clear hd hz hf hw
          simp only [Region.wanted, if_true,  Oper.wp, execOp, resolve, List.map_toArray, List.map_cons, List.map_nil, Option.map_some, Option.map_none, e0]
          go_simp
          exact hK _ _ rfl (Same.refl _ _)
      · intro a' w' hs hd hz hf hw
        have e : a'.tmps.getD 4 undef = .bool true := hw 49 (by decide)
        have hd' : a'.defers = [] := hd
        show Exit.then _ _ .normal a' w'
        go_wp2
        refine bodyPost_ret (results_tmp rfl _ _ _) hd' ?_
        rw [e]
        exact ⟨rfl, ((H12.out.alloc _).alloc _).trans hs⟩

set_option maxRecDepth 100000 in
theorem sumOnward_law {H : Type} {enc : TypeId × Value → H} : LawWalk Try.prog 7 Try.f7 H enc := by
  intro W base args ds ps hval hA
  rw [Try.params7] at hval
  have hA : DataW.TrodAll enc Try.prog W 0 (fun _ => true) true [27, 3] args ds ps := hA
  obtain ⟨v0, vs0, d0, ds0, p0, q0, hargs, rfl, rfl, h0, r0⟩ := trodAll_cons hA
  obtain ⟨v1, vs1, d1, ds1, p1, q1, rfl, rfl, rfl, h1, r1⟩ := trodAll_cons r0
  obtain ⟨rfl, rfl, rfl⟩ := trodAll_nil r1
  subst hargs
  obtain ⟨x0, g0⟩ := open_bytes (hval 0 27 v0 rfl rfl) h0
  obtain ⟨x1, rfl, rfl, rfl, g1⟩ := open_int Try.underlying3 (hval 1 3 v1 rfl rfl) h1
  exact sumonward_walk _ x0 _ _ W g0 (i64_of_wf g1)
end Go.Proofs.Ytlnkhkkekfjebaa
