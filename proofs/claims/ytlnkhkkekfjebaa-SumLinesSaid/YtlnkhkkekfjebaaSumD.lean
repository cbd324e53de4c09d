/-
  SumLines: for every three texts, the sum of the three xored is theirs xored.
-/
import Derived.Test.YtlnkhkkekfjebaaSumC
import Derived.Test.YtlnkhkkekfjebaaReg
import Derived.StillTailTactics
namespace Go.Proofs.Ytlnkhkkekfjebaa
open Go.RowKit Go.ChangeShapes Go.WideShapes Go.ChangeAt

def xor3 (a b c : List UInt8) : List UInt8 := List.zipWith (fun x y => x ^^^ y) (List.zipWith (fun x y => x ^^^ y) a b) c

theorem min2_nat (k k' : IntKind) (x y : Nat) : Builtin.min2 (.int k (x : Int)) (.int k' (y : Int)) = pure (.int k ((min x y : Nat) : Int)) := by
  show pure (Value.int k (if (y : Int) < (x : Int) then (y : Int) else (x : Int))) = _
  rcases Nat.lt_or_ge y x with h | h
  · rw [if_pos (by omega), Nat.min_eq_right (by omega)]
  · rw [if_neg (by omega), Nat.min_eq_left (by omega)]
theorem run_min4 {P : Program} (ts : Array TypeId) (t : TypeId) (x y z u : Nat) (w : World) :
    (Builtin.min_ ts t #[.int .i64 (x : Int), .int .i64 (y : Int), .int .i64 (z : Int), .int .i64 (u : Int)]).run P w = .ok (.int .i64 ((min (min (min x y) z) u : Nat) : Int)) w := by
  simp only [Builtin.min_, List.foldlM, min2_nat, pure_bind]
  rfl

theorem by_one' {w : World} {S : Nat → Prop} {A : Option Addr} {c n : Nat} {bs : List UInt8} (h : By w S (.slice A n c) bs) (hn : bs.length = n) (hs : S w.heap.size) :
    ByL (w.alloc (.cells #[.slice A n c] 27)) S (.slice (some ⟨w.heap.size, 0, none⟩) 1 1) [bs] := by
  subst hn; exact by_one h hs
theorem byt_xor (c d : UInt32) (x y : UInt8) : byt (c ^^^ d) (x ^^^ y) = byt c x ^^^ byt d y := by
  unfold byt
  rw [← itS_xor]
  congr 1
  have : (x ^^^ y).toUInt32 = x.toUInt32 ^^^ y.toUInt32 := by simp
  rw [this, xor_ac]
theorem crc_xor : ∀ (a b : List UInt8) (c d : UInt32), a.length = b.length → crc (c ^^^ d) (List.zipWith (fun x y => x ^^^ y) a b) = crc c a ^^^ crc d b
  | [], [], _, _, _ => rfl
  | x :: a, y :: b, c, d, h => by
    show crc (byt (c ^^^ d) (x ^^^ y)) (List.zipWith (fun x y => x ^^^ y) a b) = crc (byt c x) a ^^^ crc (byt d y) b
    rw [byt_xor]
    exact crc_xor a b _ _ (by simpa using h)
  | [], _ :: _, _, _, h => by simp at h
  | _ :: _, [], _, _, h => by simp at h
theorem not_xor3 (a b c : UInt32) : ~~~ (a ^^^ b ^^^ c) = (~~~ a) ^^^ (~~~ b) ^^^ (~~~ c) := by
  have key : ∀ x : UInt32, ~~~ x = x ^^^ 4294967295 := fun x => by
    have := u32_not x
    have h : IntKind.u32.max = n32 4294967295 := by decide
    rw [h, u32_xor] at this
    have := n32_inj.1 this
    rw [← this]
    apply UInt32.toBitVec_inj.1
    simp only [UInt32.toBitVec_xor]
    ac_rfl
  rw [key, key a, key b, key c]
  have e : (a ^^^ 4294967295) ^^^ (b ^^^ 4294967295) ^^^ (c ^^^ 4294967295) = (a ^^^ b ^^^ c) ^^^ 4294967295 ^^^ (4294967295 ^^^ 4294967295) := by
    apply UInt32.toBitVec_inj.1
    simp only [UInt32.toBitVec_xor]
    ac_rfl
  rw [e, xor_self32, xor_zero32]
theorem sum3 (a b c X : List UInt8) (n : Nat) (hX : X = (xor3 a b c).take n) (ha : n ≤ a.length) (hb : n ≤ b.length) (hc : n ≤ c.length) :
    ofF [X] = ofF [a.take n] ^^^ ofF [b.take n] ^^^ ofF [c.take n] := by
  have e : X = List.zipWith (fun x y => x ^^^ y) (List.zipWith (fun x y => x ^^^ y) (a.take n) (b.take n)) (c.take n) := by
    rw [hX, xor3, List.take_zipWith, List.take_zipWith]
  simp only [ofF_one, moreF]
  rw [← not_xor3, e]
  congr 1
  have o3 : (~~~ (0 : UInt32)) = (~~~ (0 : UInt32) ^^^ ~~~ (0 : UInt32)) ^^^ ~~~ (0 : UInt32) := by decide
  conv => lhs; rw [o3]
  rw [crc_xor _ _ _ _ (by simp; omega), crc_xor _ _ _ _ (by simp; omega)]
theorem xor3_len (a b c : List UInt8) : (xor3 a b c).length = min (min a.length b.length) c.length := by simp [xor3]
theorem xor3_get (a b c : List UInt8) (k : Nat) (ha : k < a.length) (hb : k < b.length) (hc : k < c.length) : (xor3 a b c)[k]? = some (a[k] ^^^ b[k] ^^^ c[k]) := by
  simp [xor3, List.getElem?_zipWith, ha, hb, hc]
theorem xor3_set (a b c : List UInt8) (n k : Nat) (hk : k < n) (ha : n ≤ a.length) (hb : n ≤ b.length) (hc : n ≤ c.length) :
    (cs8 ((xor3 a b c).take k ++ List.replicate (n - k) 0)).set k (V8 (a[k] ^^^ b[k] ^^^ c[k])) = cs8 ((xor3 a b c).take (k + 1) ++ List.replicate (n - (k + 1)) 0) := by
  have hx := xor3_get a b c k (by omega) (by omega) (by omega)
  have hl : ((xor3 a b c).take k).length = k := by rw [List.length_take, xor3_len]; omega
  rw [List.take_add_one, hx, show n - k = (n - (k + 1)) + 1 from by omega, List.replicate_succ]
  simp only [cs8, List.map_append, List.map_cons, Option.toList_some, List.append_assoc, List.map_nil]
  rw [List.set_append_right _ _ (by simp; omega)]
  have : k - (List.map V8 ((xor3 a b c).take k)).length = 0 := by rw [List.length_map, hl]; omega
  rw [this]
  simp

set_option maxRecDepth 100000 in
set_option maxHeartbeats 1000000 in
theorem sumlines_walk (va vb vc : Value) (a b c : List UInt8) (S : Nat → Prop) (w : World) (ha : By w S va a) (hb : By w S vb b) (hc : By w S vc c) :
    Calls Try.prog 6 #[va, vb, vc] w (TrueP w) := by
  obtain ⟨A, ca, rfl, ha1, ha2, hsa⟩ := ha
  obtain ⟨B, cb, rfl, hb1, hb2, hsb⟩ := hb
  obtain ⟨C, cc, rfl, hc1, hc2, hsc⟩ := hc
  unfold maxLen at ha2 hb2 hc2
  obtain ⟨n, hn⟩ : ∃ n, n = min (min (min a.length b.length) c.length) 4096 := ⟨_, rfl⟩
  have hmin : ∀ w, (Builtin.min_ #[3, 3, 3, 3] 3 #[.int .i64 (a.length : Int), .int .i64 (b.length : Int), .int .i64 (c.length : Int), .int .i64 4096]).run Try.prog w = .ok (.int .i64 ((min (min (min a.length b.length) c.length) 4096 : Nat) : Int)) w := fun w => run_min4 (P := Try.prog) _ _ a.length b.length c.length 4096 w
  rw [← hn] at hmin
  have hna : n ≤ a.length := by omega
  have hnb : n ≤ b.length := by omega
  have hnc : n ≤ c.length := by omega
  have hn4 : n ≤ 4096 := by omega
  clear hn
  go_enter Try.func6, Try.ntmps6
  go_wp2_with (first | (go_at_call 26; refine (sumbegun_any _).mono ?_; rintro e w1 ⟨rfl, hs1⟩) | (at_make; refine stopAt ?_))
  unfold Hid
  refine wpList_mk T8 _ rfl _ _ rfl .i64 .i64 _ _ n rfl rfl rfl rfl (by omega) (by simp only [maxLen]; omega) ?_
  intro w2 hr2 hs2 hz2
  rw [made8] at hr2
  clear hmin
  go_wp2
  go_loopw [9] (fun i wr => ∃ k : Nat, k ≤ n ∧ i = .int .i64 k ∧ Row wr w1.heap.size 5 (cs8 ((xor3 a b c).take k ++ List.replicate (n - k) 0)) ∧ Same (fun _ => True) w1 wr) (fun i _ => n - (intOf i).toNat)
  case atStart => exact ⟨0, by omega, rfl, by simpa [cs8] using hr2, hs2⟩
  case round =>
    obtain ⟨k, hk, rfl, hr, hsm⟩ := hrel
    by_cases hlt : k < n
    · have h1w := hs1.trans hsm
      obtain ⟨ad, u, rfl, hS1, hu1, hcell1⟩ := (hsa.keep (h1w.mono fun _ _ _ => trivial)).at_ (show k < a.length by omega)
      obtain ⟨bd, u2, rfl, hS2, hu2, hcell2⟩ := (hsb.keep (h1w.mono fun _ _ _ => trivial)).at_ (show k < b.length by omega)
      obtain ⟨cd, u3, rfl, hS3, hu3, hcell3⟩ := (hsc.keep (h1w.mono fun _ _ _ => trivial)).at_ (show k < c.length by omega)
      simp [show k < a.length by omega] at hu1
      simp [show k < b.length by omega] at hu2
      simp [show k < c.length by omega] at hu3
      subst hu1 hu2 hu3
      obtain ⟨u, hu⟩ : ∃ u, (cs8 ((xor3 a b c).take k ++ List.replicate (n - k) 0))[k]? = some u := ⟨_, List.getElem?_eq_getElem (by simp [cs8, xor3]; omega)⟩
      have hcell := hr.cell k
      rw [hu] at hcell
      have hfr := hr.frozen k
      clear hu
      have k0 : (0 : Int) ≤ (k : Int) := by omega
      have ka : (k : Int) < (a.length : Int) := by omega
      have kb : (k : Int) < (b.length : Int) := by omega
      have kc : (k : Int) < (c.length : Int) := by omega
      have kn : (k : Int) < (n : Int) := by omega
      go_wp2
      go_still_tail 17, (by kernel_rfl)
      go_wp2
      go_roundw
      case rel =>
        refine ⟨k + 1, by omega, by go_num, ?_, (hsm.setCell (by simp) _).drew⟩
        rw [u8_xor, u8_xor]
        have := hr.set_ k (V8 (a[k] ^^^ b[k] ^^^ c[k]))
        rw [xor3_set a b c n k hlt hna hnb hnc] at this
        exact this
      case measure => simp [intOf]; omega
    · obtain rfl : k = n := by omega
      have h1w := hs1.trans hsm
      go_wp2
      obtain ⟨X, hX⟩ : ∃ X, X = (xor3 a b c).take k := ⟨_, rfl⟩
      have hXl : X.length = k := by rw [hX, List.length_take, xor3_len]; omega
      have hxs : Sl wr (fun _ => True) 1 (some ⟨w1.heap.size, 0, none⟩) k (cs8 X) := by
        have := hr.sl (size := 1) (off := 0) (n := k) (by simp only [cs8, List.length_map, List.length_append, List.length_replicate, ← hX, hXl]; omega)
        rw [Nat.sub_self, List.replicate_zero, List.append_nil, ← hX] at this
        have e : ((cs8 X).drop 0).take (k * 1) = cs8 X := by rw [List.drop_zero, Nat.mul_one, List.take_of_length_le]; simp [cs8]; omega
        rw [e] at this
        exact this.mono (S' := fun _ => True) (fun _ _ _ => trivial) (by omega)
      have tk : ∀ (l : List UInt8) (A : Option Addr), k ≤ l.length → Sl w S 1 A l.length (cs8 l) → Sl wr (fun _ => True) 1 A k (cs8 (l.take k)) := by
        intro l A hl h
        have := (h.keep (h1w.mono fun _ _ _ => trivial)).take (k := k) hl
        rw [Nat.mul_one] at this
        have e : (cs8 l).take k = cs8 (l.take k) := by simp [cs8]
        rw [e] at this
        exact this.mono (S' := fun _ => True) (fun _ _ _ => trivial) (by omega)
      have pa := tk a A hna hsa
      have pb := tk b B hnb hsb
      have pc := tk c C hnc hsc
      have la : (a.take k).length = k := by simp; omega
      have lb : (b.take k).length = k := by simp; omega
      have lc : (c.take k).length = k := by simp; omega
      have byX : ∀ w', Same (fun _ => True) wr w' → By w' (fun _ => True) (.slice (some ⟨w1.heap.size, 0, none⟩) k k) X := fun w' h => ⟨_, k, by rw [hXl], by omega, by simp only [maxLen]; omega, by rw [hXl]; exact hxs.keep h⟩
      have byA : ∀ w', Same (fun _ => True) wr w' → By w' (fun _ => True) (.slice A k ca) (a.take k) := fun w' h => ⟨_, ca, by rw [la], by omega, by simp only [maxLen]; omega, by rw [la]; exact pa.keep h⟩
      have byB : ∀ w', Same (fun _ => True) wr w' → By w' (fun _ => True) (.slice B k cb) (b.take k) := fun w' h => ⟨_, cb, by rw [lb], by omega, by simp only [maxLen]; omega, by rw [lb]; exact pb.keep h⟩
      have byC : ∀ w', Same (fun _ => True) wr w' → By w' (fun _ => True) (.slice C k cc) (c.take k) := fun w' h => ⟨_, cc, by rw [lc], by omega, by simp only [maxLen]; omega, by rw [lc]; exact pc.keep h⟩
      have kca : k ≤ ca := by omega
      have kcb : k ≤ cb := by omega
      have kcc : k ≤ cc := by omega
      have BX := Lib.hid byX
      have BA := Lib.hid byA
      have BB := Lib.hid byB
      have BC := Lib.hid byC
      clear byX byA byB byC pa pb pc tk hxs hsa hsb hsc hr
      have hfin := Lib.hid (sum3 a b c X k hX hna hnb hnc)
      have bylX : ∀ {w'}, By w' (fun _ => True) (.slice (some ⟨w1.heap.size, 0, none⟩) k k) X → ByL (w'.alloc (.cells #[.slice (some ⟨w1.heap.size, 0, none⟩) k k] 27)) (fun _ => True) (.slice (some ⟨w'.heap.size, 0, none⟩) 1 1) [X] := fun h => by_one' h hXl trivial
      have bylA : ∀ {w'}, By w' (fun _ => True) (.slice A k ca) (a.take k) → ByL (w'.alloc (.cells #[.slice A k ca] 27)) (fun _ => True) (.slice (some ⟨w'.heap.size, 0, none⟩) 1 1) [a.take k] := fun h => by_one' h la trivial
      have bylB : ∀ {w'}, By w' (fun _ => True) (.slice B k cb) (b.take k) → ByL (w'.alloc (.cells #[.slice B k cb] 27)) (fun _ => True) (.slice (some ⟨w'.heap.size, 0, none⟩) 1 1) [b.take k] := fun h => by_one' h lb trivial
      have bylC : ∀ {w'}, By w' (fun _ => True) (.slice C k cc) (c.take k) → ByL (w'.alloc (.cells #[.slice C k cc] 27)) (fun _ => True) (.slice (some ⟨w'.heap.size, 0, none⟩) 1 1) [c.take k] := fun h => by_one' h lc trivial
      have bylX := @bylX
      clear hX hXl la lb lc
      go_wp2
      refine wp_region_rel_lit (L := [.eq (.slice (some ⟨w1.heap.size, 0, none⟩) k k), .byl (fun _ => True) [X], .eq (.int .u32 (n32 (ofF [X]))), .eq (.slice A a.length ca), .eq (.int .i64 k), .eq (.slice A k ca), .byl (fun _ => True) [a.take k], .eq (.int .u32 (n32 (ofF [a.take k]))),
        .eq (.slice B b.length cb), .eq (.int .i64 k), .eq (.slice B k cb), .byl (fun _ => True) [b.take k], .eq (.int .u32 (n32 (ofF [b.take k]))), .eq (.int .u32 (n32 (ofF [a.take k] ^^^ ofF [b.take k]))),
        .eq (.slice C c.length cc), .eq (.int .i64 k), .eq (.slice C k cc), .byl (fun _ => True) [c.take k], .eq (.int .u32 (n32 (ofF [c.take k]))), .eq (.int .u32 (n32 (ofF [a.take k] ^^^ ofF [b.take k] ^^^ ofF [c.take k]))), .eq (.bool true), .eq (.bool true)]) (by kernel_rfl) (by kernel_rfl) rfl ?_ ?_
      · refine ⟨?_, ?_, ?_, ?_, ?_, ?_, ?_, ?_, ?_, ?_, ?_, ?_, ?_, ?_, ?_, ?_, ?_, ?_, ?_, ?_, ?_, ?_, trivial⟩
        · intro ac wc hs hd hz hf hw K hK
          have e0 : ac.eval (.tmp 8) = (.slice (some ⟨w1.heap.size, 0, none⟩) k k) := hf 8 rfl
          clear hd hz hf hw
          simp only [Region.wanted, if_true, Oper.wp, execOp, resolve, List.map_toArray, List.map_cons, List.map_nil, Option.map_some, Option.map_none, e0]
          go_simp
          exact hK _ _ rfl (Same.refl _ _)
        · intro ac wc hs hd hz hf hw K hK
          have e0 : ac.eval (.tmp 43) = (.slice (some ⟨w1.heap.size, 0, none⟩) k k) := hw 0 rfl
          clear hd hz hf hw
          simp only [Region.wanted, if_true, Oper.wp, execOp, resolve, List.map_toArray, List.map_cons, List.map_nil, Option.map_some, Option.map_none, e0]
          go_simp
          exact hK _ _ (bylX (BX.out _ hs)) ((Same.refl _ _).alloc _)
        · intro ac wc hs hd hz hf hw K hK
          have p0 : ByL wc (fun _ => True) (ac.eval (.tmp 44)) [X] := hw 1 rfl
          obtain ⟨u0, e0⟩ : ∃ u, ac.eval (.tmp 44) = u := ⟨_, rfl⟩
          rw [e0] at p0
          clear hd hz hf hw
          simp only [Region.wanted, if_true, Oper.wp, execOp, resolve, List.map_toArray, List.map_cons, List.map_nil, Option.map_some, Option.map_none, e0]
          go_simp
          refine (of_any _ [X] _ _ p0).mono ?_
          rintro e w' ⟨rfl, rfl⟩
          exact hK _ _ rfl (Same.refl _ _)
        · intro ac wc hs hd hz hf hw K hK
          have e0 : ac.eval (.tmp 0) = (.slice A a.length ca) := hf 0 rfl
          clear hd hz hf hw
          simp only [Region.wanted, if_true, Oper.wp, execOp, resolve, List.map_toArray, List.map_cons, List.map_nil, Option.map_some, Option.map_none, e0]
          go_simp
          exact hK _ _ rfl (Same.refl _ _)
        · intro ac wc hs hd hz hf hw K hK
          have e0 : ac.eval (.tmp 7) = (.int .i64 k) := hf 7 rfl
          clear hd hz hf hw
          simp only [Region.wanted, if_true, Oper.wp, execOp, resolve, List.map_toArray, List.map_cons, List.map_nil, Option.map_some, Option.map_none, e0]
          go_simp
          exact hK _ _ rfl (Same.refl _ _)
        · intro ac wc hs hd hz hf hw K hK
          have e0 : ac.eval (.tmp 46) = (.slice A a.length ca) := hw 3 rfl
          have e1 : ac.eval (.tmp 47) = (.int .i64 k) := hw 4 rfl
          clear hd hz hf hw
          simp only [Region.wanted, if_true, Oper.wp, execOp, resolve, List.map_toArray, List.map_cons, List.map_nil, Option.map_some, Option.map_none, e0, e1]
          go_simp
          exact hK _ _ rfl (Same.refl _ _)
        · intro ac wc hs hd hz hf hw K hK
          have e0 : ac.eval (.tmp 48) = (.slice A k ca) := hw 5 rfl
          clear hd hz hf hw
          simp only [Region.wanted, if_true, Oper.wp, execOp, resolve, List.map_toArray, List.map_cons, List.map_nil, Option.map_some, Option.map_none, e0]
          go_simp
          exact hK _ _ (bylA (BA.out _ hs)) ((Same.refl _ _).alloc _)
        · intro ac wc hs hd hz hf hw K hK
          have p0 : ByL wc (fun _ => True) (ac.eval (.tmp 49)) [a.take k] := hw 6 rfl
          obtain ⟨u0, e0⟩ : ∃ u, ac.eval (.tmp 49) = u := ⟨_, rfl⟩
          rw [e0] at p0
          clear hd hz hf hw
          simp only [Region.wanted, if_true, Oper.wp, execOp, resolve, List.map_toArray, List.map_cons, List.map_nil, Option.map_some, Option.map_none, e0]
          go_simp
          refine (of_any _ [a.take k] _ _ p0).mono ?_
          rintro e w' ⟨rfl, rfl⟩
          exact hK _ _ rfl (Same.refl _ _)
        · intro ac wc hs hd hz hf hw K hK
          have e0 : ac.eval (.tmp 1) = (.slice B b.length cb) := hf 1 rfl
          clear hd hz hf hw
          simp only [Region.wanted, if_true, Oper.wp, execOp, resolve, List.map_toArray, List.map_cons, List.map_nil, Option.map_some, Option.map_none, e0]
          go_simp
          exact hK _ _ rfl (Same.refl _ _)
        · intro ac wc hs hd hz hf hw K hK
          have e0 : ac.eval (.tmp 7) = (.int .i64 k) := hf 7 rfl
          clear hd hz hf hw
          simp only [Region.wanted, if_true, Oper.wp, execOp, resolve, List.map_toArray, List.map_cons, List.map_nil, Option.map_some, Option.map_none, e0]
          go_simp
          exact hK _ _ rfl (Same.refl _ _)
        · intro ac wc hs hd hz hf hw K hK
          have e0 : ac.eval (.tmp 51) = (.slice B b.length cb) := hw 8 rfl
          have e1 : ac.eval (.tmp 52) = (.int .i64 k) := hw 9 rfl
          clear hd hz hf hw
          simp only [Region.wanted, if_true, Oper.wp, execOp, resolve, List.map_toArray, List.map_cons, List.map_nil, Option.map_some, Option.map_none, e0, e1]
          go_simp
          exact hK _ _ rfl (Same.refl _ _)
        · intro ac wc hs hd hz hf hw K hK
          have e0 : ac.eval (.tmp 53) = (.slice B k cb) := hw 10 rfl
          clear hd hz hf hw
          simp only [Region.wanted, if_true, Oper.wp, execOp, resolve, List.map_toArray, List.map_cons, List.map_nil, Option.map_some, Option.map_none, e0]
          go_simp
          exact hK _ _ (bylB (BB.out _ hs)) ((Same.refl _ _).alloc _)
        · intro ac wc hs hd hz hf hw K hK
          have p0 : ByL wc (fun _ => True) (ac.eval (.tmp 54)) [b.take k] := hw 11 rfl
          obtain ⟨u0, e0⟩ : ∃ u, ac.eval (.tmp 54) = u := ⟨_, rfl⟩
          rw [e0] at p0
          clear hd hz hf hw
          simp only [Region.wanted, if_true, Oper.wp, execOp, resolve, List.map_toArray, List.map_cons, List.map_nil, Option.map_some, Option.map_none, e0]
          go_simp
          refine (of_any _ [b.take k] _ _ p0).mono ?_
          rintro e w' ⟨rfl, rfl⟩
          exact hK _ _ rfl (Same.refl _ _)
        · intro ac wc hs hd hz hf hw K hK
          have e0 : ac.eval (.tmp 50) = (.int .u32 (n32 (ofF [a.take k]))) := hw 7 rfl
          have e1 : ac.eval (.tmp 55) = (.int .u32 (n32 (ofF [b.take k]))) := hw 12 rfl
          clear hd hz hf hw
          simp only [Region.wanted, if_true, Oper.wp, execOp, resolve, List.map_toArray, List.map_cons, List.map_nil, Option.map_some, Option.map_none, e0, e1]
          go_simp
          exact hK _ _ rfl (Same.refl _ _)
        · intro ac wc hs hd hz hf hw K hK
          have e0 : ac.eval (.tmp 2) = (.slice C c.length cc) := hf 2 rfl
          clear hd hz hf hw
          simp only [Region.wanted, if_true, Oper.wp, execOp, resolve, List.map_toArray, List.map_cons, List.map_nil, Option.map_some, Option.map_none, e0]
          go_simp
          exact hK _ _ rfl (Same.refl _ _)
        · intro ac wc hs hd hz hf hw K hK
          have e0 : ac.eval (.tmp 7) = (.int .i64 k) := hf 7 rfl
          clear hd hz hf hw
          simp only [Region.wanted, if_true, Oper.wp, execOp, resolve, List.map_toArray, List.map_cons, List.map_nil, Option.map_some, Option.map_none, e0]
          go_simp
          exact hK _ _ rfl (Same.refl _ _)
        · intro ac wc hs hd hz hf hw K hK
          have e0 : ac.eval (.tmp 57) = (.slice C c.length cc) := hw 14 rfl
          have e1 : ac.eval (.tmp 58) = (.int .i64 k) := hw 15 rfl
          clear hd hz hf hw
          simp only [Region.wanted, if_true, Oper.wp, execOp, resolve, List.map_toArray, List.map_cons, List.map_nil, Option.map_some, Option.map_none, e0, e1]
          go_simp
          exact hK _ _ rfl (Same.refl _ _)
        · intro ac wc hs hd hz hf hw K hK
          have e0 : ac.eval (.tmp 59) = (.slice C k cc) := hw 16 rfl
          clear hd hz hf hw
          simp only [Region.wanted, if_true, Oper.wp, execOp, resolve, List.map_toArray, List.map_cons, List.map_nil, Option.map_some, Option.map_none, e0]
          go_simp
          exact hK _ _ (bylC (BC.out _ hs)) ((Same.refl _ _).alloc _)
        · intro ac wc hs hd hz hf hw K hK
          have p0 : ByL wc (fun _ => True) (ac.eval (.tmp 60)) [c.take k] := hw 17 rfl
          obtain ⟨u0, e0⟩ : ∃ u, ac.eval (.tmp 60) = u := ⟨_, rfl⟩
          rw [e0] at p0
          clear hd hz hf hw
          simp only [Region.wanted, if_true, Oper.wp, execOp, resolve, List.map_toArray, List.map_cons, List.map_nil, Option.map_some, Option.map_none, e0]
          go_simp
          refine (of_any _ [c.take k] _ _ p0).mono ?_
          rintro e w' ⟨rfl, rfl⟩
          exact hK _ _ rfl (Same.refl _ _)
        · intro ac wc hs hd hz hf hw K hK
          have e0 : ac.eval (.tmp 56) = (.int .u32 (n32 (ofF [a.take k] ^^^ ofF [b.take k]))) := hw 13 rfl
          have e1 : ac.eval (.tmp 61) = (.int .u32 (n32 (ofF [c.take k]))) := hw 18 rfl
          clear hd hz hf hw
          simp only [Region.wanted, if_true, Oper.wp, execOp, resolve, List.map_toArray, List.map_cons, List.map_nil, Option.map_some, Option.map_none, e0, e1]
          go_simp
          exact hK _ _ rfl (Same.refl _ _)
        · intro ac wc hs hd hz hf hw K hK
          have e0 : ac.eval (.tmp 45) = (.int .u32 (n32 (ofF [X]))) := hw 2 rfl
          have e1 : ac.eval (.tmp 62) = (.int .u32 (n32 (ofF [a.take k] ^^^ ofF [b.take k] ^^^ ofF [c.take k]))) := hw 19 rfl
          clear hd hz hf hw
          simp only [Region.wanted, if_true, Oper.wp, execOp, resolve, List.map_toArray, List.map_cons, List.map_nil, Option.map_some, Option.map_none, e0, e1]
          rw [hfin.out]
          go_simp
          exact hK _ _ rfl (Same.refl _ _)
        · intro ac wc hs hd hz hf hw K hK
          have e0 : ac.eval (.tmp 63) = (.bool true) := hw 20 rfl
          clear hd hz hf hw
          simp only [Region.wanted, if_true, Oper.wp, execOp, resolve, List.map_toArray, List.map_cons, List.map_nil, Option.map_some, Option.map_none, e0]
          go_simp
          exact hK _ _ rfl (Same.refl _ _)
      · intro a' w' hs hd hz hf hw
        have e : a'.tmps.getD 6 undef = .bool true := hw 21 (by decide)
        have hd' : a'.defers = [] := hd
        show Exit.then _ _ .normal a' w'
        go_wp2
        refine bodyPost_ret (results_tmp rfl _ _ _) hd' ?_
        rw [e]
        exact ⟨rfl, h1w.trans hs⟩

set_option maxRecDepth 100000 in
theorem sumLines_law {H : Type} {enc : TypeId × Value → H} : LawWalk Try.prog 6 Try.f6 H enc := by
  intro W base args ds ps hval hA
  rw [Try.params6] at hval
  have hA : DataW.TrodAll enc Try.prog W 0 (fun _ => true) true [27, 27, 27] args ds ps := hA
  obtain ⟨v0, vs0, d0, ds0, p0, q0, hargs, rfl, rfl, h0, r0⟩ := trodAll_cons hA
  obtain ⟨v1, vs1, d1, ds1, p1, q1, rfl, rfl, rfl, h1, r1⟩ := trodAll_cons r0
  obtain ⟨v2, vs2, d2, ds2, p2, q2, rfl, rfl, rfl, h2, r2⟩ := trodAll_cons r1
  obtain ⟨rfl, rfl, rfl⟩ := trodAll_nil r2
  subst hargs
  obtain ⟨x0, g0⟩ := open_bytes (hval 0 27 v0 rfl rfl) h0
  obtain ⟨x1, g1⟩ := open_bytes (hval 1 27 v1 rfl rfl) h1
  obtain ⟨x2, g2⟩ := open_bytes (hval 2 27 v2 rfl rfl) h2
  exact sumlines_walk _ _ _ x0 x1 x2 _ W g0 g1 g2
end Go.Proofs.Ytlnkhkkekfjebaa
