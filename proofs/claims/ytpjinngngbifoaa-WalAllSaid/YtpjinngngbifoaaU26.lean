/-
  Words, plain models, laws and walks that the claims of this layer share (joined by shake.py). No condition.
-/
import Derived.Test.YtpjinngngbifoaaU1
import Derived.Test.YtpjinngngbifoaaU2
import Derived.Test.YtpjinngngbifoaaU3
import Derived.Test.YtpjinngngbifoaaU4
import Derived.Test.YtpjinngngbifoaaU5
import Derived.Test.YtpjinngngbifoaaU6
import Derived.Test.YtpjinngngbifoaaU7
import Derived.Test.YtpjinngngbifoaaU8
import Derived.Test.YtpjinngngbifoaaU9
import Derived.Test.YtpjinngngbifoaaU10
import Derived.Test.YtpjinngngbifoaaU11
import Derived.Test.YtpjinngngbifoaaU12
import Derived.Test.YtpjinngngbifoaaU13
import Derived.Test.YtpjinngngbifoaaU14
import Derived.Test.YtpjinngngbifoaaU15
import Derived.Test.YtpjinngngbifoaaU16
import Derived.Test.YtpjinngngbifoaaU17
import Derived.Test.YtpjinngngbifoaaU18
import Derived.Test.YtpjinngngbifoaaU19
import Derived.Test.YtpjinngngbifoaaU20
import Derived.Test.YtpjinngngbifoaaU21
import Derived.Test.YtpjinngngbifoaaU22
import Derived.Test.YtpjinngngbifoaaU23
import Derived.Test.YtpjinngngbifoaaU24
import Derived.Test.YtpjinngngbifoaaU25
set_option linter.unusedSimpArgs false
set_option linter.unusedVariables false
namespace Go.Proofs.Ytpjinngngbifoaa
open Go.RowKit
theorem rlook_results {W : World} {k : Nat} {n2 : Int} {A3 : Option Addr} {n3 c3 : Nat} {b0 b1 : Bool} (R : Row W k 114 [.bool b0, .bool b1, .int .u64 n2, .slice A3 n3 c3]) {tmps : Array Value}
    (h2 : tmps.getD 2 undef = ptr k) : (results Try.f69 tmps).run Try.prog W = .ok (.agg #[.bool b0, .bool b1, .int .u64 n2, .slice A3 n3 c3]) W := by
  have d0 : W.cell? ⟨k, 0, none⟩ = some (.bool b0) := R.cell 0
  have d1 : W.cell? ⟨k, 1, none⟩ = some (.bool b1) := R.cell 1
  have d2 : W.cell? ⟨k, 2, none⟩ = some (.int .u64 n2) := R.cell 2
  have d3 : W.cell? ⟨k, 3, none⟩ = some (.slice A3 n3 c3) := R.cell 3
  simp at h2
  simp [results, Try.results69, h2, go_sem, d0, d1, d2, d3]
/-- What look's loop holds: f's cells, the records so far. -/
def RLIn (w1 : World) (gn : Nat) (z : Bool) (acc : List (List UInt8)) (wr : World) : Prop :=
  ∃ A c, Row wr w1.heap.size 114 [.bool z, .bool false, .int .u64 gn, .slice A acc.length c] ∧ OwnS wr (w1.heap.size + 1) (.slice A acc.length c) acc ∧ Same (fun k => k < w1.heap.size) w1 wr
theorem RLIn.start (w1 : World) (gn : Nat) : RLIn w1 gn false [] (w1.alloc (.cells #[.bool false, .bool false, .int .u64 gn, .slice none 0 0] 114)) :=
  ⟨none, 0, Row.new w1 114 [.bool false, .bool false, .int .u64 gn, .slice none 0 0], OwnS.nil _ _, (Same.refl _ _).alloc _⟩
theorem rl_own {w w1 wr W : World} {acc : List (List UInt8)} {A : Option Addr} {c : Nat} (hown : OwnS wr (w1.heap.size + 1) (.slice A acc.length c) acc) (h1 : w.heap.size < w1.heap.size) (hs : Same (fun k => k ≠ w.heap.size ∧ k ≠ w1.heap.size) wr W) : OwnS W w.heap.size (.slice A acc.length c) acc :=
  own_lower (own_keep hown hs fun k hk => by have := own_ge hown hk.symm; exact ⟨by omega, by omega⟩) (by omega)
theorem RLIn.mark {w1 wr : World} {gn : Nat} {z : Bool} {acc : List (List UInt8)} (h : RLIn w1 gn z acc wr) : RLIn w1 gn true acc (wr.setCell ⟨w1.heap.size, 0, none⟩ (.bool true)) := by
  obtain ⟨A, c, h1, h2, h3⟩ := h
  have hs : Same (fun q => q ≠ w1.heap.size) wr (wr.setCell ⟨w1.heap.size, 0, none⟩ (.bool true)) := (Same.refl _ _).setCell (fun _ h => h rfl) _
  exact ⟨A, c, h1.set_ 0 _, own_keep h2 hs fun k hk => by have := own_ge h2 hk.symm; omega, h3.trans (hs.mono fun k _ hk => by omega)⟩
/-- One record more. -/
theorem RLIn.app {w1 wr wR w3 : World} {gn : Nat} {z : Bool} {acc : List (List UInt8)} {A : Option Addr} {c : Nat} {v3 : Value} {x : List UInt8}
    (hrx : Row wr w1.heap.size 114 [.bool z, .bool false, .int .u64 gn, .slice A acc.length c]) (hown : OwnS wr (w1.heap.size + 1) (.slice A acc.length c) acc) (hsx : Same (fun k => k < w1.heap.size) w1 wr) (hsR : Same (fun _ => True) wr wR)
    (hown3 : w3.ownsRow (w1.heap.size + 1) 9 1 v3 (acc.length + 1) (acc.map strV ++ [strV x])) (hs3 : Same (fun k => some k ≠ (Value.slice A acc.length c).ownBlock) wR w3) :
    RLIn w1 gn z (acc ++ [x]) (w3.setCell ⟨w1.heap.size, 3, none⟩ v3) := by
  obtain ⟨A3, c3, rfl, h4, h5⟩ := own_cap hown3
  have hge : ∀ k, some k = (Value.slice A acc.length c).ownBlock → w1.heap.size + 1 ≤ k := fun k hk => own_ge hown hk
  have hS3 : Same (fun q => q ≠ w1.heap.size) w3 (w3.setCell ⟨w1.heap.size, 3, none⟩ (.slice A3 (acc.length + 1) c3)) := (Same.refl _ _).setCell (fun _ h => h rfl) _
  have hb : Same (fun q => q < w1.heap.size) wr (w3.setCell ⟨w1.heap.size, 3, none⟩ (.slice A3 (acc.length + 1) c3)) :=
    ((hsR.mono fun _ _ _ => trivial).trans (hs3.mono fun k _ hk e => by have := hge k e; omega)).trans (hS3.mono fun k _ hk => by omega)
  have hlen : (acc ++ [x]).length = acc.length + 1 := by simp
  refine ⟨A3, c3, ?_, ?_, hsx.trans hb⟩
  · rw [hlen]
    exact ((hrx.keep hsR trivial).keep hs3 (fun e => by have := hge _ e; omega)).set_ 3 _
  · unfold OwnS
    rw [hlen, List.map_append]
    exact own_keep hown3 hS3 fun k hk => by have := own_ge hown3 hk.symm; omega
def RLookPost (b : List UInt8) (w : World) (e : Ending) (w' : World) : Prop :=
  ∃ (g : Nat) (A : Option Addr) (k c : Nat) (sp ok : Bool) (m : Option LookM), e = .returned (.agg #[.bool ok, .bool sp, .int .u64 g, .slice A k c]) ∧ LookF b m ∧ Same (fun _ => True) w w' ∧
    match m with
    | none => ok = false
    | some m => ok = true ∧ g = m.gen ∧ sp = m.spoil ∧ k = m.recs.length ∧ OwnS w' w.heap.size (.slice A k c) m.recs
/-- A return ahead of the loop. -/
theorem rlook_no {w w1 : World} {g0 : Int} {o : Obj} (HR2 : Row w1 w.heap.size 114 [.bool false, .bool false, .int .u64 0, .slice none 0 0]) (HS1 : Same (fun _ => True) w w1) :
    Row (((((w1.setCell ⟨w.heap.size, 0, none⟩ (.bool false)).setCell ⟨w.heap.size, 1, none⟩ (.bool false)).setCell ⟨w.heap.size, 2, none⟩ (.int .u64 g0)).setCell ⟨w.heap.size, 3, none⟩ (.slice none 0 0)).alloc o) w.heap.size 114 [.bool false, .bool false, .int .u64 g0, .slice none 0 0] ∧
    Same (fun _ => True) w (((((w1.setCell ⟨w.heap.size, 0, none⟩ (.bool false)).setCell ⟨w.heap.size, 1, none⟩ (.bool false)).setCell ⟨w.heap.size, 2, none⟩ (.int .u64 g0)).setCell ⟨w.heap.size, 3, none⟩ (.slice none 0 0)).alloc o) := by
  obtain ⟨h1, h2⟩ := row4 (.bool false) (.bool false) (.int .u64 g0) (.slice none 0 0) HR2 HS1 (Nat.le_refl _)
  exact ⟨h1.keep ((Same.refl (fun _ => True) _).alloc o) trivial, h2.alloc o⟩
set_option maxRecDepth 100000 in
set_option maxHeartbeats 2000000 in
theorem rlook_any (b : List UInt8) (w : World) (hb : b.length ≤ 1000000) :
    Calls Try.prog 69 #[.string (str b)] w (RLookPost b w) := by
  have hbs : (str b).size = b.length := str_size _
  go_enter Try.func69, Try.ntmps69
  go_wp2_with (with_reducible refine stopConv rfl ?_)
  unfold Hid
  have hs1 : Same (fun _ => True) w (w.alloc (.cells #[.bool false, .bool false, .int .u64 0, .slice none 0 0] 114)) := (Same.refl _ _).alloc _
  refine wpList_bytes rfl rfl Try.underlying9 Try.underlying24 Try.underlying5 (str b) rfl (by rw [hbs]; simp only [maxLen]; omega) ?_
  intro w0 cc q more hrow hq hc hm hS2 hsz
  rw [hbs] at hq hc ⊢
  have hby := hrow.by_ (bl_len (str b)) (by rw [hbs]; exact hc) hm
  rw [bl_str, hbs, size_alloc1] at hby
  have hfs := rfscan_any _ b _ w0 hby hb
  have hs0 : Same (fun _ => True) w w0 := hs1.trans hS2
  have hr0 : Row w0 w.heap.size 114 [.bool false, .bool false, .int .u64 0, .slice none 0 0] := (Row.new w _ _).keep hS2 trivial
  have hz0 : w.heap.size < w0.heap.size := hr0.lt
  clear hby hrow hS2 hs1 hsz hq hc hm
  go_wp2_with (go_at_call 11; refine stopAt ?_)
  unfold Hid
  refine hfs.mono ?_
  rintro e w1 ⟨u, l, a, rfl, hsc, hrec, hs2⟩
  have r2 := hr0.keep hs2 trivial
  have hz1 := hs2.size
  have hlt1 : w.heap.size < w1.heap.size := by omega
  have hl := hrec.list
  have HSC := Lib.hid hsc
  have HR2 := Lib.hid r2
  have HS1 := Lib.hid (hs0.trans hs2)
  clear hs0 hs2 hrec hsc r2 hfs hr0
  obtain ⟨LA, lc, vs, rfl, hlc, hmc, hsl, hel⟩ := hl
  have HSL := Lib.hid hsl
  have HEL := Lib.hid hel
  clear hsl hel
  have hal := HSC.out.1.le
  have hml : lc ≤ maxLen := hmc
  unfold maxLen at hmc
  have hA1 : Hid (Same (fun _ => True) w1 (w1.alloc (.cells #[.bool false, .bool false, .int .u64 0, .slice none 0 0] 114))) := Lib.hid ((Same.refl _ _).alloc _)
  rcases l with _ | ⟨h, t⟩
  · have c0 := HR2.out.cell 0
    have c1 := HR2.out.cell 1
    have c2 := HR2.out.cell 2
    have c3 := HR2.out.cell 3
    have z0 := HR2.out.frozen 0
    have z1 := HR2.out.frozen 1
    have z2 := HR2.out.frozen 2
    have z3 := HR2.out.frozen 3
    simp at c0 c1 c2 c3
    go_wp2
    obtain ⟨R, hfin⟩ := rlook_no (g0 := 0) (o := .cells #[.bool false, .bool false, .int .u64 0, .slice none 0 0] 114) HR2.out HS1.out
    refine bodyPost_ret (rlook_results R rfl) rfl ⟨0, none, 0, 0, false, false, none, rfl, ⟨_, a, HSC.out, rfl⟩, hfin, rfl⟩
  · obtain ⟨ad, u0, rfl, hb0, hu0, hc0⟩ := HSL.out.at_ (k := 0) (by simp)
    have hh := HEL.out 0 u0 h hu0 rfl
    obtain ⟨A0, n0, rfl, hn0, hm0, hs0⟩ := id hh
    have c0 := HR2.out.cell 0
    have c1 := HR2.out.cell 1
    have c2 := HR2.out.cell 2
    have c3 := HR2.out.cell 3
    have z0 := HR2.out.frozen 0
    have z1 := HR2.out.frozen 1
    have z2 := HR2.out.frozen 2
    have z3 := HR2.out.frozen 3
    simp at c0 c1 c2 c3
    have HS0 := Lib.hid hs0
    have HH := Lib.hid hh
    clear hs0 hh hu0
    have hc0 : w1.cell? ad = some (.slice A0 h.length n0) := by simpa [Addr.add] using hc0
    have hab := World.block_lt_of_cell? w1 ad hc0
    obtain ⟨N, hN⟩ : ∃ N, N = (h :: t).length := ⟨_, rfl⟩
    rw [← hN]
    have hN1 : 1 ≤ N := by rw [hN]; simp
    have hNp : 0 < N := hN1
    have hNc : N ≤ lc := by rw [hN]; exact hlc
    have HN := Lib.hid hN
    have hN0 : ((N : Int) == 0) = false := by simp; omega
    obtain ⟨M, hM⟩ : ∃ M, M = h.length := ⟨_, rfl⟩
    have HM := Lib.hid hM
    rw [← hM] at hc0
    clear hN hM hlc hn0
    by_cases h9 : M = 9
    case neg =>
      go_wp2
      obtain ⟨R, hfin⟩ := rlook_no (g0 := 0) (o := .cells #[.bool false, .bool false, .int .u64 0, .slice none 0 0] 114) HR2.out HS1.out
      refine bodyPost_ret (rlook_results R rfl) rfl ⟨0, none, 0, 0, false, false, none, rfl, ⟨_, a, HSC.out, ?_⟩, hfin, rfl⟩
      simp only [lookL]
      rw [if_pos (Or.inl (by rw [← HM.out]; exact h9))]
    subst h9
    have hbd := HS0.out.at_ (k := 0) (by have := HM.out; omega)
    obtain ⟨ad2, u2, rfl, -, hu2, hc2⟩ := hbd
    obtain ⟨x, h', hx'⟩ : ∃ x h', h = x :: h' := by cases h with | nil => have := HM.out; simp at this | cons x h' => exact ⟨x, h', rfl⟩
    have hu2 : u2 = V8 x := by rw [hx'] at hu2; simpa using hu2.symm
    have HX' := Lib.hid hx'
    subst hu2
    have hc2 : w1.cell? ad2 = some (V8 x) := by simpa [Addr.add] using hc2
    have hab2 := World.block_lt_of_cell? w1 ad2 hc2
    clear hx'
    by_cases hx : x = 71
    case neg =>
      have hxn : n8 x ≠ 71 := fun e => hx (n8_inj.1 e)
      have hxb : (n8 x != 71) = true := by simpa using hxn
      go_wp2
      obtain ⟨R, hfin⟩ := rlook_no (g0 := 0) (o := .cells #[.bool false, .bool false, .int .u64 0, .slice none 0 0] 114) HR2.out HS1.out
      refine bodyPost_ret (rlook_results R rfl) rfl ⟨0, none, 0, 0, false, false, none, rfl, ⟨_, a, HSC.out, ?_⟩, hfin, rfl⟩
      simp only [lookL]
      rw [if_pos (Or.inr (by rw [HX'.out]; simpa using hx))]
    have hxn : n8 x = 71 := by rw [hx]; rfl
    have hxb : (n8 x != 71) = false := by simp [hxn]
    go_wp2_with (go_at_call 61; refine stopAt ?_)
    unfold Hid
    have hg := refget_any _ h 1 8 _ _ (HH.out.keepAll hA1.out) (by omega) (by have := HM.out; omega)
    rw [← HM.out] at hg
    refine hg.mono ?_
    rintro e w2 ⟨rfl, rfl⟩
    obtain ⟨gn, hgn⟩ : ∃ gn, gn = getN ((h.drop 1).take 8) := ⟨_, rfl⟩
    rw [← hgn]
    have hg8 : (h.drop 1).take 8 = h.drop 1 := List.take_of_length_le (by rw [List.length_drop, ← HM.out]; omega)
    rw [hg8] at hgn
    have HLK : Hid (lookL (h :: t) (decide (a < b.length)) = if gn = 0 ∨ 4611686018427387904 ≤ gn then none else (walkL t false []).map fun x => ⟨gn, x.1, decide (a < b.length) || x.2⟩) := Lib.hid (by
      simp only [lookL]
      rw [if_neg (by rw [← HM.out, HX'.out, hx]; simp), ← hgn])
    have HG := Lib.hid hgn
    have hst := Lib.hid (RLIn.start w1 gn)
    clear hgn hg hg8
    by_cases hg0 : (gn : Int) < 1
    · have hgz : gn = 0 := by omega
      subst hgz
      clear hg0
      go_wp2
      obtain ⟨R, hfin⟩ := rlook_no (g0 := 0) (o := .cells #[.bool false, .bool false, .int .u64 0, .slice none 0 0] 114) HR2.out HS1.out
      refine bodyPost_ret (rlook_results R rfl) rfl ⟨0, none, 0, 0, false, false, none, rfl, ⟨_, a, HSC.out, ?_⟩, hfin, rfl⟩
      rw [HLK.out]; simp
    have hg1 : decide ((gn : Int) < 1) = false := decide_eq_false hg0
    by_cases hgm : (4611686018427387904 : Int) ≤ (gn : Int)
    · have hgd : decide ((4611686018427387904 : Int) ≤ (gn : Int)) = true := decide_eq_true hgm
      go_wp2
      obtain ⟨R, hfin⟩ := rlook_no (g0 := gn) (o := .cells #[.bool false, .bool false, .int .u64 gn, .slice none 0 0] 114) HR2.out HS1.out
      refine bodyPost_ret (rlook_results R rfl) rfl ⟨gn, none, 0, 0, false, false, none, rfl, ⟨_, a, HSC.out, ?_⟩, hfin, rfl⟩
      rw [HLK.out, if_pos (Or.inr (by omega))]
    have hgd : decide ((4611686018427387904 : Int) ≤ (gn : Int)) = false := decide_eq_false hgm
    have HLK : Hid (lookL (h :: t) (decide (a < b.length)) = (walkL t false []).map fun x => ⟨gn, x.1, decide (a < b.length) || x.2⟩) := Lib.hid (by
      rw [HLK.out, if_neg (by omega)])
    clear hgm hg0
    have hKt : t.length + 1 = N := by have := HN.out; simp at this; omega
    go_wp2
    go_loopw [6] (fun i wr => ∃ (k : Nat) (z : Bool) (acc : List (List UInt8)), 1 ≤ k ∧ k ≤ N ∧ acc.length ≤ k ∧ i = .int .i64 k ∧ Hid (walkL t false [] = walkL (t.drop (k - 1)) z acc) ∧ Hid (RLIn w1 gn z acc wr)) (fun i _ => N - (intOf i).toNat)
    case atStart => exact ⟨1, false, [], by omega, by omega, by simp, rfl, Lib.hid rfl, hst⟩
    case round =>
      obtain ⟨k, z, acc, hk1, hk, hak, rfl, HW, HI⟩ := hrel
      clear hst c0 c1 c2 c3 z0 z1 z2 z3
      obtain ⟨XA, xc, hrx, hown, hsx⟩ := HI.out
      have hr2 := HR2.out.keep hsx hlt1
      have f0 := hr2.cell 0
      have f1 := hr2.cell 1
      have f2 := hr2.cell 2
      have f3 := hr2.cell 3
      have z0 := hr2.frozen 0
      have z1 := hr2.frozen 1
      have z2 := hr2.frozen 2
      have z3 := hr2.frozen 3
      have e0 := hrx.cell 0
      have e1 := hrx.cell 1
      have e2 := hrx.cell 2
      have e3 := hrx.cell 3
      have y0 := hrx.frozen 0
      have y1 := hrx.frozen 1
      have y3 := hrx.frozen 3
      have hltx := hrx.lt
      have hlt2 := hr2.lt
      simp at e0 e1 e2 e3 f0 f1 f2 f3
      have HRX := Lib.hid hrx
      have HOWN := Lib.hid hown
      have HSX := Lib.hid hsx
      have HR2' := Lib.hid hr2
      clear hrx hown hsx hr2
      by_cases hkN : k < N
      case neg =>
        obtain rfl : k = N := by omega
        have hw : walkL t false [] = if z then some (acc, false) else none := by
          rw [HW.out, List.drop_of_length_le (by omega)]; rfl
        go_wp2
        have hR3 := HR2'.out.keep ((Same.refl (fun q => q ≠ w1.heap.size) wr).setCell (p := ⟨w1.heap.size, 1, none⟩) (fun _ h => h rfl) (.bool (decide (a < b.length)))) (by omega)
        obtain ⟨R, hfin⟩ := row4 (.bool z) (.bool (decide (a < b.length))) (.int .u64 gn) (.slice XA acc.length xc) hR3 ((HS1.out.trans (HSX.out.mono fun _ h _ => h)).setCell (p := ⟨w1.heap.size, 1, none⟩) (fun h => absurd h (by show ¬ w1.heap.size < _; omega)) (.bool (decide (a < b.length)))) (Nat.le_refl _)
        cases z
        · exact bodyPost_ret (rlook_results R rfl) rfl ⟨gn, XA, acc.length, xc, decide (a < b.length), false, none, rfl, ⟨_, a, HSC.out, by rw [HLK.out, hw]; rfl⟩, hfin, rfl⟩
        · refine bodyPost_ret (rlook_results R rfl) rfl ⟨gn, XA, acc.length, xc, decide (a < b.length), true, some ⟨gn, acc, decide (a < b.length)⟩, rfl, ⟨_, a, HSC.out, by rw [HLK.out, hw]; simp⟩, hfin, rfl, rfl, rfl, rfl, ?_⟩
          exact rl_own HOWN.out hlt1 (((Same.refl _ _).setCell (p := ⟨w1.heap.size, 1, none⟩) (fun _ h => h.2 rfl) _).trans ((row4_same _ _ _ _).mono fun k _ hk => hk.1))
      obtain ⟨ad', uk, e, -, huk, hck⟩ := HSL.out.at_ (k := k) (by have := HN.out; omega)
      injection e with e
      subst e
      obtain ⟨r, hr⟩ : ∃ r, r = (h :: t)[k]'(by have := HN.out; omega) := ⟨_, rfl⟩
      have hrk := (HEL.out k uk r huk (by rw [hr]; exact List.getElem?_eq_getElem _)).mono (S' := fun j => j < w1.heap.size) (fun j h1 h2 => h1)
      obtain ⟨Ar, cr, rfl, hcr, hmr, hslr⟩ := id hrk
      have hckr : wr.cell? (ad.add k) = some (.slice Ar r.length cr) := HSX.out.cell (by rw [block_of_add]; exact hab) hck
      have hrw := hrk.keep HSX.out
      have HWk : Hid (walkL (t.drop (k - 1)) z acc = walkL (r :: t.drop k) z acc) := Lib.hid (by
        have e : t.drop (k - 1) = (h :: t).drop k := by
          obtain ⟨j, rfl⟩ : ∃ j, k = j + 1 := ⟨k - 1, by omega⟩
          rfl
        have e2 : t.drop k = (h :: t).drop (k + 1) := rfl
        rw [hr, e, e2, List.drop_eq_getElem_cons (by have := HN.out; omega)])
      have hcv := conv_by hrw
      have hkp : Hid (k + 1 - 1 = k) := Lib.hid (by omega)
      clear hrk hrw huk hck hslr hr hmr hcr
      obtain ⟨rl, hrl⟩ : ∃ rl, rl = r.length := ⟨_, rfl⟩
      rw [← hrl] at hckr hcv
      rcases r with _ | ⟨y, r'⟩
      · obtain rfl : rl = 0 := hrl
        have hcv : (convert 24 9 (.slice Ar 0 cr)).run Try.prog wr = .ok (.string ⟨#[]⟩) wr := hcv
        go_wp2_with (with_reducible refine stopConv rfl ?_)
        unfold Hid
        refine wpList_conv rfl rfl rfl hcv ?_
        clear hcv
        cases z
        · go_wp2
          have hR3 := HR2'.out.keep ((Same.refl (fun q => q ≠ w1.heap.size) wr).setCell (p := ⟨w1.heap.size, 1, none⟩) (fun _ h => h rfl) (.bool true)) (by omega)
          obtain ⟨R, hfin⟩ := row4 (.bool false) (.bool true) (.int .u64 gn) (.slice XA acc.length xc) hR3 ((HS1.out.trans (HSX.out.mono fun _ h _ => h)).setCell (p := ⟨w1.heap.size, 1, none⟩) (fun h => absurd h (by show ¬ w1.heap.size < _; omega)) (.bool true)) (Nat.le_refl _)
          refine bodyPost_ret (rlook_results R rfl) rfl ⟨gn, XA, acc.length, xc, true, false, none, rfl, ⟨_, a, HSC.out, ?_⟩, hfin, rfl⟩
          rw [HLK.out, HW.out, HWk.out]
          simp [walkL]
        · go_wp2
          have hR3 := HR2'.out.keep ((Same.refl (fun q => q ≠ w1.heap.size) wr).setCell (p := ⟨w1.heap.size, 1, none⟩) (fun _ h => h rfl) (.bool true)) (by omega)
          obtain ⟨R, hfin⟩ := row4 (.bool true) (.bool true) (.int .u64 gn) (.slice XA acc.length xc) hR3 ((HS1.out.trans (HSX.out.mono fun _ h _ => h)).setCell (p := ⟨w1.heap.size, 1, none⟩) (fun h => absurd h (by show ¬ w1.heap.size < _; omega)) (.bool true)) (Nat.le_refl _)
          refine bodyPost_ret (rlook_results R rfl) rfl ⟨gn, XA, acc.length, xc, true, true, some ⟨gn, acc, true⟩, rfl, ⟨_, a, HSC.out, ?_⟩, hfin, rfl, rfl, rfl, rfl, ?_⟩
          · rw [HLK.out, HW.out, HWk.out]
            simp [walkL]
          · exact rl_own HOWN.out hlt1 (((Same.refl _ _).setCell (p := ⟨w1.heap.size, 1, none⟩) (fun _ h => h.2 rfl) _).trans ((row4_same _ _ _ _).mono fun k _ hk => hk.1))
      have hrl0 : 0 < rl := by rw [hrl]; simp
      obtain ⟨s, hs⟩ : ∃ s, s = str (y :: r') := ⟨_, rfl⟩
      rw [← hs] at hcv
      have hsz : s.size = rl := by rw [hs, str_size, hrl]
      have hs1 : 1 ≤ s.size := by omega
      have hs0 : 0 < s.size := by omega
      have hsy : s[0] = y := by subst hs; rfl
      have HXT : Hid (s.extract 1 rl = str r') := Lib.hid (by
        rw [hs, hrl]
        apply ByteArray.ext
        simp [str])
      have hrl5 : (1 : Int) ≤ (rl : Int) := by omega
      have hsE : (s.toList == []) = false := by
        rw [hs, str_toList]; rfl
      have HS := Lib.hid hs
      clear hs hrl
      by_cases hy : y = 82
      case neg =>
        have hyn : n8 y ≠ 82 := fun e => hy (n8_inj.1 e)
        have hyb : (((y.toNat : Nat) : Int) != 82) = true := bne_iff_ne.2 hyn
        by_cases hE : s.toList = [69]
        · have hE2 : (s.toList == [69]) = true := by simp [hE]
          have e : y :: r' = [69] := by
            have h1 := HS.out
            rw [h1] at hE
            rw [← hE]
            exact (str_toList _).symm
          have HE := Lib.hid e
          clear e hE
          cases z
          · go_wp2_with (with_reducible refine stopConv rfl ?_)
            unfold Hid
            refine wpList_conv rfl rfl rfl hcv ?_
            clear hcv
            go_wp2
            go_roundw
            case rel =>
              refine ⟨k + 1, true, acc, by omega, by omega, by omega, by go_num, Lib.hid ?_, Lib.hid HI.out.mark⟩
              rw [HW.out, HWk.out, HE.out, hkp.out]
              simp [walkL]
            case measure => simp [intOf]; omega
          · go_wp2_with (with_reducible refine stopConv rfl ?_)
            unfold Hid
            refine wpList_conv rfl rfl rfl hcv ?_
            clear hcv
            go_wp2
            have hR3 := HR2'.out.keep ((Same.refl (fun q => q ≠ w1.heap.size) wr).setCell (p := ⟨w1.heap.size, 1, none⟩) (fun _ h => h rfl) (.bool true)) (by omega)
            obtain ⟨R, hfin⟩ := row4 (.bool true) (.bool true) (.int .u64 gn) (.slice XA acc.length xc) hR3 ((HS1.out.trans (HSX.out.mono fun _ h _ => h)).setCell (p := ⟨w1.heap.size, 1, none⟩) (fun h => absurd h (by show ¬ w1.heap.size < _; omega)) (.bool true)) (Nat.le_refl _)
            refine bodyPost_ret (rlook_results R rfl) rfl ⟨gn, XA, acc.length, xc, true, true, some ⟨gn, acc, true⟩, rfl, ⟨_, a, HSC.out, ?_⟩, hfin, rfl, rfl, rfl, rfl, ?_⟩
            · rw [HLK.out, HW.out, HWk.out]
              simp only [walkL]
              rw [if_neg (by simpa using hy)]
              simp
            · exact rl_own HOWN.out hlt1 (((Same.refl _ _).setCell (p := ⟨w1.heap.size, 1, none⟩) (fun _ h => h.2 rfl) _).trans ((row4_same _ _ _ _).mono fun k _ hk => hk.1))
        · have hE2 : (s.toList == [69]) = false := by simp [hE]
          have e : ¬ (y :: r' = [69]) := by
            rintro e
            apply hE
            rw [HS.out, e]
            exact str_toList _
          have HE := Lib.hid e
          clear e hE
          cases z
          · go_wp2_with (with_reducible refine stopConv rfl ?_)
            unfold Hid
            refine wpList_conv rfl rfl rfl hcv ?_
            clear hcv
            go_wp2
            have hR3 := HR2'.out.keep ((Same.refl (fun q => q ≠ w1.heap.size) wr).setCell (p := ⟨w1.heap.size, 1, none⟩) (fun _ h => h rfl) (.bool true)) (by omega)
            obtain ⟨R, hfin⟩ := row4 (.bool false) (.bool true) (.int .u64 gn) (.slice XA acc.length xc) hR3 ((HS1.out.trans (HSX.out.mono fun _ h _ => h)).setCell (p := ⟨w1.heap.size, 1, none⟩) (fun h => absurd h (by show ¬ w1.heap.size < _; omega)) (.bool true)) (Nat.le_refl _)
            refine bodyPost_ret (rlook_results R rfl) rfl ⟨gn, XA, acc.length, xc, true, false, none, rfl, ⟨_, a, HSC.out, ?_⟩, hfin, rfl⟩
            rw [HLK.out, HW.out, HWk.out]
            simp only [walkL]
            rw [if_neg (by simpa using hy), if_neg (by simp), if_neg HE.out]
            rfl
          · go_wp2_with (with_reducible refine stopConv rfl ?_)
            unfold Hid
            refine wpList_conv rfl rfl rfl hcv ?_
            clear hcv
            go_wp2
            have hR3 := HR2'.out.keep ((Same.refl (fun q => q ≠ w1.heap.size) wr).setCell (p := ⟨w1.heap.size, 1, none⟩) (fun _ h => h rfl) (.bool true)) (by omega)
            obtain ⟨R, hfin⟩ := row4 (.bool true) (.bool true) (.int .u64 gn) (.slice XA acc.length xc) hR3 ((HS1.out.trans (HSX.out.mono fun _ h _ => h)).setCell (p := ⟨w1.heap.size, 1, none⟩) (fun h => absurd h (by show ¬ w1.heap.size < _; omega)) (.bool true)) (Nat.le_refl _)
            refine bodyPost_ret (rlook_results R rfl) rfl ⟨gn, XA, acc.length, xc, true, true, some ⟨gn, acc, true⟩, rfl, ⟨_, a, HSC.out, ?_⟩, hfin, rfl, rfl, rfl, rfl, ?_⟩
            · rw [HLK.out, HW.out, HWk.out]
              simp only [walkL]
              rw [if_neg (by simpa using hy)]
              simp
            · exact rl_own HOWN.out hlt1 (((Same.refl _ _).setCell (p := ⟨w1.heap.size, 1, none⟩) (fun _ h => h.2 rfl) _).trans ((row4_same _ _ _ _).mono fun k _ hk => hk.1))
      obtain rfl : y = 82 := hy
      have hyb : (((82 : UInt8).toNat : Int) != 82) = false := by rfl
      have hE2 : (s.toList == [69]) = false := by
        rw [HS.out, str_toList]
        rfl
      go_wp2_with (with_reducible refine stopConv rfl ?_)
      unfold Hid
      refine wpList_conv rfl rfl rfl hcv ?_
      clear hcv
      go_wp2
      refine wp_region_tail_lit (L := [.eq (.pointer (some ⟨w1.heap.size, 3, none⟩)), .eq (.slice XA acc.length xc), .eq (.string s), .eq (.string (s.extract 1 rl)), .of ⟨fun v w => ∃ q, v = .slice (some ⟨q, 0, none⟩) 1 1 ∧ wr.heap.size ≤ q ∧ Row w q 9 [.string (s.extract 1 rl)], fun _ _ _ ⟨q, h1, h2, h3⟩ k => ⟨q, h1, h2, h3.keep k trivial⟩⟩]) 5 (by kernel_rfl) (by kernel_rfl) rfl rfl rfl ?_ ?_
      · refine ⟨?_, ?_, ?_, ?_, ?_, trivial⟩
        · intro ac wc hs hd hz hf hw K hK
          have e0 : ac.eval (.tmp 5) = (.pointer (some ⟨w1.heap.size, 0, none⟩)) := hf 5 rfl
          clear hd hz hf hw
          simp only [Region.wanted, if_true, Oper.wp, execOp, resolve, List.map_toArray, List.map_cons, List.map_nil, Option.map_some, Option.map_none, e0]
          go_simp
          exact hK _ _ rfl (Same.refl _ _)
        · intro ac wc hs hd hz hf hw K hK
          have e0 : ac.eval (.tmp 78) = (.pointer (some ⟨w1.heap.size, 3, none⟩)) := hw 0 rfl
          have m0 : wc.cell? ⟨w1.heap.size, 3, none⟩ = some (.slice XA acc.length xc) := hs.cell (p := ⟨w1.heap.size, 3, none⟩) trivial e3
          clear hd hz hf hw
          simp only [Region.wanted, if_true, Oper.wp, execOp, resolve, List.map_toArray, List.map_cons, List.map_nil, Option.map_some, Option.map_none, e0]
          go_simp
          exact hK _ _ rfl (Same.refl _ _)
        · intro ac wc hs hd hz hf hw K hK
          have e0 : ac.eval (.tmp 7) = (.string s) := hf 7 rfl
          clear hd hz hf hw
          simp only [Region.wanted, if_true, Oper.wp, execOp, resolve, List.map_toArray, List.map_cons, List.map_nil, Option.map_some, Option.map_none, e0]
          go_simp
          exact hK _ _ rfl (Same.refl _ _)
        · intro ac wc hs hd hz hf hw K hK
          have e0 : ac.eval (.tmp 80) = (.string s) := hw 2 rfl
          clear hd hz hf hw
          simp only [Region.wanted, if_true, Oper.wp, execOp, resolve, List.map_toArray, List.map_cons, List.map_nil, Option.map_some, Option.map_none, e0]
          go_simp
          exact hK _ _ rfl (Same.refl _ _)
        · intro ac wc hs hd hz hf hw K hK
          have e0 : ac.eval (.tmp 81) = (.string (s.extract 1 rl)) := hw 3 rfl
          clear hd hz hf hw
          simp only [Region.wanted, if_true, Oper.wp, execOp, resolve, List.map_toArray, List.map_cons, List.map_nil, Option.map_some, Option.map_none, e0]
          go_simp
          exact hK _ _ ⟨_, rfl, hs.size, Row.new _ _ _⟩ ((Same.refl _ _).alloc _)
      · intro vs wR hvl hvp hsR
        rcases vs with _ | ⟨z0, _ | ⟨z1, _ | ⟨z2, _ | ⟨z3, _ | ⟨z4, _ | ⟨zz, zr⟩⟩⟩⟩⟩⟩
        rotate_right 1
        · simp at hvl
        · simp at hvl
        · simp at hvl
        · simp at hvl
        · simp at hvl
        · simp at hvl
        · obtain rfl : z0 = (.pointer (some ⟨w1.heap.size, 3, none⟩)) := hvp 0 (by omega)
          obtain rfl : z1 = (.slice XA acc.length xc) := hvp 1 (by omega)
          obtain rfl : z2 = (.string s) := hvp 2 (by omega)
          obtain rfl : z3 = (.string (s.extract 1 rl)) := hvp 3 (by omega)
          have hxb : (⟨fun v w => ∃ q, v = .slice (some ⟨q, 0, none⟩) 1 1 ∧ wr.heap.size ≤ q ∧ Row w q 9 [.string (s.extract 1 rl)], fun _ _ _ ⟨q, h1, h2, h3⟩ k => ⟨q, h1, h2, h3.keep k trivial⟩⟩ : SP).p z4 wR := hvp 4 (by omega)
          clear hvl hvp
          simp only [putAll, Act.put, List.setIfInBounds_toArray, List.set_cons_succ, List.set_cons_zero, List.take_succ_cons, List.take_zero, List.drop_succ_cons, List.drop_zero, List.eraseIdx_cons_succ, List.eraseIdx_cons_zero]
          obtain ⟨q, rfl, hq, hrow⟩ := hxb
          rw [HXT.out] at hrow ⊢
          have hsl1 : Sl wR (fun _ => True) 1 (some ⟨q, 0, none⟩) 1 [strV r'] := by
            have := hrow.sl (size := 1) (off := 0) (n := 1) (by simp)
            exact (by simpa using this : Sl wR (fun k => k = q) 1 (some ⟨q, 0, none⟩) 1 [strV r']).mono fun _ _ _ => trivial
          have hzR := hsR.size
          have hKb : N ≤ 125001 := by have := hal; have := HN.out; omega
          refine wpList_app TSt _ rfl (.tmp 79) (.tmp 82) rfl (w1.heap.size + 1) _ acc.length (acc.map strV) rfl (own_keepAll HOWN.out hsR) (fun _ => True) (some ⟨q, 0, none⟩) 1 1 [strV r'] rfl hsl1 (by simp [Value.oneCell']) (by simp only [maxLen]; omega) (by omega) (by omega) ?_
          intro v3 w3 hown3 hs3 _
          obtain ⟨A3, c3, rfl, -, -⟩ := own_cap hown3
          have hI2 := Lib.hid (RLIn.app HRX.out HOWN.out HSX.out hsR hown3 hs3)
          have hr3 := (HRX.out.keep hsR trivial).keep hs3 (fun e => by have := own_ge HOWN.out e; omega)
          have g1 := hr3.cell 3
          have q1 := hr3.frozen 3
          have hl3 := hr3.lt
          simp at g1
          clear e0 e1 e2 e3 f0 f1 f2 f3 z0 z1 z2 z3 y0 y1 y3 hckr hr3 hown3 hs3 hsl1 hrow hsR
          go_wp2
          go_roundw
          case rel =>
            refine ⟨k + 1, z, acc ++ [r'], by omega, by omega, by simp; omega, by go_num, Lib.hid ?_, hI2⟩
            rw [HW.out, HWk.out, hkp.out]
            simp [walkL]
          case measure => simp [intOf]; omega
end Go.Proofs.Ytpjinngngbifoaa
