/-
  Words, plain models, laws and walks that the claims of this layer share (joined by shake.py). No condition.
-/
import Derived.Test.YtpjinngngbifoaaU1
import Derived.Test.YtpjinngngbifoaaU2
import Derived.Test.YtpjinngngbifoaaU3
import Derived.Test.YtpjinngngbifoaaU4
import Derived.Test.YtpjinngngbifoaaU5
import Derived.Test.YtpjinngngbifoaaU6
import Derived.Test.YtpjinngngbifoaaU7
import Derived.Test.YtpjinngngbifoaaU8
import Derived.Test.YtpjinngngbifoaaU9
import Derived.Test.YtpjinngngbifoaaU10
import Derived.Test.YtpjinngngbifoaaU11
import Derived.Test.YtpjinngngbifoaaU12
import Derived.Test.YtpjinngngbifoaaU13
import Derived.Test.YtpjinngngbifoaaU15
set_option linter.unusedSimpArgs false
set_option linter.unusedVariables false
namespace Go.Proofs.Ytpjinngngbifoaa
open Go.RowKit
theorem look_results {W : World} {k : Nat} {n0 n2 : Int} {A1 : Option Addr} {n1 c1 : Nat} {b3 ok : Bool} (R : Row W k 80 [.int .u64 n0, .slice A1 n1 c1, .int .i64 n2, .bool b3]) {tmps : Array Value}
    (h2 : tmps.getD 2 undef = ptr k) (h3 : tmps.getD 3 undef = .bool ok) : (results Try.f40 tmps).run Try.prog W = .ok (.tuple #[.agg #[.int .u64 n0, .slice A1 n1 c1, .int .i64 n2, .bool b3], .bool ok]) W := by
  have d0 : W.cell? ⟨k, 0, none⟩ = some (.int .u64 n0) := R.cell 0
  have d1 : W.cell? ⟨k, 1, none⟩ = some (.slice A1 n1 c1) := R.cell 1
  have d2 : W.cell? ⟨k, 2, none⟩ = some (.int .i64 n2) := R.cell 2
  have d3 : W.cell? ⟨k, 3, none⟩ = some (.bool b3) := R.cell 3
  simp at h2 h3
  simp [results, Try.results40, h2, h3, go_sem, d0, d1, d2, d3]
theorem look_zero {w w1 : World} {b : List UInt8} {o : Obj} (HR2 : Row w1 w.heap.size 80 [.int .u64 0, .slice none 0 0, .int .i64 0, .bool false]) (HS1 : Same (fun _ => True) w w1) :
    Row (((((w1.setCell ⟨w.heap.size, 0, none⟩ (.int .u64 0)).setCell ⟨w.heap.size, 1, none⟩ (.slice none 0 0)).setCell ⟨w.heap.size, 2, none⟩ (.int .i64 0)).setCell ⟨w.heap.size, 3, none⟩ (.bool false)).alloc o) w.heap.size 80 [.int .u64 0, .slice none 0 0, .int .i64 0, .bool false] ∧
    Same (fun _ => True) w (((((w1.setCell ⟨w.heap.size, 0, none⟩ (.int .u64 0)).setCell ⟨w.heap.size, 1, none⟩ (.slice none 0 0)).setCell ⟨w.heap.size, 2, none⟩ (.int .i64 0)).setCell ⟨w.heap.size, 3, none⟩ (.bool false)).alloc o) :=
  ⟨((((HR2.set_ 0 (.int .u64 0)).set_ 1 (.slice none 0 0)).set_ 2 (.int .i64 0)).set_ 3 (.bool false)).keep ((Same.refl (fun _ => True) _).alloc o) trivial,
   ((((HS1.setCell (fun h => absurd h (Nat.lt_irrefl _)) _).setCell (fun h => absurd h (Nat.lt_irrefl _)) _).setCell (fun h => absurd h (Nat.lt_irrefl _)) _).setCell (fun h => absurd h (Nat.lt_irrefl _)) _).alloc o⟩
/-- What look's loop holds: x's cells, the records so far. -/
def LookIn (w w1 : World) (gn : Nat) (bl : Int) (sp : Bool) (acc : List (List UInt8)) (wr : World) : Prop :=
  ∃ A c us, Row wr w1.heap.size 80 [.int .u64 gn, .slice A acc.length c, .int .i64 bl, .bool sp] ∧ wr.ownsRow (w1.heap.size + 1) 24 1 (.slice A acc.length c) acc.length us ∧
    (∀ (i : Nat) (u : Value) (x : List UInt8), us[i]? = some u → acc[i]? = some x → By wr (fun k => w.heap.size < k ∧ k < w1.heap.size) u x) ∧ Same (fun k => k < w1.heap.size) w1 wr
theorem LookIn.start (w w1 : World) (gn : Nat) (bl : Int) (sp : Bool) : LookIn w w1 gn bl sp [] (w1.alloc (.cells #[.int .u64 gn, .slice none 0 0, .int .i64 bl, .bool sp] 80)) :=
  ⟨none, 0, [], Row.new w1 _ _, World.ownsRow_nil _ _ _ _, by simp, (Same.refl _ _).alloc _⟩
/-- One record more. -/
theorem LookIn.app {w w1 wr wR w3 : World} {gn : Nat} {bl : Int} {sp : Bool} {acc : List (List UInt8)} {A : Option Addr} {c : Nat} {us : List Value} {u v3 : Value} {x : List UInt8}
    (hrx : Row wr w1.heap.size 80 [.int .u64 gn, .slice A acc.length c, .int .i64 bl, .bool sp]) (hown : wr.ownsRow (w1.heap.size + 1) 24 1 (.slice A acc.length c) acc.length us)
    (hels : ∀ (i : Nat) (u : Value) (x : List UInt8), us[i]? = some u → acc[i]? = some x → By wr (fun k => w.heap.size < k ∧ k < w1.heap.size) u x) (hsx : Same (fun k => k < w1.heap.size) w1 wr) (hsR : Same (fun _ => True) wr wR)
    (hu : By wr (fun k => w.heap.size < k ∧ k < w1.heap.size) u x) (hown3 : w3.ownsRow (w1.heap.size + 1) 24 1 v3 (acc.length + 1) (us ++ [u])) (hs3 : Same (fun k => some k ≠ (Value.slice A acc.length c).ownBlock) wR w3) :
    LookIn w w1 gn bl sp (acc ++ [x]) (w3.setCell ⟨w1.heap.size, 1, none⟩ v3) := by
  obtain ⟨A3, c3, rfl, h4, h5⟩ := own_cap hown3
  have hge : ∀ k, some k = (Value.slice A acc.length c).ownBlock → w1.heap.size + 1 ≤ k := fun k hk => own_ge hown hk
  have hS3 : Same (fun q => q ≠ w1.heap.size) w3 (w3.setCell ⟨w1.heap.size, 1, none⟩ (.slice A3 (acc.length + 1) c3)) := (Same.refl _ _).setCell (fun _ h => h rfl) _
  have hb : Same (fun q => q < w1.heap.size) wr (w3.setCell ⟨w1.heap.size, 1, none⟩ (.slice A3 (acc.length + 1) c3)) :=
    ((hsR.mono fun _ _ _ => trivial).trans (hs3.mono fun k _ hk e => by have := hge k e; omega)).trans (hS3.mono fun k _ hk => by omega)
  have hlen : (acc ++ [x]).length = acc.length + 1 := by simp
  refine ⟨A3, c3, us ++ [u], ?_, ?_, ?_, hsx.trans hb⟩
  · rw [hlen]
    exact (((hrx.keep hsR trivial).keep hs3 (fun e => by have := hge _ e; omega)).set_ 1 _)
  · rw [hlen]
    exact own_keep hown3 hS3 fun k hk => by have := own_ge hown3 hk.symm; omega
  · intro i u' x' hi hx
    have hul : us.length = acc.length := by have := hown.1; omega
    by_cases hlt : i < acc.length
    · rw [List.getElem?_append_left (by omega)] at hi
      rw [List.getElem?_append_left hlt] at hx
      exact (hels i u' x' hi hx).keep (hb.mono fun k _ hk => hk.2)
    · rw [List.getElem?_append_right (by omega)] at hi
      rw [List.getElem?_append_right (by omega)] at hx
      cases hj : i - acc.length with
      | zero =>
        rw [hul, hj] at hi
        rw [hj] at hx
        simp at hi hx
        subst hi hx
        exact hu.keep (hb.mono fun k _ hk => hk.2)
      | succ j => rw [hj] at hx; simp at hx
theorem stopConv {P : Program} {w : World} {ops : Array Oper} {rest : List Oper} {o : Oper} {a : Act} {Q : Exit → Act → World → Prop} {t u : TypeId} {x : Operand}
    (ho : o.op = .convert t u x) (h : Hid (wpList P ops Q (o :: rest) a w)) : wpList P ops Q (o :: rest) a w := h
theorem wpList_conv {P : Program} {w : World} {ops : Array Oper} {rest : List Oper} {o : Oper} {a : Act} {Q : Exit → Act → World → Prop} (hgd : o.guard = none) {t u : TypeId} {x : Operand}
    (ho : o.op = .convert t u x) {v r : Value} (hx : a.eval x = v) (hr : (convert t u v).run P w = .ok r w) (h : wpList P ops Q rest (a.put o.dst r) w) : wpList P ops Q (o :: rest) a w := by
  refine wpList_plain hgd fun K hK => ?_
  unfold Oper.wp execOp
  simp only [ho, hx, hr, Sem.run_bind, Sem.run_pure, Result.andThen_ok]
  exact hK _ _ h
theorem LookIn.list {w w1 wr W : World} {acc : List (List UInt8)} {A : Option Addr} {c : Nat} {us : List Value} (hw : wr.ownsRow (w1.heap.size + 1) 24 1 (.slice A acc.length c) acc.length us)
    (he : ∀ (i : Nat) (u : Value) (x : List UInt8), us[i]? = some u → acc[i]? = some x → By wr (fun k => w.heap.size < k ∧ k < w1.heap.size) u x) (h1 : w.heap.size < w1.heap.size) (hs : Same (fun k => k ≠ w.heap.size ∧ k ≠ w1.heap.size) wr W) :
    ByL W (fun k => w.heap.size ≤ k) (.slice A acc.length c) acc := by
  have h2 := own_keep hw hs fun k hk => by have := own_ge hw hk.symm; constructor <;> omega
  obtain ⟨A', c', e, h4, h5⟩ := own_cap h2
  injection e with e1 e2 e3
  subst e1 e3
  exact ⟨A, c, us, rfl, h4, h5, (Sl.of_own h2).mono (fun k _ hk => by have := own_ge h2 hk; omega), fun i u x a b => ((he i u x a b).keep (hs.mono fun k _ hk => by omega)).mono fun k _ hk => by omega⟩
theorem row4 {w W : World} {k : Nat} {e : TypeId} {a b c d : Value} (v0 v1 v2 v3 : Value) (h : Row W k e [a, b, c, d]) (hs : Same (fun _ => True) w W) (hk : w.heap.size ≤ k) :
    Row ((((W.setCell ⟨k, 0, none⟩ v0).setCell ⟨k, 1, none⟩ v1).setCell ⟨k, 2, none⟩ v2).setCell ⟨k, 3, none⟩ v3) k e [v0, v1, v2, v3] ∧
    Same (fun _ => True) w ((((W.setCell ⟨k, 0, none⟩ v0).setCell ⟨k, 1, none⟩ v1).setCell ⟨k, 2, none⟩ v2).setCell ⟨k, 3, none⟩ v3) :=
  ⟨(((h.set_ 0 v0).set_ 1 v1).set_ 2 v2).set_ 3 v3,
   (((hs.setCell (fun h => absurd h (by show ¬ k < _; omega)) _).setCell (fun h => absurd h (by show ¬ k < _; omega)) _).setCell (fun h => absurd h (by show ¬ k < _; omega)) _).setCell (fun h => absurd h (by show ¬ k < _; omega)) _⟩
theorem row4_same {W : World} {k : Nat} (v0 v1 v2 v3 : Value) : Same (fun q => q ≠ k) W ((((W.setCell ⟨k, 0, none⟩ v0).setCell ⟨k, 1, none⟩ v1).setCell ⟨k, 2, none⟩ v2).setCell ⟨k, 3, none⟩ v3) :=
  ((((Same.refl _ _).setCell (fun _ h => h rfl) _).setCell (fun _ h => h rfl) _).setCell (fun _ h => h rfl) _).setCell (fun _ h => h rfl) _
theorem str_toList (l : List UInt8) : (str l).toList = l := by
  rw [ByteArray.toList_eq]; rfl
def LookPost (b : List UInt8) (w : World) (e : Ending) (w' : World) : Prop :=
  ∃ (g : Nat) (A : Option Addr) (k c : Nat) (n : Int) (sp ok : Bool) (m : Option LookM), e = .returned (.tuple #[.agg #[.int .u64 g, .slice A k c, .int .i64 n, .bool sp], .bool ok]) ∧ LookF b m ∧ Same (fun _ => True) w w' ∧
    match m with
    | none => ok = false
    | some m => ok = true ∧ g = m.gen ∧ n = b.length ∧ sp = m.spoil ∧ k = m.recs.length ∧ ByL w' (fun k => w.heap.size ≤ k) (.slice A k c) m.recs
set_option maxRecDepth 100000 in
set_option maxHeartbeats 1000000 in
theorem look_any (v : Value) (b : List UInt8) (S : Nat → Prop) (w : World) (hv : By w S v b) (hb : b.length ≤ 1000000) :
    Calls Try.prog 40 #[v] w (LookPost b w) := by
  obtain ⟨A, ca, rfl, -⟩ := id hv
  have HV := Lib.hid hv
  clear hv
  go_enter Try.func40, Try.ntmps40
  go_wp2_with (go_at_call 64; refine stopAt ?_)
  unfold Hid
  have hs1 : Same (fun _ => True) w (w.alloc (.cells #[.int .u64 0, .slice none 0 0, .int .i64 0, .bool false] 80)) := (Same.refl _ _).alloc _
  refine (fscan_any _ b S _ (HV.out.keep (hs1.mono fun _ _ _ => trivial)) hb).mono ?_
  rintro e w1 ⟨u, l, a, rfl, hsc, hrec, hs2⟩
  have hc2 : ∀ i v, (w.alloc (.cells #[.int .u64 0, .slice none 0 0, .int .i64 0, .bool false] 80)).cell? ⟨w.heap.size, i, none⟩ = some v → w1.cell? ⟨w.heap.size, i, none⟩ = some v := fun i v h => hs2.cell trivial h
  have r2 : Row w1 w.heap.size 80 [.int .u64 0, .slice none 0 0, .int .i64 0, .bool false] := (Row.new w _ _).keep hs2 trivial
  have hz1 := hs2.size
  simp at hz1
  have hlt1 : w.heap.size < w1.heap.size := by omega
  have hl := hrec.list
  have HSC := Lib.hid hsc
  have HR2 := Lib.hid r2
  have HS1 := Lib.hid (hs1.trans hs2)
  clear hs1 hs2 hc2 hrec hsc r2
  obtain ⟨LA, lc, vs, rfl, hlc, hmc, hsl, hel⟩ := hl
  have HSL := Lib.hid hsl
  have HEL := Lib.hid hel
  clear hsl hel
  have hal := HSC.out.1.le
  have hml : lc ≤ maxLen := hmc
  unfold maxLen at hmc
  obtain ⟨sp, hsp⟩ : ∃ sp, sp = decide (a < b.length) := ⟨_, rfl⟩
  rcases l with _ | ⟨h, t⟩
  · have c0 := HR2.out.cell 0
    have c1 := HR2.out.cell 1
    have c2 := HR2.out.cell 2
    have c3 := HR2.out.cell 3
    have z0 := HR2.out.frozen 0
    have z1 := HR2.out.frozen 1
    have z2 := HR2.out.frozen 2
    have z3 := HR2.out.frozen 3
    simp at c0 c1 c2 c3
    go_wp2
    obtain ⟨R, hfin⟩ := look_zero (b := b) (o := .cells #[.int .u64 0, .slice none 0 0, .int .i64 b.length, .bool (decide (a < b.length))] 80) HR2.out HS1.out
    refine bodyPost_ret (look_results R rfl rfl) rfl ⟨0, none, 0, 0, 0, false, false, none, rfl, ⟨_, a, HSC.out, rfl⟩, hfin, rfl⟩
  · obtain ⟨ad, u0, rfl, hb0, hu0, hc0⟩ := HSL.out.at_ (k := 0) (by simp)
    have hh := HEL.out 0 u0 h hu0 rfl
    obtain ⟨A0, n0, rfl, hn0, hm0, hs0⟩ := id hh
    have c0 := HR2.out.cell 0
    have c1 := HR2.out.cell 1
    have c2 := HR2.out.cell 2
    have c3 := HR2.out.cell 3
    have z0 := HR2.out.frozen 0
    have z1 := HR2.out.frozen 1
    have z2 := HR2.out.frozen 2
    have z3 := HR2.out.frozen 3
    simp at c0 c1 c2 c3
    have HS0 := Lib.hid hs0
    have HH := Lib.hid hh
    clear hs0 hh hu0
    have hc0 : w1.cell? ad = some (.slice A0 h.length n0) := by simpa [Addr.add] using hc0
    have hab := World.block_lt_of_cell? w1 ad hc0
    obtain ⟨N, hN⟩ : ∃ N, N = (h :: t).length := ⟨_, rfl⟩
    rw [← hN]
    have hN1 : 1 ≤ N := by rw [hN]; simp
    have hNc : N ≤ lc := by rw [hN]; exact hlc
    have HN := Lib.hid hN
    have hN0 : ((N : Int) == 0) = false := by simp; omega
    obtain ⟨M, hM⟩ : ∃ M, M = h.length := ⟨_, rfl⟩
    have HM := Lib.hid hM
    rw [← hM] at hc0
    clear hN hM hlc hn0
    by_cases h9 : M = 9
    case neg =>
      go_wp2
      obtain ⟨R, hfin⟩ := look_zero (b := b) (o := .cells #[.int .u64 0, .slice none 0 0, .int .i64 b.length, .bool (decide (a < b.length))] 80) HR2.out HS1.out
      refine bodyPost_ret (look_results R rfl rfl) rfl ⟨0, none, 0, 0, 0, false, false, none, rfl, ⟨_, a, HSC.out, ?_⟩, hfin, rfl⟩
      simp only [lookL]
      rw [if_pos (Or.inl (by rw [← HM.out]; exact h9))]
    subst h9
    have hbd := HS0.out.at_ (k := 0) (by have := HM.out; omega)
    obtain ⟨ad2, u2, rfl, -, hu2, hc2⟩ := hbd
    obtain ⟨x, h', hx'⟩ : ∃ x h', h = x :: h' := by cases h with | nil => have := HM.out; simp at this | cons x h' => exact ⟨x, h', rfl⟩
    have hu2 : u2 = V8 x := by rw [hx'] at hu2; simpa using hu2.symm
    have HX' := Lib.hid hx'
    subst hu2
    have hc2 : w1.cell? ad2 = some (V8 x) := by simpa [Addr.add] using hc2
    have hab2 := World.block_lt_of_cell? w1 ad2 hc2
    clear hx'
    by_cases hx : x = 71
    case neg =>
      have hxn : n8 x ≠ 71 := fun e => hx (n8_inj.1 e)
      have hxb : (n8 x != 71) = true := by simpa using hxn
      go_wp2
      obtain ⟨R, hfin⟩ := look_zero (b := b) (o := .cells #[.int .u64 0, .slice none 0 0, .int .i64 b.length, .bool (decide (a < b.length))] 80) HR2.out HS1.out
      refine bodyPost_ret (look_results R rfl rfl) rfl ⟨0, none, 0, 0, 0, false, false, none, rfl, ⟨_, a, HSC.out, ?_⟩, hfin, rfl⟩
      simp only [lookL]
      rw [if_pos (Or.inr (by rw [HX'.out]; simpa using hx))]
    have hxn : n8 x = 71 := by rw [hx]; rfl
    have hxb : (n8 x != 71) = false := by simp [hxn]
    go_wp2_with (go_at_call 65; refine stopAt ?_)
    unfold Hid
    have hs3 : Same (fun _ => True) w1 (w1.alloc (.cells #[.int .u64 0, .slice none 0 0, .int .i64 b.length, .bool (decide (a < b.length))] 80)) := (Same.refl _ _).alloc _
    have hg := get_any _ h 1 8 _ _ (HH.out.keepAll hs3) (by omega) (by have := HM.out; omega)
    rw [← HM.out] at hg
    refine hg.mono ?_
    rintro e w2 ⟨rfl, rfl⟩
    obtain ⟨gn, hgn⟩ : ∃ gn, gn = getN ((h.drop 1).take 8) := ⟨_, rfl⟩
    rw [← hgn]
    have hg8 : (h.drop 1).take 8 = h.drop 1 := List.take_of_length_le (by rw [List.length_drop, ← HM.out]; omega)
    rw [hg8] at hgn
    have HLK : Hid (lookL (h :: t) (decide (a < b.length)) = if gn = 0 ∨ 4611686018427387904 ≤ gn then none else (walkL t false []).map fun x => ⟨gn, x.1, decide (a < b.length) || x.2⟩) := Lib.hid (by
      simp only [lookL]
      rw [if_neg (by rw [← HM.out, HX'.out, hx]; simp), ← hgn])
    have HG := Lib.hid hgn
    clear hgn hg hg8
    by_cases hg0 : gn = 0
    · subst hg0
      go_wp2
      obtain ⟨R, hfin⟩ := look_zero (b := b) (o := .cells #[.int .u64 0, .slice none 0 0, .int .i64 b.length, .bool (decide (a < b.length))] 80) HR2.out HS1.out
      refine bodyPost_ret (look_results R rfl rfl) rfl ⟨0, none, 0, 0, 0, false, false, none, rfl, ⟨_, a, HSC.out, ?_⟩, hfin, rfl⟩
      rw [HLK.out]; simp
    have hg1 : ((gn : Int) == 0) = false := by simp; omega
    clear hg0
    by_cases hgm : (4611686018427387904 : Int) ≤ (gn : Int)
    · go_wp2
      obtain ⟨R, hfin⟩ := look_zero (b := b) (o := .cells #[.int .u64 gn, .slice none 0 0, .int .i64 b.length, .bool (decide (a < b.length))] 80) HR2.out HS1.out
      refine bodyPost_ret (look_results R rfl rfl) rfl ⟨0, none, 0, 0, 0, false, false, none, rfl, ⟨_, a, HSC.out, ?_⟩, hfin, rfl⟩
      rw [HLK.out, if_pos (Or.inr (by omega))]
    have hgl : (gn : Int) < 4611686018427387904 := by omega
    have hgd : decide ((4611686018427387904 : Int) ≤ (gn : Int)) = false := decide_eq_false hgm
    clear hgm
    have HLK : Hid (lookL (h :: t) (decide (a < b.length)) = (walkL t false []).map fun x => ⟨gn, x.1, decide (a < b.length) || x.2⟩) := Lib.hid (by
      rw [HLK.out, if_neg (by have : gn ≠ 0 := by simpa using hg1
                              omega)])
    have HGL := Lib.hid hgl
    clear hgl
    have hst := Lib.hid (LookIn.start w w1 gn b.length (decide (a < b.length)))
    by_cases hl1 : lc = 1
    · obtain rfl : lc = 1 := hl1
      obtain rfl : N = 1 := by omega
      have ht0 : t = [] := List.eq_nil_of_length_eq_zero (by have := HN.out; rw [List.length_cons] at this; omega)
      have HT0 := Lib.hid ht0
      clear ht0
      go_wp2
      go_loopw [7, 61] (fun wh i wr => i = .int .i64 0 ∧ wh = .bool false ∧ Hid (LookIn w w1 gn b.length (decide (a < b.length)) [] wr)) (fun _ i _ => 0)
      case atStart => exact ⟨rfl, rfl, hst⟩
      case round =>
        obtain ⟨rfl, rfl, HI⟩ := hrel
        clear hst c0 c1 c2 c3 z0 z1 z2 z3
        obtain ⟨XA, xc, us, hrx, hown, hels, hsx⟩ := HI.out
        have hr2 := HR2.out.keep hsx hlt1
        have f0 := hr2.cell 0
        have f1 := hr2.cell 1
        have f2 := hr2.cell 2
        have f3 := hr2.cell 3
        have z0 := hr2.frozen 0
        have z1 := hr2.frozen 1
        have z2 := hr2.frozen 2
        have z3 := hr2.frozen 3
        have e0 := hrx.cell 0
        have e1 := hrx.cell 1
        have e2 := hrx.cell 2
        have e3 := hrx.cell 3
        have hltx := hrx.lt
        have hlt2 := hr2.lt
        simp at e0 e1 e2 e3 f0 f1 f2 f3
        have HSX := Lib.hid hsx
        have HR2' := Lib.hid hr2
        clear hrx hown hels hsx hr2
        go_wp2
        obtain ⟨R, hfin⟩ := row4 (.int .u64 gn) (.slice XA 0 xc) (.int .i64 b.length) (.bool (decide (a < b.length))) HR2'.out (HS1.out.trans (HSX.out.mono fun _ h _ => h)) (Nat.le_refl _)
        exact bodyPost_ret (look_results R rfl rfl) rfl ⟨gn, XA, 0, xc, b.length, decide (a < b.length), false, none, rfl, ⟨_, a, HSC.out, by rw [HLK.out, HT0.out]; rfl⟩, hfin, rfl⟩
    obtain ⟨K, hK⟩ : ∃ K, N = K + 1 := ⟨N - 1, by omega⟩
    obtain ⟨C, hC⟩ : ∃ C, lc = C + 1 := ⟨lc - 1, by omega⟩
    subst hK hC
    have hl2 : 1 ≤ C := by omega
    have hKt : t.length = K := by have := HN.out; simp at this; omega
    go_wp2
    obtain ⟨adT, hadT⟩ : ∃ adT : Addr, adT = ⟨ad.block, ad.off + 1, none⟩ := ⟨_, rfl⟩
    rw [← hadT]
    have hTk : ∀ k, ad.add (k + 1) = adT.add k := fun k => by
      subst hadT
      unfold Addr.add
      by_cases hk : k = 0 <;> simp_all <;> omega
    have HTk := Lib.hid hTk
    have hTb : adT.block = ad.block := by rw [hadT]
    clear hTk hadT
    go_loopw [7, 61] (fun wh i wr => ∃ (k : Nat) (z : Bool) (acc : List (List UInt8)), k ≤ K ∧ acc.length ≤ k ∧ i = .int .i64 k ∧ wh = .bool z ∧ Hid (walkL t false [] = walkL (t.drop k) z acc) ∧ Hid (LookIn w w1 gn b.length (decide (a < b.length)) acc wr)) (fun _ i _ => K - (intOf i).toNat)
    case atStart => exact ⟨0, false, [], by omega, by simp, rfl, rfl, Lib.hid rfl, hst⟩
    case round =>
      obtain ⟨k, z, acc, hk, hak, rfl, rfl, HW, HI⟩ := hrel
      clear hst
      clear c0 c1 c2 c3 z0 z1 z2 z3
      obtain ⟨XA, xc, us, hrx, hown, hels, hsx⟩ := HI.out
      have hr2 := HR2.out.keep hsx hlt1
      have f0 := hr2.cell 0
      have f1 := hr2.cell 1
      have f2 := hr2.cell 2
      have f3 := hr2.cell 3
      have z0 := hr2.frozen 0
      have z1 := hr2.frozen 1
      have z2 := hr2.frozen 2
      have z3 := hr2.frozen 3
      have e0 := hrx.cell 0
      have e1 := hrx.cell 1
      have e2 := hrx.cell 2
      have e3 := hrx.cell 3
      have y1 := hrx.frozen 1
      have y3 := hrx.frozen 3
      have hltx := hrx.lt
      have hlt2 := hr2.lt
      simp at e0 e1 e2 e3 f0 f1 f2 f3
      have HRX := Lib.hid hrx
      have HOWN := Lib.hid hown
      have HELS := Lib.hid hels
      have HSX := Lib.hid hsx
      have HR2' := Lib.hid hr2
      clear hrx hown hels hsx hr2
      by_cases hkK : k < K
      case neg =>
        obtain rfl : k = K := by omega
        go_wp2
        obtain ⟨R, hfin⟩ := row4 (.int .u64 gn) (.slice XA acc.length xc) (.int .i64 b.length) (.bool (decide (a < b.length))) HR2'.out (HS1.out.trans (HSX.out.mono fun _ h _ => h)) (Nat.le_refl _)
        have hw : walkL t false [] = if z then some (acc, false) else none := by
          rw [HW.out, List.drop_of_length_le (by omega)]; rfl
        cases z
        · exact bodyPost_ret (look_results R rfl rfl) rfl ⟨gn, XA, acc.length, xc, b.length, decide (a < b.length), false, none, rfl, ⟨_, a, HSC.out, by rw [HLK.out, hw]; rfl⟩, hfin, rfl⟩
        · refine bodyPost_ret (look_results R rfl rfl) rfl ⟨gn, XA, acc.length, xc, b.length, decide (a < b.length), true, some ⟨gn, acc, decide (a < b.length)⟩, rfl, ⟨_, a, HSC.out, by rw [HLK.out, hw]; simp⟩, hfin, rfl, rfl, rfl, rfl, rfl, ?_⟩
          exact LookIn.list HOWN.out HELS.out hlt1 ((row4_same _ _ _ _).mono fun k _ hk => hk.1)
      obtain ⟨ad', uk, e, -, huk, hck⟩ := HSL.out.at_ (k := k + 1) (by have := HN.out; omega)
      injection e with e
      subst e
      obtain ⟨r, hr⟩ : ∃ r, r = t[k]'(by omega) := ⟨_, rfl⟩
      have hrk := (HEL.out (k + 1) uk r huk (by simp [hr])).mono (S' := fun j => w.heap.size < j ∧ j < w1.heap.size) (fun j h1 h2 => ⟨by simp at h2; omega, h1⟩)
      obtain ⟨Ar, cr, rfl, hcr, hmr, hslr⟩ := id hrk
      have hckr : wr.cell? (adT.add k) = some (.slice Ar r.length cr) := HSX.out.cell (by rw [block_of_add, hTb]; exact hab) (by rw [← HTk.out]; exact hck)
      have hrw := hrk.keep (HSX.out.mono (fun j _ h => h.2))
      have HWk : Hid (walkL (t.drop k) z acc = walkL (r :: t.drop (k + 1)) z acc) := Lib.hid (by rw [hr, List.drop_eq_getElem_cons (by omega)])
      have hcv := conv_by hrw
      have HRW := Lib.hid hrw
      clear hrk hrw huk hck hslr hr
      unfold maxLen at hmr
      obtain ⟨rl, hrl⟩ : ∃ rl, rl = r.length := ⟨_, rfl⟩
      rw [← hrl] at hckr hcv hcr
      have hcs : ∀ W, Same (fun j => j ≠ w1.heap.size) wr W → True := fun _ _ => trivial
      clear hcs
      rcases r with _ | ⟨y, r'⟩
      · obtain rfl : rl = 0 := hrl
        have hcv : (convert 24 9 (.slice Ar 0 cr)).run Try.prog wr = .ok (.string ⟨#[]⟩) wr := hcv
        cases z
        · go_wp2_with (with_reducible refine stopConv rfl ?_)
          unfold Hid
          refine wpList_conv rfl rfl rfl hcv ?_
          clear hcv
          go_wp2
          obtain ⟨R, hfin⟩ := row4 (.int .u64 0) (.slice none 0 0) (.int .i64 0) (.bool false) HR2'.out (HS1.out.trans (HSX.out.mono fun _ h _ => h)) (Nat.le_refl _)
          refine bodyPost_ret (look_results R rfl rfl) rfl ⟨0, none, 0, 0, 0, false, false, none, rfl, ⟨_, a, HSC.out, ?_⟩, hfin, rfl⟩
          rw [HLK.out, HW.out, HWk.out]
          simp [walkL]
        · clear hcv
          go_wp2
          have hR3 := HR2'.out.keep ((Same.refl (fun q => q ≠ w1.heap.size) wr).setCell (p := ⟨w1.heap.size, 3, none⟩) (fun _ h => h rfl) (.bool true)) (by omega)
          obtain ⟨R, hfin⟩ := row4 (.int .u64 gn) (.slice XA acc.length xc) (.int .i64 b.length) (.bool true) hR3 ((HS1.out.trans (HSX.out.mono fun _ h _ => h)).setCell (p := ⟨w1.heap.size, 3, none⟩) (fun h => absurd h (by show ¬ w1.heap.size < _; omega)) (.bool true)) (Nat.le_refl _)
          refine bodyPost_ret (look_results R rfl rfl) rfl ⟨gn, XA, acc.length, xc, b.length, true, true, some ⟨gn, acc, true⟩, rfl, ⟨_, a, HSC.out, ?_⟩, hfin, rfl, rfl, rfl, rfl, rfl, ?_⟩
          · rw [HLK.out, HW.out, HWk.out]
            simp [walkL]
          · exact LookIn.list HOWN.out HELS.out hlt1 (((Same.refl _ _).setCell (p := ⟨w1.heap.size, 3, none⟩) (fun _ h => h.2 rfl) (.bool true)).trans ((row4_same _ _ _ _).mono fun k _ hk => hk.1))
      have hrl0 : 0 < rl := by rw [hrl]; simp
      have hrl1 : 1 ≤ rl := by rw [hrl]; simp
      have hrl2 : (0 : Int) < (rl : Int) := by omega
      have hrd : decide ((0 : Int) < (rl : Int)) = true := decide_eq_true hrl2
      obtain ⟨Ar', cr', e, -, -, hslr⟩ := id HRW.out
      injection e with e1 e2 e3
      subst e1 e3
      obtain ⟨adr, ur, rfl, hbr, hur, hcur⟩ := hslr.at_ (k := 0) (by simp)
      have hur : ur = V8 y := by simpa using hur.symm
      subst hur
      have hcur : wr.cell? adr = some (V8 y) := by simpa [Addr.add] using hcur
      clear hslr e2
      have HRL := Lib.hid hrl
      clear hrl
      by_cases hy : y = 82
      case neg =>
        have hyn : n8 y ≠ 82 := fun e => hy (n8_inj.1 e)
        have hyb : (n8 y == 82) = false := by simpa using hyn
        obtain ⟨s, hs⟩ : ∃ s, s = str (y :: r') := ⟨_, rfl⟩
        rw [← hs] at hcv
        have HS := Lib.hid hs
        clear hs
        cases z
        · go_wp2_with (with_reducible refine stopConv rfl ?_)
          unfold Hid
          refine wpList_conv rfl rfl rfl hcv ?_
          clear hcv
          by_cases hE : s.toList = [69]
          · have hE2 : (s.toList == [69]) = true := by simp [hE]
            go_wp2
            go_roundw
            case rel =>
              refine ⟨k + 1, true, acc, by omega, by omega, by go_num, rfl, Lib.hid ?_, HI⟩
              have e : y :: r' = [69] := by
                have h1 := HS.out
                rw [h1] at hE
                rw [← hE]
                exact (str_toList _).symm
              rw [HW.out, HWk.out, e]
              simp [walkL]
            case measure => simp [intOf]; omega
          · have hE2 : (s.toList == [69]) = false := by simp [hE]
            go_wp2
            obtain ⟨R, hfin⟩ := row4 (.int .u64 0) (.slice none 0 0) (.int .i64 0) (.bool false) HR2'.out (HS1.out.trans (HSX.out.mono fun _ h _ => h)) (Nat.le_refl _)
            refine bodyPost_ret (look_results R rfl rfl) rfl ⟨0, none, 0, 0, 0, false, false, none, rfl, ⟨_, a, HSC.out, ?_⟩, hfin, rfl⟩
            rw [HLK.out, HW.out, HWk.out]
            have e : ¬ (y :: r' = [69]) := by
              rintro e
              apply hE
              rw [HS.out, e]
              exact str_toList _
            simp only [walkL]
            rw [if_neg (by simpa using hy), if_neg (by simp), if_neg e]
            rfl
        · clear hcv
          go_wp2
          have hR3 := HR2'.out.keep ((Same.refl (fun q => q ≠ w1.heap.size) wr).setCell (p := ⟨w1.heap.size, 3, none⟩) (fun _ h => h rfl) (.bool true)) (by omega)
          obtain ⟨R, hfin⟩ := row4 (.int .u64 gn) (.slice XA acc.length xc) (.int .i64 b.length) (.bool true) hR3 ((HS1.out.trans (HSX.out.mono fun _ h _ => h)).setCell (p := ⟨w1.heap.size, 3, none⟩) (fun h => absurd h (by show ¬ w1.heap.size < _; omega)) (.bool true)) (Nat.le_refl _)
          refine bodyPost_ret (look_results R rfl rfl) rfl ⟨gn, XA, acc.length, xc, b.length, true, true, some ⟨gn, acc, true⟩, rfl, ⟨_, a, HSC.out, ?_⟩, hfin, rfl, rfl, rfl, rfl, rfl, ?_⟩
          · rw [HLK.out, HW.out, HWk.out]
            simp only [walkL]
            rw [if_neg (by simpa using hy)]
            simp
          · exact LookIn.list HOWN.out HELS.out hlt1 (((Same.refl _ _).setCell (p := ⟨w1.heap.size, 3, none⟩) (fun _ h => h.2 rfl) (.bool true)).trans ((row4_same _ _ _ _).mono fun k _ hk => hk.1))
      obtain rfl : y = 82 := hy
      have hyb : (n8 82 == 82) = true := by rfl
      clear hcv
      by_cases hc1 : cr = 1
      · obtain rfl : cr = 1 := hc1
        obtain rfl : rl = 1 := by omega
        go_wp2
        refine wp_region_tail_lit (L := [.eq (.pointer (some ⟨w1.heap.size, 1, none⟩)), .eq (.slice XA acc.length xc), .eq (.slice (some adr) 1 1), .eq (.slice (some adr) 0 0), .of ⟨fun v w => ∃ q, v = .slice (some ⟨q, 0, none⟩) 1 1 ∧ wr.heap.size ≤ q ∧ Row w q 24 [(.slice (some adr) 0 0)], fun _ _ _ ⟨q, h1, h2, h3⟩ k => ⟨q, h1, h2, h3.keep k trivial⟩⟩]) 5 (by kernel_rfl) (by kernel_rfl) rfl rfl rfl ?_ ?_
        · refine ⟨?_, ?_, ?_, ?_, ?_, trivial⟩
          · intro ac wc hs hd hz hf hw K hK
            have e0 : ac.eval (.tmp 6) = (.pointer (some ⟨w1.heap.size, 0, none⟩)) := hf 6 rfl
            clear hd hz hf hw
            simp only [Region.wanted, if_true, Oper.wp, execOp, resolve, List.map_toArray, List.map_cons, List.map_nil, Option.map_some, Option.map_none, e0]
            go_simp
            exact hK _ _ rfl (Same.refl _ _)
          · intro ac wc hs hd hz hf hw K hK
            have e0 : ac.eval (.tmp 76) = (.pointer (some ⟨w1.heap.size, 1, none⟩)) := hw 0 rfl
            have m0 : wc.cell? ⟨w1.heap.size, 1, none⟩ = some (.slice XA acc.length xc) := hs.cell (p := ⟨w1.heap.size, 1, none⟩) trivial e1
            clear hd hz hf hw
            simp only [Region.wanted, if_true, Oper.wp, execOp, resolve, List.map_toArray, List.map_cons, List.map_nil, Option.map_some, Option.map_none, e0]
            go_simp
            exact hK _ _ rfl (Same.refl _ _)
          · intro ac wc hs hd hz hf hw K hK
            have e0 : ac.eval (.tmp 9) = (.slice (some adr) 1 1) := hf 9 rfl
            clear hd hz hf hw
            simp only [Region.wanted, if_true, Oper.wp, execOp, resolve, List.map_toArray, List.map_cons, List.map_nil, Option.map_some, Option.map_none, e0]
            go_simp
            exact hK _ _ rfl (Same.refl _ _)
          · intro ac wc hs hd hz hf hw K hK
            have e0 : ac.eval (.tmp 78) = (.slice (some adr) 1 1) := hw 2 rfl
            clear hd hz hf hw
            simp only [Region.wanted, if_true, Oper.wp, execOp, resolve, List.map_toArray, List.map_cons, List.map_nil, Option.map_some, Option.map_none, e0]
            go_simp
            exact hK _ _ rfl (Same.refl _ _)
          · intro ac wc hs hd hz hf hw K hK
            have e0 : ac.eval (.tmp 79) = (.slice (some adr) 0 0) := hw 3 rfl
            clear hd hz hf hw
            simp only [Region.wanted, if_true, Oper.wp, execOp, resolve, List.map_toArray, List.map_cons, List.map_nil, Option.map_some, Option.map_none, e0]
            go_simp
            exact hK _ _ ⟨_, rfl, hs.size, Row.new _ _ _⟩ ((Same.refl _ _).alloc _)
        · intro vs wR hvl hvp hsR
          rcases vs with _ | ⟨z0, _ | ⟨z1, _ | ⟨z2, _ | ⟨z3, _ | ⟨z4, _ | ⟨zz, zr⟩⟩⟩⟩⟩⟩
          rotate_right 1
          · simp at hvl
          · simp at hvl
          · simp at hvl
          · simp at hvl
          · simp at hvl
          · simp at hvl
          · obtain rfl : z0 = (.pointer (some ⟨w1.heap.size, 1, none⟩)) := hvp 0 (by omega)
            obtain rfl : z1 = (.slice XA acc.length xc) := hvp 1 (by omega)
            obtain rfl : z2 = (.slice (some adr) 1 1) := hvp 2 (by omega)
            obtain rfl : z3 = (.slice (some adr) 0 0) := hvp 3 (by omega)
            have hxb : (⟨fun v w => ∃ q, v = .slice (some ⟨q, 0, none⟩) 1 1 ∧ wr.heap.size ≤ q ∧ Row w q 24 [(.slice (some adr) 0 0)], fun _ _ _ ⟨q, h1, h2, h3⟩ k => ⟨q, h1, h2, h3.keep k trivial⟩⟩ : SP).p z4 wR := hvp 4 (by omega)
            clear hvl hvp
            simp only [putAll, Act.put, List.setIfInBounds_toArray, List.set_cons_succ, List.set_cons_zero, List.take_succ_cons, List.take_zero, List.drop_succ_cons, List.drop_zero, List.eraseIdx_cons_succ, List.eraseIdx_cons_zero]
            obtain ⟨q, rfl, hq, hrow⟩ := hxb
            have hru : By wr (fun j => w.heap.size < j ∧ j < w1.heap.size) (.slice (some adr) 0 0) r' := by
              have h1 := (HRW.out.drop (k := 1) (by simp))
              rw [if_pos rfl, ← HRL.out] at h1
              exact h1
            have hsl1 : Sl wR (fun _ => True) 1 (some ⟨q, 0, none⟩) 1 [(.slice (some adr) 0 0)] := by
              have := hrow.sl (size := 1) (off := 0) (n := 1) (by simp)
              exact (by simpa using this : Sl wR (fun k => k = q) 1 (some ⟨q, 0, none⟩) 1 [(.slice (some adr) 0 0)]).mono fun _ _ _ => trivial
            have hzR := hsR.size
            have hKb : K ≤ 125000 := by have := hal; have := HN.out; omega
            refine wpList_app TL _ rfl (.tmp 77) (.tmp 80) rfl (w1.heap.size + 1) _ acc.length us rfl (own_keepAll HOWN.out hsR) (fun _ => True) (some ⟨q, 0, none⟩) 1 1 [(.slice (some adr) 0 0)] rfl hsl1 (by simp [Value.oneCell']) (by simp only [maxLen]; omega) (by omega) (by omega) ?_
            intro v3 w3 hown3 hs3 _
            obtain ⟨A3, c3, rfl, -, -⟩ := own_cap hown3
            have hI2 := Lib.hid (LookIn.app HRX.out HOWN.out HELS.out HSX.out hsR hru hown3 hs3)
            have hr3 := (HRX.out.keep hsR trivial).keep hs3 (fun e => by have := own_ge HOWN.out e; omega)
            have g1 := hr3.cell 1
            have q1 := hr3.frozen 1
            have hl3 := hr3.lt
            simp at g1
            clear e0 e1 e2 e3 f0 f1 f2 f3 z0 z1 z2 z3 y1 y3 hckr hcur hr3 hown3 hs3 hsl1 hru hrow hsR
            go_wp2
            go_roundw
            case rel =>
              refine ⟨k + 1, z, acc ++ [r'], by omega, by simp; omega, by go_num, rfl, Lib.hid ?_, hI2⟩
              rw [HW.out, HWk.out]
              simp [walkL]
            case measure => simp [intOf]; omega
      · have hrl5 : (1 : Int) ≤ (rl : Int) := by omega
        have hrl6 : (rl : Int) ≤ (cr : Int) := by omega
        go_wp2
        refine wp_region_tail_lit (L := [.eq (.pointer (some ⟨w1.heap.size, 1, none⟩)), .eq (.slice XA acc.length xc), .eq (.slice (some adr) rl cr), .eq (.slice (some ⟨adr.block, adr.off + 1, none⟩) (rl - 1) (cr - 1)), .of ⟨fun v w => ∃ q, v = .slice (some ⟨q, 0, none⟩) 1 1 ∧ wr.heap.size ≤ q ∧ Row w q 24 [(.slice (some ⟨adr.block, adr.off + 1, none⟩) (rl - 1) (cr - 1))], fun _ _ _ ⟨q, h1, h2, h3⟩ k => ⟨q, h1, h2, h3.keep k trivial⟩⟩]) 5 (by kernel_rfl) (by kernel_rfl) rfl rfl rfl ?_ ?_
        · refine ⟨?_, ?_, ?_, ?_, ?_, trivial⟩
          · intro ac wc hs hd hz hf hw K hK
            have e0 : ac.eval (.tmp 6) = (.pointer (some ⟨w1.heap.size, 0, none⟩)) := hf 6 rfl
            clear hd hz hf hw
            simp only [Region.wanted, if_true, Oper.wp, execOp, resolve, List.map_toArray, List.map_cons, List.map_nil, Option.map_some, Option.map_none, e0]
            go_simp
            exact hK _ _ rfl (Same.refl _ _)
          · intro ac wc hs hd hz hf hw K hK
            have e0 : ac.eval (.tmp 76) = (.pointer (some ⟨w1.heap.size, 1, none⟩)) := hw 0 rfl
            have m0 : wc.cell? ⟨w1.heap.size, 1, none⟩ = some (.slice XA acc.length xc) := hs.cell (p := ⟨w1.heap.size, 1, none⟩) trivial e1
            clear hd hz hf hw
            simp only [Region.wanted, if_true, Oper.wp, execOp, resolve, List.map_toArray, List.map_cons, List.map_nil, Option.map_some, Option.map_none, e0]
            go_simp
            exact hK _ _ rfl (Same.refl _ _)
          · intro ac wc hs hd hz hf hw K hK
            have e0 : ac.eval (.tmp 9) = (.slice (some adr) rl cr) := hf 9 rfl
            clear hd hz hf hw
            simp only [Region.wanted, if_true, Oper.wp, execOp, resolve, List.map_toArray, List.map_cons, List.map_nil, Option.map_some, Option.map_none, e0]
            go_simp
            exact hK _ _ rfl (Same.refl _ _)
          · intro ac wc hs hd hz hf hw K hK
            have e0 : ac.eval (.tmp 78) = (.slice (some adr) rl cr) := hw 2 rfl
            clear hd hz hf hw
            simp only [Region.wanted, if_true, Oper.wp, execOp, resolve, List.map_toArray, List.map_cons, List.map_nil, Option.map_some, Option.map_none, e0]
            go_simp
            exact hK _ _ rfl (Same.refl _ _)
          · intro ac wc hs hd hz hf hw K hK
            have e0 : ac.eval (.tmp 79) = (.slice (some ⟨adr.block, adr.off + 1, none⟩) (rl - 1) (cr - 1)) := hw 3 rfl
            clear hd hz hf hw
            simp only [Region.wanted, if_true, Oper.wp, execOp, resolve, List.map_toArray, List.map_cons, List.map_nil, Option.map_some, Option.map_none, e0]
            go_simp
            exact hK _ _ ⟨_, rfl, hs.size, Row.new _ _ _⟩ ((Same.refl _ _).alloc _)
        · intro vs wR hvl hvp hsR
          rcases vs with _ | ⟨z0, _ | ⟨z1, _ | ⟨z2, _ | ⟨z3, _ | ⟨z4, _ | ⟨zz, zr⟩⟩⟩⟩⟩⟩
          rotate_right 1
          · simp at hvl
          · simp at hvl
          · simp at hvl
          · simp at hvl
          · simp at hvl
          · simp at hvl
          · obtain rfl : z0 = (.pointer (some ⟨w1.heap.size, 1, none⟩)) := hvp 0 (by omega)
            obtain rfl : z1 = (.slice XA acc.length xc) := hvp 1 (by omega)
            obtain rfl : z2 = (.slice (some adr) rl cr) := hvp 2 (by omega)
            obtain rfl : z3 = (.slice (some ⟨adr.block, adr.off + 1, none⟩) (rl - 1) (cr - 1)) := hvp 3 (by omega)
            have hxb : (⟨fun v w => ∃ q, v = .slice (some ⟨q, 0, none⟩) 1 1 ∧ wr.heap.size ≤ q ∧ Row w q 24 [(.slice (some ⟨adr.block, adr.off + 1, none⟩) (rl - 1) (cr - 1))], fun _ _ _ ⟨q, h1, h2, h3⟩ k => ⟨q, h1, h2, h3.keep k trivial⟩⟩ : SP).p z4 wR := hvp 4 (by omega)
            clear hvl hvp
            simp only [putAll, Act.put, List.setIfInBounds_toArray, List.set_cons_succ, List.set_cons_zero, List.take_succ_cons, List.take_zero, List.drop_succ_cons, List.drop_zero, List.eraseIdx_cons_succ, List.eraseIdx_cons_zero]
            obtain ⟨q, rfl, hq, hrow⟩ := hxb
            have hru : By wr (fun j => w.heap.size < j ∧ j < w1.heap.size) (.slice (some ⟨adr.block, adr.off + 1, none⟩) (rl - 1) (cr - 1)) r' := by
              have h1 := (HRW.out.drop (k := 1) (by simp))
              rw [if_neg hc1, ← HRL.out] at h1
              exact h1
            have hsl1 : Sl wR (fun _ => True) 1 (some ⟨q, 0, none⟩) 1 [(.slice (some ⟨adr.block, adr.off + 1, none⟩) (rl - 1) (cr - 1))] := by
              have := hrow.sl (size := 1) (off := 0) (n := 1) (by simp)
              exact (by simpa using this : Sl wR (fun k => k = q) 1 (some ⟨q, 0, none⟩) 1 [(.slice (some ⟨adr.block, adr.off + 1, none⟩) (rl - 1) (cr - 1))]).mono fun _ _ _ => trivial
            have hzR := hsR.size
            have hKb : K ≤ 125000 := by have := hal; have := HN.out; omega
            refine wpList_app TL _ rfl (.tmp 77) (.tmp 80) rfl (w1.heap.size + 1) _ acc.length us rfl (own_keepAll HOWN.out hsR) (fun _ => True) (some ⟨q, 0, none⟩) 1 1 [(.slice (some ⟨adr.block, adr.off + 1, none⟩) (rl - 1) (cr - 1))] rfl hsl1 (by simp [Value.oneCell']) (by simp only [maxLen]; omega) (by omega) (by omega) ?_
            intro v3 w3 hown3 hs3 _
            obtain ⟨A3, c3, rfl, -, -⟩ := own_cap hown3
            have hI2 := Lib.hid (LookIn.app HRX.out HOWN.out HELS.out HSX.out hsR hru hown3 hs3)
            have hr3 := (HRX.out.keep hsR trivial).keep hs3 (fun e => by have := own_ge HOWN.out e; omega)
            have g1 := hr3.cell 1
            have q1 := hr3.frozen 1
            have hl3 := hr3.lt
            simp at g1
            clear e0 e1 e2 e3 f0 f1 f2 f3 z0 z1 z2 z3 y1 y3 hckr hcur hr3 hown3 hs3 hsl1 hru hrow hsR
            go_wp2
            go_roundw
            case rel =>
              refine ⟨k + 1, z, acc ++ [r'], by omega, by simp; omega, by go_num, rfl, Lib.hid ?_, hI2⟩
              rw [HW.out, HWk.out]
              simp [walkL]
            case measure => simp [intOf]; omega
end Go.Proofs.Ytpjinngngbifoaa
