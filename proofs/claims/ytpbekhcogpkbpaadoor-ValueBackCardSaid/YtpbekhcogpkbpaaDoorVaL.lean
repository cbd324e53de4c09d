/-
  The arguments of the value laws, opened; what the row's condition gives; the five laws over their walks.
-/
import Derived.Test.YtpbekhcogpkbpaaDoorVaWr
import Derived.Test.YtpbekhcogpkbpaaDoorCod
import Derived.Test.YtpbekhcogpkbpaaDoorLibC
set_option linter.unusedSimpArgs false
set_option linter.unusedVariables false
namespace Go.Proofs.YtpbekhcogpkbpaaDoor
open Go.RowKit Go.ChangeShapes Go.WideShapes Go.ChangeAt

theorem envT_of {W : World} (hsh : W.ShapedOpen Tryd.prog) (h : laidMet Tryd.prog Rows.valueWritesRow.laid W) : EnvT W := by
  have hm : ("internal/strconv.uint64pow10", (Rows.laid_internal_strconv_uint64pow10 : DataW Unit)) ∈ Rows.valueWritesRow.laid := List.Mem.tail _ (List.Mem.tail _ (List.Mem.head _))
  have e : (Rows.laid_internal_strconv_uint64pow10 : DataW Unit) = Lib.tabData .u64 Lib.pow10Tab := by kernel_rfl
  rw [e] at hm
  exact ⟨tabIs_of_mem (t := 87) (e := 43) (n := 20) pow_at (by kernel_rfl) Tryd.underlying87 Tryd.underlying43 (by kernel_rfl) (by kernel_rfl) h hm, Tryd.laysM219.s1_3 W hsh⟩
set_option maxRecDepth 100000 in
def cVal : Codec Tryd.prog 24 Val :=
  cStruct (fcons 0 1 (cInt .i64 Tryd.underlying3 (by kernel_rfl)) (fcons 1 1 (cInt .i64 Tryd.underlying2 (by kernel_rfl)) (fcons 2 1 (cStr Tryd.underlying9 (by kernel_rfl)) fnil))) (fun x => ⟨x.1, x.2.1, x.2.2.1⟩) Tryd.underlying24
theorem cVal_ok {w : World} {S : Nat → Prop} {vs : List Value} {v : Val} (h : cVal.ok w S vs v) : vs = valCs v ∧ I64 v.n := by
  obtain ⟨hlen, ⟨x0, x1, x2, x3⟩, hx, ⟨h0, k0⟩, ⟨h1, k1⟩, ⟨h2, k2⟩, -⟩ := h
  have hlen : vs.length = 3 := hlen.trans (by kernel_rfl)
  match vs, hlen with
  | [a0, a1, a2], _ =>
    obtain rfl := (List.cons.inj h0).1
    obtain rfl := (List.cons.inj h1).1
    obtain rfl := (List.cons.inj h2).1
    subst hx
    exact ⟨rfl, i64_of_wf k1⟩
theorem agg_of {v : Value} {l : List Value} (h : v.cells.toList = l) (hl : 2 ≤ l.length) : v = .agg l.toArray := by
  cases v <;> first
    | (simp [Value.cells] at h; subst h; simp at hl; done)
    | (simp [Value.cells] at h; subst h; simp)
set_option maxRecDepth 100000 in
theorem open_val {H : Type} {enc : TypeId × Value → H} {W : World} {base : Nat} {v : Value} {d : DataW H} {ps : List MemPlace} (hval : Value.okWide Tryd.prog W .any base 24 v)
    (h : DataW.Trod enc Tryd.prog W 0 (fun _ => true) true 24 v d ps) : ∃ x : Val, v = valV x ∧ I64 x.n := by
  obtain ⟨t, ht⟩ := cVal.arg h
  obtain ⟨h1, h2⟩ := cVal_ok ht
  exact ⟨t, agg_of h1 (by simp [valCs]), h2⟩
set_option maxRecDepth 100000 in
theorem open_bytes {H : Type} {enc : TypeId × Value → H} {W : World} {base : Nat} {v : Value} {d : DataW H} {ps : List MemPlace} (hval : Value.okWide Tryd.prog W .any base 22 v)
    (h : DataW.Trod enc Tryd.prog W 0 (fun _ => true) true 22 v d ps) : ∃ bs, By W (· < W.heap.size) v bs := by
  obtain ⟨a0, len0, cap0, rfl⟩ := okWide_slice Tryd.underlying22 hval
  obtain ⟨fuel, hf⟩ := h
  obtain ⟨v, l, hv, hby⟩ := By.ofTrod Tryd.underlying22 Tryd.underlying5 (by kernel_rfl) hf
  simp [Value.cells] at hv
  subst hv
  exact ⟨l, hby⟩
set_option maxRecDepth 100000 in
theorem valueWrites_law {H : Type} {enc : TypeId × Value → H} : LawWalkC Tryd.prog 3 Tryd.f3 Rows.valueWritesRow.laid H enc := by
  intro W base args ds ps hval hA hsh hL
  have hE := envT_of hsh hL
  rw [Tryd.params3] at hval
  have hA : DataW.TrodAll enc Tryd.prog W 0 (fun _ => true) true [22, 24] args ds ps := hA
  obtain ⟨v0, vs0, d0, ds0, p0, q0, hargs, rfl, rfl, h0, r0⟩ := trodAll_cons hA
  obtain ⟨v1, vs1, d1, ds1, p1, q1, rfl, rfl, rfl, h1, r1⟩ := trodAll_cons r0
  obtain ⟨rfl, rfl, rfl⟩ := trodAll_nil r1
  subst hargs
  obtain ⟨x0, g0⟩ := open_bytes (hval 0 22 v0 rfl rfl) h0
  obtain ⟨x1, rfl, g1⟩ := open_val (hval 1 24 v1 rfl rfl) h1
  exact writes_walk x1 v0 x0 _ W g0 hE g1
set_option maxRecDepth 100000 in
theorem valueKeys_law {H : Type} {enc : TypeId × Value → H} : LawWalkC Tryd.prog 4 Tryd.f4 Rows.valueKeysRow.laid H enc := by
  intro W base args ds ps hval hA hsh hL
  have hE := envT_of hsh hL
  rw [Tryd.params4] at hval
  have hA : DataW.TrodAll enc Tryd.prog W 0 (fun _ => true) true [24, 24] args ds ps := hA
  obtain ⟨v0, vs0, d0, ds0, p0, q0, hargs, rfl, rfl, h0, r0⟩ := trodAll_cons hA
  obtain ⟨v1, vs1, d1, ds1, p1, q1, rfl, rfl, rfl, h1, r1⟩ := trodAll_cons r0
  obtain ⟨rfl, rfl, rfl⟩ := trodAll_nil r1
  subst hargs
  obtain ⟨x0, rfl, g0⟩ := open_val (hval 0 24 v0 rfl rfl) h0
  obtain ⟨x1, rfl, g1⟩ := open_val (hval 1 24 v1 rfl rfl) h1
  exact keys_walk x0 x1 W hE g0 g1
set_option maxRecDepth 100000 in
theorem valueOrder_law {H : Type} {enc : TypeId × Value → H} : LawWalkC Tryd.prog 5 Tryd.f5 Rows.valueOrderRow.laid H enc := by
  intro W base args ds ps hval hA hsh hL
  have hE := envT_of hsh hL
  rw [Tryd.params5] at hval
  have hA : DataW.TrodAll enc Tryd.prog W 0 (fun _ => true) true [24, 24, 24] args ds ps := hA
  obtain ⟨v0, vs0, d0, ds0, p0, q0, hargs, rfl, rfl, h0, r0⟩ := trodAll_cons hA
  obtain ⟨v1, vs1, d1, ds1, p1, q1, rfl, rfl, rfl, h1, r1⟩ := trodAll_cons r0
  obtain ⟨v2, vs2, d2, ds2, p2, q2, rfl, rfl, rfl, h2, r2⟩ := trodAll_cons r1
  obtain ⟨rfl, rfl, rfl⟩ := trodAll_nil r2
  subst hargs
  obtain ⟨x0, rfl, g0⟩ := open_val (hval 0 24 v0 rfl rfl) h0
  obtain ⟨x1, rfl, g1⟩ := open_val (hval 1 24 v1 rfl rfl) h1
  obtain ⟨x2, rfl, g2⟩ := open_val (hval 2 24 v2 rfl rfl) h2
  exact order_walk x0 x1 x2 W hE
set_option maxRecDepth 100000 in
theorem valueReads_law {H : Type} {enc : TypeId × Value → H} : LawWalkC Tryd.prog 6 Tryd.f6 Rows.valueReadsRow.laid H enc := by
  intro W base args ds ps hval hA hsh hL
  have hE := envT_of hsh hL
  rw [Tryd.params6] at hval
  have hA : DataW.TrodAll enc Tryd.prog W 0 (fun _ => true) true [22] args ds ps := hA
  obtain ⟨v0, vs0, d0, ds0, p0, q0, hargs, rfl, rfl, h0, r0⟩ := trodAll_cons hA
  obtain ⟨rfl, rfl, rfl⟩ := trodAll_nil r0
  subst hargs
  obtain ⟨x0, g0⟩ := open_bytes (hval 0 22 v0 rfl rfl) h0
  exact reads_walk v0 x0 _ W g0 hE
set_option maxRecDepth 100000 in
theorem valueBack_law {H : Type} {enc : TypeId × Value → H} : LawWalkC Tryd.prog 7 Tryd.f7 Rows.valueBackRow.laid H enc := by
  intro W base args ds ps hval hA hsh hL
  have hE := envT_of hsh hL
  rw [Tryd.params7] at hval
  have hA : DataW.TrodAll enc Tryd.prog W 0 (fun _ => true) true [24, 22] args ds ps := hA
  obtain ⟨v0, vs0, d0, ds0, p0, q0, hargs, rfl, rfl, h0, r0⟩ := trodAll_cons hA
  obtain ⟨v1, vs1, d1, ds1, p1, q1, rfl, rfl, rfl, h1, r1⟩ := trodAll_cons r0
  obtain ⟨rfl, rfl, rfl⟩ := trodAll_nil r1
  subst hargs
  obtain ⟨x0, rfl, g0⟩ := open_val (hval 0 24 v0 rfl rfl) h0
  obtain ⟨x1, g1⟩ := open_bytes (hval 1 22 v1 rfl rfl) h1
  exact back_walk x0 v1 x1 _ W g1 hE g0
end Go.Proofs.YtpbekhcogpkbpaaDoor
