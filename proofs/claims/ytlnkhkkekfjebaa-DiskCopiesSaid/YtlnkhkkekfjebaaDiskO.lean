/-
  A run of operations on a disk, as it reads; and which runs are light.
-/
import Derived.Test.YtlnkhkkekfjebaaCod
import Derived.Test.YtlnkhkkekfjebaaSumL
set_option linter.unusedSimpArgs false
set_option linter.unusedVariables false
namespace Go.Proofs.Ytlnkhkkekfjebaa
open Go.RowKit Go.ChangeShapes Go.WideShapes Go.ChangeAt

structure OpM where
  kind : Int
  f : Int
  n : Int
  b : List UInt8
  keep : List Int
def cInts : Codec Try.prog 34 (List Int) where
  ok w S vs ns := ∃ v, vs = [v] ∧ Ints w S v ns
  keep hs h := by
    obtain ⟨v, h1, h2⟩ := h
    exact ⟨v, h1, h2.keep hs⟩
  size h := by
    obtain ⟨v, rfl, _⟩ := h
    rw [show Try.prog.cellsOf 34 = 1 by kernel_rfl]; rfl
  opens h := by
    rcases open_ints Try.underlying34 Try.underlying3 (by kernel_rfl) h with ⟨rfl, _⟩ | ⟨a, len, cap, zs, rfl, _, hl, hm, hz, _, hcell, hwz⟩
    · exact ⟨[], _, rfl, none, 0, rfl, by simp, by simp [maxLen], Sl.nil _ _ _ _, by simp⟩
    · simp only [if_true] at hz
      have e : (zs.take len).length = len := by simp; omega
      refine ⟨zs.take len, _, rfl, some a, cap, by rw [e], by rw [e]; exact hl, hm, ⟨by simp, fun hn => ⟨_, rfl, ?_, fun j u hu => ?_⟩⟩, fun n hn => i64_of_wf (hwz n (List.mem_of_mem_take hn))⟩
      · have hb := World.block_lt_of_cell? _ _ (hcell 0 (by rw [e] at hn; omega))
        rw [block_of_add] at hb
        exact hb
      · simp only [List.getElem?_map, List.getElem?_take] at hu
        split at hu
        · have hj' : j < zs.length := by omega
          rw [List.getElem?_eq_getElem hj'] at hu
          simp at hu
          subst hu
          rw [hcell j hj']
          simp [List.getD, List.getElem?_eq_getElem hj']
        · simp at hu
def cI : Codec Try.prog 3 Int := cInt .i64 Try.underlying3 (by kernel_rfl)
def cB : Codec Try.prog 27 (List UInt8) := cBytes Try.underlying27 Try.underlying5 (by kernel_rfl) (by kernel_rfl)
set_option maxRecDepth 100000 in
def cOp : Codec Try.prog 53 OpM :=
  cStruct (fcons 0 1 cI (fcons 1 1 cI (fcons 2 1 cI (fcons 3 1 cB (fcons 4 1 cInts fnil))))) (fun x => ⟨x.1, x.2.1, x.2.2.1, x.2.2.2.1, x.2.2.2.2.1⟩) Try.underlying53
theorem cOp_cells : Try.prog.cellsOf 53 = 5 := by kernel_rfl
theorem cells_of {w : World} {ad : Addr} {us : List Value} {n i : Nat} (h : ∀ j u, us[j]? = some u → w.cell? (ad.add (n + j)) = some u) {j : Nat} {u : Value} (hu : us[j]? = some u) : w.cell? (ad.add (n + j)) = some u := h j u hu
set_option maxRecDepth 100000 in
/-- The cells of one operation. -/
theorem op_at {w : World} {S : Nat → Prop} {A : Option Addr} {n c i : Nat} {ops : List OpM} (h : SlOf cOp w S (.slice A n c) ops) (hi : i < ops.length) :
    ∃ ad vb vk, A = some ad ∧ S ad.block ∧ w.cell? (ad.add (i * 5)) = some (.int .i64 ops[i].kind) ∧ w.cell? ⟨(ad.add (i * 5)).block, (ad.add (i * 5)).off + 1, none⟩ = some (.int .i64 ops[i].f) ∧ w.cell? ⟨(ad.add (i * 5)).block, (ad.add (i * 5)).off + 2, none⟩ = some (.int .i64 ops[i].n) ∧
      w.cell? ⟨(ad.add (i * 5)).block, (ad.add (i * 5)).off + 3, none⟩ = some vb ∧ w.cell? ⟨(ad.add (i * 5)).block, (ad.add (i * 5)).off + 4, none⟩ = some vk ∧ By w S vb ops[i].b ∧ Ints w S vk ops[i].keep ∧
      (-9223372036854775808 ≤ ops[i].kind ∧ ops[i].kind ≤ 9223372036854775807) ∧ (-9223372036854775808 ≤ ops[i].f ∧ ops[i].f ≤ 9223372036854775807) ∧ (-9223372036854775808 ≤ ops[i].n ∧ ops[i].n ≤ 9223372036854775807) := by
  obtain ⟨A', c', hv, _, _, he⟩ := h
  injection hv with hA
  subst hA
  obtain ⟨ad, us, rfl, hS, hc, hlen, ⟨x0, x1, x2, x3, x4, x5⟩, hx, h0, h1, h2, h3, h4, -⟩ := he i ops[i] (List.getElem?_eq_getElem hi)
  rw [hx]
  rw [cOp_cells] at hlen hc
  match us, hlen with
  | [a0, a1, a2, a3, a4], _ =>
    obtain ⟨b0, w0⟩ := h0
    obtain ⟨b1, w1⟩ := h1
    obtain ⟨b2, w2⟩ := h2
    obtain ⟨v3, b3, w3⟩ := h3
    obtain ⟨v4, b4, w4⟩ := h4
    obtain rfl := (List.cons.inj b0).1
    obtain rfl := (List.cons.inj b1).1
    obtain rfl := (List.cons.inj b2).1
    obtain rfl := (List.cons.inj b3).1
    obtain rfl := (List.cons.inj b4).1
    exact ⟨ad, a3, a4, rfl, hS, hc 0 _ rfl, (by have := hc 1 _ rfl; rwa [← add_of_add] at this), (by have := hc 2 _ rfl; rwa [← add_of_add] at this), (by have := hc 3 _ rfl; rwa [← add_of_add] at this), (by have := hc 4 _ rfl; rwa [← add_of_add] at this), w3, w4, i64_of_wf w0, i64_of_wf w1, i64_of_wf w2⟩
set_option maxRecDepth 100000 in
theorem open_ops {H : Type} {enc : TypeId × Value → H} {W : World} {base : Nat} {v : Value} {d : DataW H} {ps : List MemPlace} (hval : Value.okWide Try.prog W .any base 49 v)
    (h : DataW.Trod enc Try.prog W 0 (fun _ => true) true 49 v d ps) : ∃ ops, SlOf cOp W (· < W.heap.size) v ops := by
  obtain ⟨a0, len0, cap0, rfl⟩ := okWide_slice Try.underlying49 hval
  obtain ⟨fuel, hf⟩ := h
  obtain ⟨v, l, hv, hby⟩ := SlOf.opens (C := cOp) Try.underlying49 (by rw [cOp_cells]; omega) hf
  simp [Value.cells] at hv
  subst hv
  exact ⟨l, hby⟩
/-- Are operations not too great? -/
def light (most : Int) (ops : List OpM) : Bool := decide (((ops.length : Int) ≤ most) ∧ ∀ o ∈ ops, o.b.length ≤ 1000 ∧ o.keep.length ≤ 10)
theorem light_no {most : Int} {ops : List OpM} {k : Nat} (hk : k < ops.length) (h : 1000 < (ops[k].b.length : Int) ∨ 10 < (ops[k].keep.length : Int)) : light most ops = false := by
  unfold light
  rw [decide_eq_false_iff_not]
  rintro ⟨_, h2⟩
  have := h2 ops[k] (List.getElem_mem hk)
  omega
theorem take_more {α : Type} {p : α → Prop} {l : List α} {k : Nat} (hk : k < l.length) (h : ∀ o ∈ l.take k, p o) (h1 : p l[k]) : ∀ o ∈ l.take (k + 1), p o := by
  rw [List.take_succ_eq_append_getElem hk]
  intro o ho
  rcases List.mem_append.1 ho with h2 | h2
  · exact h o h2
  · rw [List.mem_singleton.1 h2]; exact h1
theorem light_yes {most : Int} {ops : List OpM} (h1 : (ops.length : Int) ≤ most) (h : ∀ o ∈ ops.take ops.length, o.b.length ≤ 1000 ∧ o.keep.length ≤ 10) : light most ops = true := by
  rw [List.take_length] at h
  unfold light
  simpa using ⟨h1, h⟩
theorem light_out {most : Int} {ops : List OpM} (h : light most ops = true) : (ops.length : Int) ≤ most ∧ ∀ k (hk : k < ops.length), ops[k].b.length ≤ 1000 ∧ ops[k].keep.length ≤ 10 := by
  unfold light at h
  have h := of_decide_eq_true h
  exact ⟨h.1, fun k hk => h.2 _ (List.getElem_mem hk)⟩
theorem ret_bool {a b : Bool} (h : a = b) : Ending.returned (.bool b) = .returned (.bool a) := by rw [h]
set_option maxRecDepth 100000 in
theorem light_any (v : Value) (ops : List OpM) (most : Int) (S : Nat → Prop) (w : World) (hv : SlOf cOp w S v ops) (hm0 : 0 ≤ most ∧ most ≤ 1000) :
    Calls Try.prog 42 #[v, .int .i64 most] w fun e w' => e = .returned (.bool (light most ops)) ∧ w = w' := by
  have hv' := hv
  obtain ⟨A, c, rfl, hc, hm, -⟩ := hv'
  have H := Lib.hid hv
  unfold maxLen at hm
  clear hv
  by_cases hlong : most < ops.length
  · have hf : light most ops = false := by simp [light]; omega
    have Hf := Lib.hid hf
    clear hf
    go_enter Try.func42, Try.ntmps42
    go_wp2
    go_ret
    exact ⟨by rw [Hf.out]; rfl, rfl⟩
  · go_enter Try.func42, Try.ntmps42
    go_wp2
    go_loop [5] (fun i => ∃ k : Nat, k ≤ ops.length ∧ i = .int .i64 k ∧ ∀ o ∈ ops.take k, o.b.length ≤ 1000 ∧ o.keep.length ≤ 10) (fun i => ops.length - (intOf i).toNat)
    case atStart => exact ⟨0, by omega, rfl, by simp⟩
    case round =>
      obtain ⟨k, hk, rfl, ho⟩ := hrel
      by_cases hlt : k < ops.length
      · obtain ⟨ad, vb, vk, rfl, -, c0, c1, c2, c3, c4, hb, hkp, -, -, -⟩ := op_at H.out hlt
        obtain ⟨A1, c1', rfl, -, hm1, -⟩ := hb
        obtain ⟨A2, c2', rfl, -, hm2, -⟩ := hkp
        unfold maxLen at hm1 hm2
        go_wp2
        · go_ret
          exact ⟨ret_bool (light_no hlt (by assumption)), rfl⟩
        · refine ⟨⟨k + 1, by omega, by go_num, take_more hlt ho (by omega)⟩, by simp [intOf]; omega⟩
        · go_ret
          exact ⟨ret_bool (light_no hlt (.inl (by assumption))), rfl⟩
      · obtain rfl : k = ops.length := by omega
        go_wp2
        go_ret
        exact ⟨ret_bool (light_yes (by omega) ho), rfl⟩
end Go.Proofs.Ytlnkhkkekfjebaa
