/-
  The operations of the laws of wal: how they read, and which are not too great.
-/
import Derived.Test.YtpjinngngbifoaaWalT
import Derived.Test.YtpjinngngbifoaaCod
set_option linter.unusedSimpArgs false
set_option linter.unusedVariables false
namespace Go.Proofs.Ytpjinngngbifoaa
open Go.RowKit Go.ChangeShapes Go.WideShapes Go.ChangeAt

structure OpW where
  kind : Int
  n : Int
  made : Bool
  b : List UInt8
  l : List (List UInt8)
  keep : List Int
theorem Ints.ofTrod {H : Type} {enc : TypeId × Value → H} {W : World} {fuel : Nat} {cs : List Value} {x : DataW H × List MemPlace} (h : DataW.trod enc Try.prog W 0 (fun _ => true) true fuel 48 cs = some x) : ∃ v ns, cs = [v] ∧ Ints W (· < W.heap.size) v ns := by
  rcases open_ints Try.underlying48 Try.underlying3 (by kernel_rfl) h with ⟨rfl, _⟩ | ⟨a, len, cap, zs, rfl, _, hl, hm, hz, _, hcell, hwz⟩
  · exact ⟨_, [], rfl, none, 0, rfl, by simp, by simp [maxLen], Sl.nil _ _ _ _, by simp⟩
  · simp only [if_true] at hz
    have e : (zs.take len).length = len := by simp; omega
    refine ⟨_, zs.take len, rfl, some a, cap, by rw [e], by rw [e]; exact hl, hm, ⟨by simp, fun hn => ⟨_, rfl, ?_, fun j u hu => ?_⟩⟩, fun n hn => i64_of_wf (hwz n (List.mem_of_mem_take hn))⟩
    · have hb := World.block_lt_of_cell? _ _ (hcell 0 (by rw [e] at hn; omega))
      rw [block_of_add] at hb
      exact hb
    · simp only [List.getElem?_map, List.getElem?_take] at hu
      split at hu
      · have hj' : j < zs.length := by omega
        rw [List.getElem?_eq_getElem hj'] at hu
        simp at hu
        subst hu
        rw [hcell j hj']
        simp [List.getD, List.getElem?_eq_getElem hj']
      · simp at hu
def cIntsW : Codec Try.prog 48 (List Int) where
  ok w S vs ns := ∃ v, vs = [v] ∧ Ints w S v ns
  keep hs h := by
    obtain ⟨v, h1, h2⟩ := h
    exact ⟨v, h1, h2.keep hs⟩
  size h := by
    obtain ⟨v, rfl, _⟩ := h
    rw [show Try.prog.cellsOf 48 = 1 by kernel_rfl]; rfl
  opens h := by
    obtain ⟨v, ns, h1, h2⟩ := Ints.ofTrod h
    exact ⟨ns, v, h1, h2⟩
def cLW : Codec Try.prog 22 (List (List UInt8)) where
  ok w S vs l := ∃ v, vs = [v] ∧ ByL w S v l
  keep hs h := by
    obtain ⟨v, h1, h2⟩ := h
    exact ⟨v, h1, h2.keep hs⟩
  size h := by
    obtain ⟨v, rfl, _⟩ := h
    rw [show Try.prog.cellsOf 22 = 1 by kernel_rfl]; rfl
  opens h := by
    obtain ⟨v, l, h1, h2⟩ := ByL.ofTrod Try.underlying22 Try.underlying24 Try.underlying5 (by kernel_rfl) (by kernel_rfl) h
    exact ⟨l, v, h1, h2⟩
def cIW : Codec Try.prog 3 Int := cInt .i64 Try.underlying3 (by kernel_rfl)
def cBW : Codec Try.prog 24 (List UInt8) := cBytes Try.underlying24 Try.underlying5 (by kernel_rfl) (by kernel_rfl)
def cOW : Codec Try.prog 4 Bool := cBool Try.underlying4 (by kernel_rfl)
set_option maxRecDepth 100000 in
def cOpW : Codec Try.prog 53 OpW :=
  cStruct (fcons 0 1 cIW (fcons 1 1 cIW (fcons 2 1 cOW (fcons 3 1 cBW (fcons 4 1 cLW (fcons 5 1 cIntsW fnil)))))) (fun x => ⟨x.1, x.2.1, x.2.2.1, x.2.2.2.1, x.2.2.2.2.1, x.2.2.2.2.2.1⟩) Try.underlying53
theorem cOpW_cells : Try.prog.cellsOf 53 = 6 := by kernel_rfl
set_option maxRecDepth 100000 in
/-- The cells of one operation. -/
theorem opw_at {w : World} {S : Nat → Prop} {A : Option Addr} {n c i : Nat} {ops : List OpW} (h : SlOf cOpW w S (.slice A n c) ops) (hi : i < ops.length) :
    ∃ ad vb vl vk, A = some ad ∧ S ad.block ∧ w.cell? (ad.add (i * 6)) = some (.int .i64 ops[i].kind) ∧ w.cell? ⟨(ad.add (i * 6)).block, (ad.add (i * 6)).off + 1, none⟩ = some (.int .i64 ops[i].n) ∧ w.cell? ⟨(ad.add (i * 6)).block, (ad.add (i * 6)).off + 2, none⟩ = some (.bool ops[i].made) ∧
      w.cell? ⟨(ad.add (i * 6)).block, (ad.add (i * 6)).off + 3, none⟩ = some vb ∧ w.cell? ⟨(ad.add (i * 6)).block, (ad.add (i * 6)).off + 4, none⟩ = some vl ∧ w.cell? ⟨(ad.add (i * 6)).block, (ad.add (i * 6)).off + 5, none⟩ = some vk ∧ By w S vb ops[i].b ∧ ByL w S vl ops[i].l ∧ Ints w S vk ops[i].keep ∧
      (-9223372036854775808 ≤ ops[i].kind ∧ ops[i].kind ≤ 9223372036854775807) ∧ (-9223372036854775808 ≤ ops[i].n ∧ ops[i].n ≤ 9223372036854775807) := by
  obtain ⟨A', c', hv, _, _, he⟩ := h
  injection hv with hA
  subst hA
  obtain ⟨ad, us, rfl, hS, hc, hlen, ⟨x0, x1, x2, x3, x4, x5, x6⟩, hx, h0, h1, h2, h3, h4, h5, -⟩ := he i ops[i] (List.getElem?_eq_getElem hi)
  rw [hx]
  rw [cOpW_cells] at hlen hc
  match us, hlen with
  | [a0, a1, a2, a3, a4, a5], _ =>
    obtain ⟨b0, w0⟩ := h0
    obtain ⟨b1, w1⟩ := h1
    obtain ⟨v3, b3, w3⟩ := h3
    obtain ⟨v4, b4, w4⟩ := h4
    obtain ⟨v5, b5, w5⟩ := h5
    obtain rfl := (List.cons.inj b0).1
    obtain rfl := (List.cons.inj b1).1
    obtain rfl := (List.cons.inj h2).1
    obtain rfl := (List.cons.inj b3).1
    obtain rfl := (List.cons.inj b4).1
    obtain rfl := (List.cons.inj b5).1
    exact ⟨ad, a3, a4, a5, rfl, hS, hc 0 _ rfl, (by have := hc 1 _ rfl; rwa [← add_of_add] at this), (by have := hc 2 _ rfl; rwa [← add_of_add] at this), (by have := hc 3 _ rfl; rwa [← add_of_add] at this), (by have := hc 4 _ rfl; rwa [← add_of_add] at this), (by have := hc 5 _ rfl; rwa [← add_of_add] at this), w3, w4, w5, i64_of_wf w0, i64_of_wf w1⟩
set_option maxRecDepth 100000 in
theorem open_opsw {H : Type} {enc : TypeId × Value → H} {W : World} {base : Nat} {v : Value} {d : DataW H} {ps : List MemPlace} (hval : Value.okWide Try.prog W .any base 47 v)
    (h : DataW.Trod enc Try.prog W 0 (fun _ => true) true 47 v d ps) : ∃ ops, SlOf cOpW W (· < W.heap.size) v ops := by
  obtain ⟨a0, len0, cap0, rfl⟩ := okWide_slice Try.underlying47 hval
  obtain ⟨fuel, hf⟩ := h
  obtain ⟨v, l, hv, hby⟩ := SlOf.opens (C := cOpW) Try.underlying47 (by rw [cOpW_cells]; omega) hf
  simp [Value.cells] at hv
  subst hv
  exact ⟨l, hby⟩
def SmallOp (o : OpW) : Prop := o.b.length ≤ 300 ∧ o.l.length ≤ 10 ∧ sumF 2000 o.l ≤ 2000 ∧ o.keep.length ≤ 10
def lightW (most : Int) (ops : List OpW) : Prop := (ops.length : Int) ≤ most ∧ ∀ o ∈ ops, SmallOp o
theorem lightW_no {most : Int} {ops : List OpW} {k : Nat} (hk : k < ops.length) (h : ¬ SmallOp ops[k]) : ¬ lightW most ops := fun h2 => h (h2.2 _ (List.getElem_mem hk))
theorem takeW_more {α : Type} {p : α → Prop} {l : List α} {k : Nat} (hk : k < l.length) (h : ∀ o ∈ l.take k, p o) (h1 : p l[k]) : ∀ o ∈ l.take (k + 1), p o := by
  rw [List.take_succ_eq_append_getElem hk]
  intro o ho
  rcases List.mem_append.1 ho with h2 | h2
  · exact h o h2
  · rw [List.mem_singleton.1 h2]; exact h1
def LightPost (most : Int) (ops : List OpW) (w : World) (e : Ending) (w' : World) : Prop := ∃ b : Bool, e = .returned (.bool b) ∧ (b = true ↔ lightW most ops) ∧ w = w'
set_option maxRecDepth 100000 in
set_option maxHeartbeats 1000000 in
theorem lightw_any (v : Value) (ops : List OpW) (most : Int) (S : Nat → Prop) (w : World) (hv : SlOf cOpW w S v ops) (hm0 : 0 ≤ most ∧ most ≤ 1000) :
    Calls Try.prog 23 #[v, .int .i64 most] w (LightPost most ops w) := by
  obtain ⟨A, c, rfl, hc, hm, -⟩ := id hv
  have H := Lib.hid hv
  unfold maxLen at hm
  clear hv
  by_cases hlong : most < ops.length
  · go_enter Try.func23, Try.ntmps23
    go_wp2
    go_ret
    exact ⟨false, rfl, by simp [lightW]; intro h; omega, rfl⟩
  have hlen : (ops.length : Int) ≤ most := by omega
  have HLEN := Lib.hid hlen
  obtain ⟨N, hN⟩ : ∃ N, N = ops.length := ⟨_, rfl⟩
  rw [← hN] at hlong hc hlen ⊢
  have HN := Lib.hid hN
  clear hN hlong
  go_enter Try.func23, Try.ntmps23
  go_wp2
  go_loop [5] (fun i => ∃ k : Nat, k ≤ N ∧ i = .int .i64 k ∧ Hid (∀ o ∈ ops.take k, SmallOp o)) (fun i => N - (intOf i).toNat)
  case atStart => exact ⟨0, by omega, rfl, Lib.hid (by simp)⟩
  case round =>
    obtain ⟨k, hk, rfl, ho⟩ := hrel
    by_cases hlt : k < N
    · have hko : k < ops.length := by rw [← HN.out]; exact hlt
      obtain ⟨ad, vb, vl, vk, rfl, -, c0, c1, c2, c3, c4, c5, hb, hl, hkp, -, -⟩ := opw_at H.out hko
      have hno := Lib.hid (fun h => lightW_no (most := most) hko h)
      have hyes := Lib.hid (fun h => takeW_more hko ho.out h)
      generalize ops[k] = o at *
      obtain ⟨A1, c1', rfl, -, hm1, -⟩ := id hb
      obtain ⟨A2, c2', vs2, rfl, -, hm2, -⟩ := id hl
      obtain ⟨A3, c3', rfl, -, hm3, -⟩ := id hkp
      unfold maxLen at hm1 hm2 hm3
      have hsum := sum_any _ o.l 2000 _ w hl (by omega) (by omega)
      have HSUM := Lib.hid hsum
      clear hsum hb hl hkp
      obtain ⟨LB, hLB⟩ : ∃ n, n = o.b.length := ⟨_, rfl⟩
      obtain ⟨LL, hLL⟩ : ∃ n, n = o.l.length := ⟨_, rfl⟩
      obtain ⟨LK, hLK⟩ : ∃ n, n = o.keep.length := ⟨_, rfl⟩
      have hsum := HSUM.out
      rw [← hLB] at c3
      rw [← hLL] at c4 hsum
      rw [← hLK] at c5
      have HSUM := Lib.hid hsum
      have HLB := Lib.hid hLB
      have HLL := Lib.hid hLL
      have HLK := Lib.hid hLK
      clear hLB hLL hLK hsum
      by_cases h1 : 300 < LB
      · go_wp2
        go_ret
        exact ⟨false, rfl, by simp; exact hno.out fun h => by have := h.1; have := HLB.out; omega, rfl⟩
      by_cases h2 : 10 < LL
      · go_wp2
        go_ret
        exact ⟨false, rfl, by simp; exact hno.out fun h => by have := h.2.1; have := HLL.out; omega, rfl⟩
      by_cases h3 : 2000 < sumF 2000 o.l
      · go_wp2_with (go_at_call 10; refine HSUM.out.mono ?_; rintro e w' ⟨rfl, rfl⟩)
        go_ret
        exact ⟨false, rfl, by simp; exact hno.out fun h => by have := h.2.2.1; omega, rfl⟩
      by_cases h4 : 10 < LK
      · go_wp2_with (go_at_call 10; refine HSUM.out.mono ?_; rintro e w' ⟨rfl, rfl⟩)
        go_ret
        exact ⟨false, rfl, by simp; exact hno.out fun h => by have := h.2.2.2; have := HLK.out; omega, rfl⟩
      have hso : Hid (SmallOp o) := Lib.hid ⟨by have := HLB.out; omega, by have := HLL.out; omega, by omega, by have := HLK.out; omega⟩
      go_wp2_with (go_at_call 10; refine HSUM.out.mono ?_; rintro e w' ⟨rfl, rfl⟩)
      go_round
      case rel => exact ⟨k + 1, by omega, by go_num, Lib.hid (hyes.out hso.out)⟩
      case measure => simp [intOf]; omega
    · obtain rfl : N = k := by omega
      go_wp2
      go_ret
      refine ⟨true, rfl, ?_, rfl⟩
      simp
      have := ho.out
      rw [List.take_of_length_le (by rw [← HN.out]; exact Nat.le_refl _)] at this
      exact ⟨HLEN.out, this⟩
end Go.Proofs.Ytpjinngngbifoaa
