/-
  Words, plain models, laws and walks that the claims of this layer share (joined by shake.py). No condition.
-/
import Derived.StillTail
import Derived.Test.YtoldelocfmpccaaS1
import Derived.Test.YtoldelocfmpccaaS2
import Derived.Test.YtoldelocfmpccaaS3
import Derived.Test.YtoldelocfmpccaaS4
import Derived.Test.YtoldelocfmpccaaS5
set_option linter.unusedSimpArgs false
set_option linter.unusedVariables false
namespace Go.Proofs.Ytoldelocfmpccaa
open Go.RowKit Go.ChangeShapes Go.WideShapes Go.ChangeAt
/-- Which cells of type t read as which data; kept while the blocks of S stay. -/
structure Codec (P : Program) (t : TypeId) (α : Type) where
  ok : World → (Nat → Prop) → List Value → α → Prop
  keep : ∀ {S : Nat → Prop} {w w' : World} {vs : List Value} {x : α}, Same S w w' → ok w S vs x → ok w' S vs x
  size : ∀ {S : Nat → Prop} {w : World} {vs : List Value} {x : α}, ok w S vs x → vs.length = P.cellsOf t
  opens : ∀ {H : Type} {enc : TypeId × Value → H} {W : World} {fuel : Nat} {cs : List Value} {x : DataW H × List MemPlace},
    DataW.trod enc P W 0 (fun _ => true) true fuel t cs = some x → ∃ a, ok W (· < W.heap.size) cs a
section
variable {P : Program} {t e : TypeId} {α β : Type}
def cInt (k : IntKind) (ht : P.underlying t = some (.int k)) (hc : P.cellsOf t = 1) : Codec P t Int where
  ok _ _ vs n := vs = [.int k n] ∧ (Lit.int k n).wf = true
  keep _ h := h
  size h := by rw [h.1, hc]; rfl
  opens h := by
    obtain ⟨n, h1, _, h2⟩ := DataW.trod_int ht h
    exact ⟨n, h1, h2⟩
def cBool (ht : P.underlying t = some .bool) (hc : P.cellsOf t = 1) : Codec P t Bool where
  ok _ _ vs b := vs = [.bool b]
  keep _ h := h
  size h := by rw [h, hc]; rfl
  opens h := by
    obtain ⟨n, h1, _⟩ := DataW.trod_bool ht h
    exact ⟨n, h1⟩
def cStr (ht : P.underlying t = some .string) (hc : P.cellsOf t = 1) : Codec P t (List UInt8) where
  ok _ _ vs l := vs = [.string (str l)] ∧ l.length ≤ maxLen
  keep _ h := h
  size h := by rw [h.1, hc]; rfl
  opens h := by
    obtain ⟨s, h1, _, h2⟩ := DataW.trod_string ht h
    exact ⟨s.data.toList, by rw [h1, ← str_get], by rw [Array.length_toList]; exact h2⟩
/-- A slice of whatever reads: the element i lies at i rows behind the head. -/
def SlOf (C : Codec P e α) (w : World) (S : Nat → Prop) (v : Value) (xs : List α) : Prop :=
  ∃ A c, v = .slice A xs.length c ∧ xs.length ≤ c ∧ c ≤ maxLen ∧
    ∀ i x, xs[i]? = some x → ∃ ad us, A = some ad ∧ S ad.block ∧ (∀ j u, us[j]? = some u → w.cell? (ad.add (i * P.cellsOf e + j)) = some u) ∧ C.ok w S us x
theorem SlOf.keep {C : Codec P e α} {w w' : World} {S : Nat → Prop} {v : Value} {xs : List α} (h : SlOf C w S v xs) (hs : Same S w w') : SlOf C w' S v xs := by
  obtain ⟨A, c, h1, h2, h3, h4⟩ := h
  refine ⟨A, c, h1, h2, h3, fun i x hx => ?_⟩
  obtain ⟨ad, us, a1, a2, a3, a4⟩ := h4 i x hx
  exact ⟨ad, us, a1, a2, fun j u hu => hs.cell (by rw [block_of_add]; exact a2) (a3 j u hu), C.keep hs a4⟩
theorem SlOf.opens {C : Codec P e α} (ht : P.underlying t = some (.slice e)) (hc : 0 < P.cellsOf e) {H : Type} {enc : TypeId × Value → H} {W : World} {fuel : Nat} {cs : List Value} {x : DataW H × List MemPlace}
    (h : DataW.trod enc P W 0 (fun _ => true) true fuel t cs = some x) : ∃ v xs, cs = [v] ∧ SlOf C W (· < W.heap.size) v xs := by
  rcases Go.Deep.open_slice ht h with ⟨rfl, _⟩ | ⟨a, len, cap, m, n, D, Pl, rfl, _, hl, hm, hmm, _, hel⟩
  · exact ⟨_, [], rfl, none, 0, rfl, Nat.le_refl _, by simp [maxLen], fun i x hx => by simp at hx⟩
  · simp only [if_true] at hmm
    subst hmm
    have each : ∀ i, i < len → ∃ p : List Value × α, (∀ j u, p.1[j]? = some u → W.cell? (a.add (i * P.cellsOf e + j)) = some u) ∧ C.ok W (· < W.heap.size) p.1 p.2 := by
      intro i hi
      obtain ⟨cs', hcs, htr⟩ := hel i (by omega)
      obtain ⟨y, hy⟩ := C.opens htr
      obtain ⟨_, hlen, hat⟩ := World.cells?_some hcs
      refine ⟨(cs', y), fun j u hu => ?_, hy⟩
      have hj : j < cs'.length := by
        rcases Nat.lt_or_ge j cs'.length with h | h
        · exact h
        · rw [List.getElem?_eq_none h] at hu; cases hu
      have := hat j (by omega)
      rw [← add_of_add, this]
      exact hu
    rcases Nat.eq_zero_or_pos len with h0 | h0
    · subst h0
      exact ⟨_, [], rfl, some a, m, rfl, by simp, hm, fun i x hx => by simp at hx⟩
    obtain ⟨p0, _⟩ := each 0 h0
    haveI : Inhabited (List Value × α) := ⟨p0⟩
    obtain ⟨F, hF⟩ := Go.Deep.choose_lt each
    refine ⟨_, (List.range len).map fun i => (F i).2, rfl, some a, m, by simp, by simpa using hl, hm, fun i x hx => ?_⟩
    by_cases hi : i < len
    · simp [hi] at hx
      subst hx
      obtain ⟨h1, h2⟩ := hF i hi
      refine ⟨a, (F i).1, rfl, ?_, h1, h2⟩
      have hz := C.size h2
      have := World.block_lt_of_cell? W _ (h1 0 _ (List.getElem?_eq_getElem (by omega)))
      rw [block_of_add] at this
      exact this
    · simp [hi] at hx
def cSlice (C : Codec P e α) (ht : P.underlying t = some (.slice e)) (hc : 0 < P.cellsOf e) (hc' : P.cellsOf t = 1) : Codec P t (List α) where
  ok w S vs xs := ∃ v, vs = [v] ∧ SlOf C w S v xs
  keep hs h := by
    obtain ⟨v, h1, h2⟩ := h
    exact ⟨v, h1, h2.keep hs⟩
  size h := by
    obtain ⟨v, rfl, _⟩ := h
    rw [hc']; rfl
  opens h := by
    obtain ⟨v, xs, h1, h2⟩ := SlOf.opens (C := C) ht hc h
    exact ⟨xs, v, h1, h2⟩
/-- The fields of a struct. -/
structure FCod (P : Program) (fs : List Field) (α : Type) where
  ok : World → (Nat → Prop) → List Value → α → Prop
  keep : ∀ {S : Nat → Prop} {w w' : World} {vs : List Value} {x : α}, Same S w w' → ok w S vs x → ok w' S vs x
  opens : ∀ {H : Type} {enc : TypeId × Value → H} {W : World} {n : Nat} {cs : List Value},
    (∀ f, f ∈ fs → ∃ y, DataW.trod enc P W 0 (fun _ => true) true n f.type ((cs.drop f.offset).take (P.cellsOf f.type)) = some y) → ∃ a, ok W (· < W.heap.size) cs a
def fnil : FCod P [] Unit where
  ok _ _ _ _ := True
  keep _ h := h
  opens _ := ⟨(), trivial⟩
def fcons (off n : Nat) {f : Field} {fs : List Field} (C : Codec P f.type α) (R : FCod P fs β) (ho : f.offset = off := by rfl) (hn : P.cellsOf f.type = n := by kernel_rfl) : FCod P (f :: fs) (α × β) where
  ok w S vs x := C.ok w S ((vs.drop off).take n) x.1 ∧ R.ok w S vs x.2
  keep hs h := ⟨C.keep hs h.1, R.keep hs h.2⟩
  opens h := by
    obtain ⟨y, hy⟩ := h f (by simp)
    rw [ho, hn] at hy
    obtain ⟨a, ha⟩ := C.opens hy
    obtain ⟨b, hb⟩ := R.opens (fun g hg => h g (by simp [hg]))
    exact ⟨(a, b), ha, hb⟩
def cStruct {fs : Array Field} (R : FCod P fs.toList β) (F : β → α) (ht : P.underlying t = some (.struct fs)) : Codec P t α where
  ok w S vs x := vs.length = P.cellsOf t ∧ ∃ b, x = F b ∧ R.ok w S vs b
  keep hs h := by
    obtain ⟨h0, b, h1, h2⟩ := h
    exact ⟨h0, b, h1, R.keep hs h2⟩
  size h := h.1
  opens h := by
    obtain ⟨xs, n, _, _, h1, h2, h3⟩ := DataW.trod_struct ht h
    obtain ⟨b, hb⟩ := R.opens (enc := _) (n := n) (fun f hf => by
      obtain ⟨i, hi, rfl⟩ := List.mem_iff_getElem.1 hf
      have hi' : i < fs.size := by simpa using hi
      have := h3 i fs[i] (by simp [hi'])
      refine ⟨xs[i]'(by omega), ?_⟩
      rw [List.getElem?_eq_getElem (by omega)] at this
      exact this)
    exact ⟨F b, h1, b, rfl, hb⟩
/-- An argument, opened. -/
theorem Codec.arg (C : Codec P t α) {H : Type} {enc : TypeId × Value → H} {W : World} {v : Value} {d : DataW H} {ps : List MemPlace} (h : DataW.Trod enc P W 0 (fun _ => true) true t v d ps) :
    ∃ a, C.ok W (· < W.heap.size) v.cells.toList a := by
  obtain ⟨fuel, hf⟩ := h
  exact C.opens hf
end
end Go.Proofs.Ytoldelocfmpccaa
namespace Go.Proofs.Ytoldelocfmpccaa
open Go.RowKit Go.ChangeShapes Go.WideShapes Go.ChangeAt
def cI : Codec Try.prog 3 Int := cInt .i64 Try.underlying3 (by kernel_rfl)
def cJ : Codec Try.prog 2 Int := cInt .i64 Try.underlying2 (by kernel_rfl)
def cO : Codec Try.prog 4 Bool := cBool Try.underlying4 (by kernel_rfl)
def cS : Codec Try.prog 9 (List UInt8) := cStr Try.underlying9 (by kernel_rfl)
set_option maxRecDepth 100000 in
def cTry : Codec Try.prog 26 TryT :=
  cStruct (fcons 0 1 cI (fcons 1 1 cI (fcons 2 1 cI (fcons 3 1 cI fnil)))) (fun x => ⟨x.1, x.2.1, x.2.2.1, x.2.2.2.1⟩) Try.underlying26
set_option maxRecDepth 100000 in
def cSt : Codec Try.prog 28 St :=
  cStruct (fcons 0 1 cJ (fcons 1 1 cJ fnil)) (fun x => ⟨x.1, x.2.1⟩) Try.underlying28
set_option maxRecDepth 100000 in
def cWr : Codec Try.prog 24 Wr :=
  cStruct (fcons 0 1 cS (fcons 1 1 cO (fcons 2 1 cS fnil))) (fun x => ⟨x.1, x.2.1, x.2.2.1⟩) Try.underlying24
section
variable {w : World} {S : Nat → Prop} {vs : List Value}
theorem cTry_ok {t : TryT} (h : cTry.ok w S vs t) : vs = tryCs t := by
  obtain ⟨hlen, ⟨x0, x1, x2, x3, x4⟩, hx, ⟨h0, -⟩, ⟨h1, -⟩, ⟨h2, -⟩, ⟨h3, -⟩, -⟩ := h
  have hlen : vs.length = 4 := hlen.trans (by kernel_rfl)
  match vs, hlen with
  | [a0, a1, a2, a3], _ =>
    obtain rfl := (List.cons.inj h0).1
    obtain rfl := (List.cons.inj h1).1
    obtain rfl := (List.cons.inj h2).1
    obtain rfl := (List.cons.inj h3).1
    rw [hx]; rfl
theorem cSt_ok {t : St} (h : cSt.ok w S vs t) : vs = stCs t := by
  obtain ⟨hlen, ⟨x0, x1, x2⟩, hx, ⟨h0, -⟩, ⟨h1, -⟩, -⟩ := h
  have hlen : vs.length = 2 := hlen.trans (by kernel_rfl)
  match vs, hlen with
  | [a0, a1], _ =>
    obtain rfl := (List.cons.inj h0).1
    obtain rfl := (List.cons.inj h1).1
    rw [hx]; rfl
theorem cWr_ok {t : Wr} (h : cWr.ok w S vs t) : vs = wrCs t ∧ t.key.length ≤ maxLen ∧ t.data.length ≤ maxLen := by
  obtain ⟨hlen, ⟨x0, x1, x2, x3⟩, hx, ⟨h0, k0⟩, h1, ⟨h2, k2⟩, -⟩ := h
  have hlen : vs.length = 3 := hlen.trans (by kernel_rfl)
  match vs, hlen with
  | [a0, a1, a2], _ =>
    obtain rfl := (List.cons.inj h0).1
    obtain rfl := (List.cons.inj h1).1
    obtain rfl := (List.cons.inj h2).1
    subst hx
    exact ⟨rfl, k0, k2⟩
end
theorem agg_of {v : Value} {l : List Value} (h : v.cells.toList = l) (hl : 2 ≤ l.length) : v = .agg l.toArray := by
  cases v <;> first
    | (simp [Value.cells] at h; subst h; simp at hl; done)
    | (simp [Value.cells] at h; subst h; simp)
set_option maxRecDepth 100000 in
theorem open_try {H : Type} {enc : TypeId × Value → H} {W : World} {base : Nat} {v : Value} {d : DataW H} {ps : List MemPlace} (hval : Value.okWide Try.prog W .any base 26 v)
    (h : DataW.Trod enc Try.prog W 0 (fun _ => true) true 26 v d ps) : ∃ t : TryT, v = tryV t := by
  obtain ⟨t, ht⟩ := cTry.arg h
  exact ⟨t, agg_of (cTry_ok ht) (by simp [tryCs])⟩
set_option maxRecDepth 100000 in
theorem open_st {H : Type} {enc : TypeId × Value → H} {W : World} {base : Nat} {v : Value} {d : DataW H} {ps : List MemPlace} (hval : Value.okWide Try.prog W .any base 28 v)
    (h : DataW.Trod enc Try.prog W 0 (fun _ => true) true 28 v d ps) : ∃ t : St, v = stV t := by
  obtain ⟨t, ht⟩ := cSt.arg h
  exact ⟨t, agg_of (cSt_ok ht) (by simp [stCs])⟩
set_option maxRecDepth 100000 in
theorem open_wr {H : Type} {enc : TypeId × Value → H} {W : World} {base : Nat} {v : Value} {d : DataW H} {ps : List MemPlace} (hval : Value.okWide Try.prog W .any base 24 v)
    (h : DataW.Trod enc Try.prog W 0 (fun _ => true) true 24 v d ps) : ∃ t : Wr, v = wrV t ∧ t.key.length ≤ maxLen ∧ t.data.length ≤ maxLen := by
  obtain ⟨t, ht⟩ := cWr.arg h
  obtain ⟨h1, h2, h3⟩ := cWr_ok ht
  exact ⟨t, agg_of h1 (by simp [wrCs]), h2, h3⟩
end Go.Proofs.Ytoldelocfmpccaa
namespace Go.Proofs.Ytoldelocfmpccaa
open Go.RowKit
set_option maxHeartbeats 4000000 in
theorem same_any (v v' : Value) (cs : List Cel) (S S' : Nat → Prop) (w : World) (hv : CelR w S v cs) (hv' : CelR w S' v' cs) (hn : cs.length ≤ 100000) (hn2 : ∀ c ∈ cs, c.vers.length ≤ 1000000) :
    Calls Try.prog 29 #[v, v'] w fun e w' => e = .returned (.bool true) ∧ Same (fun _ => True) w w' := by
  obtain ⟨A, cp, rfl, hc, hm⟩ := hv.form
  obtain ⟨A', cp', rfl, hc', hm'⟩ := hv'.form
  have Hv := Lib.hid hv
  have Hv' := Lib.hid hv'
  have Hn2 := Lib.hid hn2
  unfold maxLen at hm hm'
  clear hv hv' hn2
  go_enter Try.func29, Try.ntmps29
  go_wp2
  go_loopw [5, 6, 7, 8] (fun i _ _ _ wr => ∃ k : Nat, i = .int .i64 k ∧ k ≤ cs.length ∧ Same (fun _ => True) w wr) (fun i _ _ _ _ => cs.length - (intOf i).toNat)
  case atStart => exact ⟨0, rfl, Nat.zero_le _, Same.refl _ _⟩
  case round =>
    obtain ⟨k, rfl, hk, hS⟩ := hrel
    obtain ⟨wo, rfl⟩ : ∃ wo : World, wo = wr := ⟨_, rfl⟩
    have HS := Lib.hid hS
    by_cases hlt : k < cs.length
    · obtain ⟨ad, u, rfl, -, hvr, c0, c1, c2, c3, c4, c5, c6, c7, c8, c9, c10, c11⟩ := CelR.cells12 (Hv.out.keepAll hS) hlt
      obtain ⟨ad', u', rfl, -, hvr', d0, d1, d2, d3, d4, d5, d6, d7, d8, d9, d10, d11⟩ := CelR.cells12 (Hv'.out.keepAll hS) hlt
      obtain ⟨Au, cu, rfl, hq1, hq2⟩ := hvr.form
      obtain ⟨Au', cu', rfl, hq1', hq2'⟩ := hvr'.form
      unfold maxLen at hq2 hq2'
      have x1 : (0 : Int) ≤ (k : Int) := by omega
      have x2 : (k : Int) < (cs.length : Int) := by omega
      have hab := World.block_lt_of_cell? wo _ c0
      have hab' := World.block_lt_of_cell? wo _ d0
      have hcl := Hn2.out cs[k] (List.getElem_mem hlt)
      generalize cs[k] = c at *
      have Hvr := Lib.hid hvr
      have Hvr' := Lib.hid hvr'
      clear hvr hvr' hS
      go_wp2
      go_region
      · have rp := ((Row.new wo 64 (celCs (.slice Au c.vers.length cu, c))).keep ((Same.refl (fun _ => True) _).alloc (.cells (celCs (.slice Au' c.vers.length cu', c)).toArray 64)) trivial).keep ((Same.refl (fun _ => True) _).drew) trivial
        have rq := (Row.new (wo.alloc (.cells (celCs (.slice Au c.vers.length cu, c)).toArray 64)) 64 (celCs (.slice Au' c.vers.length cu', c))).keep ((Same.refl (fun _ => True) _).drew) trivial
        rw [World.size_alloc] at rq
        have hS7 := (((Same.refl (fun _ => True) wo).alloc (.cells (celCs (.slice Au c.vers.length cu, c)).toArray 64)).alloc (.cells (celCs (.slice Au' c.vers.length cu', c)).toArray 64)).drew
        simp only [celCs, lckCs, List.cons_append, List.nil_append] at rp rq hS7
        clear c0 c1 c2 c3 c4 c5 c6 c7 c8 c9 c10 c11 d0 d1 d2 d3 d4 d5 d6 d7 d8 d9 d10 d11
        revert hS7 rp rq
        generalize ((wo.alloc _).alloc _).drew = W7
        intro rp rq hS7
        have z0 := rp.lt
        have z1 := rq.lt
        obtain ⟨a0, a1, a2, a3, a4, a5, a6, a7, a8, a9, a10, a11, -⟩ := cel_cells rp
        obtain ⟨b0, b1, b2, b3, b4, b5, b6, b7, b8, b9, b10, b11, -⟩ := cel_cells rq
        have RP := Lib.hid rp
        have RQ := Lib.hid rq
        have HS7 := Lib.hid hS7
        clear rp rq hS7
        go_wp2
        clear a0 a1 a2 a3 a4 a5 a6 a7 a8 a9 a10 a11 b0 b1 b2 b3 b4 b5 b6 b7 b8 b9 b10 b11
        go_loopw [8] (fun i wi => ∃ j : Nat, i = .int .i64 j ∧ j ≤ c.vers.length ∧ Same (fun _ => True) W7 wi) (fun i _ => c.vers.length - (intOf i).toNat)
        case atStart => exact ⟨0, rfl, Nat.zero_le _, Same.refl _ _⟩
        case round =>
          obtain ⟨j, rfl, hj, hSi⟩ := hrel
          have a1 : wr.cell? ⟨wo.heap.size, 1, none⟩ = some (.slice Au c.vers.length cu) := (RP.out.keep hSi trivial).cell 1
          have b1 : wr.cell? ⟨(wo.heap.size + 1), 1, none⟩ = some (.slice Au' c.vers.length cu') := (RQ.out.keep hSi trivial).cell 1
          have HSi := Lib.hid hSi
          by_cases hjl : j < c.vers.length
          · obtain ⟨ad2, rfl, -, d0, d1, d2, d3⟩ := VerR.cells (RowR.keepAll Hvr.out (HS7.out.trans hSi)) hjl
            obtain ⟨ad3, rfl, -, e0, e1, e2, e3⟩ := VerR.cells (RowR.keepAll Hvr'.out (HS7.out.trans hSi)) hjl
            have x3 : (0 : Int) ≤ (j : Int) := by omega
            have x4 : (j : Int) < (c.vers.length : Int) := by omega
            generalize c.vers[j] = y at *
            clear hSi
            go_wp2
            go_quiet (fail)
            rename_i nq
            go_wp2
            go_roundw
            case rel => exact ⟨j + 1, by go_num, by omega, HSi.out.drewN nq⟩
            case measure => simp [intOf]; omega
          · obtain rfl : j = c.vers.length := by omega
            clear hSi
            go_wp2
            go_roundw
            case rel => exact ⟨k + 1, by go_num, by omega, (HS.out.trans HS7.out).trans HSi.out⟩
            case measure => simp [intOf]; omega
      · have rq := ((Row.new wo 64 (celCs (.slice Au' c.vers.length cu', c))).keep ((Same.refl (fun _ => True) _).alloc (.cells (celCs (.slice Au c.vers.length cu, c)).toArray 64)) trivial).keep ((Same.refl (fun _ => True) _).drew) trivial
        have rp := (Row.new (wo.alloc (.cells (celCs (.slice Au' c.vers.length cu', c)).toArray 64)) 64 (celCs (.slice Au c.vers.length cu, c))).keep ((Same.refl (fun _ => True) _).drew) trivial
        rw [World.size_alloc] at rp
        have hS7 := (((Same.refl (fun _ => True) wo).alloc (.cells (celCs (.slice Au' c.vers.length cu', c)).toArray 64)).alloc (.cells (celCs (.slice Au c.vers.length cu, c)).toArray 64)).drew
        simp only [celCs, lckCs, List.cons_append, List.nil_append] at rp rq hS7
        clear c0 c1 c2 c3 c4 c5 c6 c7 c8 c9 c10 c11 d0 d1 d2 d3 d4 d5 d6 d7 d8 d9 d10 d11
        revert hS7 rp rq
        generalize ((wo.alloc _).alloc _).drew = W7
        intro rq rp hS7
        have z0 := rp.lt
        have z1 := rq.lt
        obtain ⟨a0, a1, a2, a3, a4, a5, a6, a7, a8, a9, a10, a11, -⟩ := cel_cells rp
        obtain ⟨b0, b1, b2, b3, b4, b5, b6, b7, b8, b9, b10, b11, -⟩ := cel_cells rq
        have RP := Lib.hid rp
        have RQ := Lib.hid rq
        have HS7 := Lib.hid hS7
        clear rp rq hS7
        go_wp2
        clear a0 a1 a2 a3 a4 a5 a6 a7 a8 a9 a10 a11 b0 b1 b2 b3 b4 b5 b6 b7 b8 b9 b10 b11
        go_loopw [8] (fun i wi => ∃ j : Nat, i = .int .i64 j ∧ j ≤ c.vers.length ∧ Same (fun _ => True) W7 wi) (fun i _ => c.vers.length - (intOf i).toNat)
        case atStart => exact ⟨0, rfl, Nat.zero_le _, Same.refl _ _⟩
        case round =>
          obtain ⟨j, rfl, hj, hSi⟩ := hrel
          have a1 : wr.cell? ⟨(wo.heap.size + 1), 1, none⟩ = some (.slice Au c.vers.length cu) := (RP.out.keep hSi trivial).cell 1
          have b1 : wr.cell? ⟨wo.heap.size, 1, none⟩ = some (.slice Au' c.vers.length cu') := (RQ.out.keep hSi trivial).cell 1
          have HSi := Lib.hid hSi
          by_cases hjl : j < c.vers.length
          · obtain ⟨ad2, rfl, -, d0, d1, d2, d3⟩ := VerR.cells (RowR.keepAll Hvr.out (HS7.out.trans hSi)) hjl
            obtain ⟨ad3, rfl, -, e0, e1, e2, e3⟩ := VerR.cells (RowR.keepAll Hvr'.out (HS7.out.trans hSi)) hjl
            have x3 : (0 : Int) ≤ (j : Int) := by omega
            have x4 : (j : Int) < (c.vers.length : Int) := by omega
            generalize c.vers[j] = y at *
            clear hSi
            go_wp2
            go_quiet (fail)
            rename_i nq
            go_wp2
            go_roundw
            case rel => exact ⟨j + 1, by go_num, by omega, HSi.out.drewN nq⟩
            case measure => simp [intOf]; omega
          · obtain rfl : j = c.vers.length := by omega
            clear hSi
            go_wp2
            go_roundw
            case rel => exact ⟨k + 1, by go_num, by omega, (HS.out.trans HS7.out).trans HSi.out⟩
            case measure => simp [intOf]; omega
    · obtain rfl : k = cs.length := by omega
      clear hS
      go_wp2
      go_ret
      exact ⟨rfl, HS.out⟩
end Go.Proofs.Ytoldelocfmpccaa
namespace Go.Proofs.Ytoldelocfmpccaa
open Go.RowKit
/-- Cells that may be, and are few. -/
structure Fine (n : Nat) (cs : List Cel) : Prop where
  good : Good cs
  few : Few n cs
section
variable {n : Nat} {cs : List Cel}
theorem Fine.len (h : Fine n cs) (hn : n ≤ 100000 := by omega) : cs.length ≤ 100000 := Nat.le_trans h.few.1 hn
theorem Fine.vers (h : Fine n cs) (hn : n ≤ 100000 := by omega) : ∀ c ∈ cs, c.vers.length ≤ 1000000 := fun c hc => by have := h.few.2 c hc; omega
theorem Fine.sort (h : Fine n cs) : ∀ c ∈ cs, SortV c.vers := fun c hc => (h.good.each c hc).sort
theorem Fine.op (h : Fine n cs) (o : OpT) : Fine (n + 1) (opF cs o) := ⟨opF_good h.good o, opF_few h.good h.few o⟩
theorem Fine.setl (h : Fine n cs) (b : TryT) (y : Bool) : Fine (n + 1) (setlF cs b y) := by
  have := h.op ⟨1, ⟨[], false, []⟩, { Lck.zero with by_ := b }, y⟩
  exact this
theorem Fine.trim (h : Fine n cs) (a : St) : Fine (n + 1) (trimF cs a) := by
  have := h.op ⟨2, ⟨[], false, []⟩, { Lck.zero with at_ := a }, false⟩
  exact this
theorem Fine.lock (h : Fine n cs) (x : Wr) (l : Lck) : Fine (n + 1) (lockF cs x.key (lockW x l)) := by
  have := h.op ⟨0, x, l, false⟩
  exact this
end
theorem cel_none (w : World) (S : Nat → Prop) : CelR w S (.slice none 0 0) [] := ⟨[], rfl, RowR.nil_ _ _ _ _ (by simp [maxLen]), fun i h => absurd h (Nat.not_lt_zero _)⟩
end Go.Proofs.Ytoldelocfmpccaa
namespace Go.Proofs.Ytoldelocfmpccaa
open Go.RowKit Go.ChangeShapes Go.WideShapes Go.ChangeAt
set_option maxRecDepth 100000 in
def cSpan : Codec Try.prog 53 (List UInt8 × List UInt8) :=
  cStruct (fcons 0 1 cS (fcons 1 1 cS fnil)) (fun x => (x.1, x.2.1)) Try.underlying53
def spanCs (x : List UInt8 × List UInt8) : List Value := [.string (str x.1), .string (str x.2)]
theorem cSpan_ok {w : World} {S : Nat → Prop} {vs : List Value} {t : List UInt8 × List UInt8} (h : cSpan.ok w S vs t) : vs = spanCs t ∧ t.1.length ≤ maxLen ∧ t.2.length ≤ maxLen := by
  obtain ⟨hlen, ⟨x0, x1, x2⟩, hx, ⟨h0, k0⟩, ⟨h1, k1⟩, -⟩ := h
  have hlen : vs.length = 2 := hlen.trans (by kernel_rfl)
  match vs, hlen with
  | [a0, a1], _ =>
    obtain rfl := (List.cons.inj h0).1
    obtain rfl := (List.cons.inj h1).1
    subst hx
    exact ⟨rfl, k0, k1⟩
end Go.Proofs.Ytoldelocfmpccaa
namespace Go.Proofs.Ytoldelocfmpccaa
/-- The first n operations: each edge leads back; each has a slot of its own. -/
def plainN (ops : Array Oper) (n : Nat) : Bool :=
  (List.range n).all fun i => ((ops[i]?).map fun o => o.after.all (fun e => decide (e.on < i) || !Region.binds .any e) && o.dst.isSome && (List.range n).all fun j => decide (j = i) || slotOf ops j != slotOf ops i).getD false
/-- Does operation i wait for j? -/
def waitsAt (ops : Array Oper) (i j : Nat) : Bool := ((ops[i]?).map fun o => waits o j).getD false
/-- .. through others, too. -/
def reachB (ops : Array Oper) : Nat → Nat → Nat → Bool
  | 0, t, i => waitsAt ops t i
  | f + 1, t, i => waitsAt ops t i || (List.range ops.size).any fun j => waitsAt ops t j && reachB ops f j i
/-- The later operations wait for the first n, but d. -/
def lateB (ops : Array Oper) (n d : Nat) : Bool :=
  (List.range ops.size).all fun t => decide (t < n) || (List.range n).all fun i => decide (i = d) || reachB ops 6 t i
/-- What is listed when the first n are done, but d. -/
def headArr (s n d : Nat) : Array Bool := ((List.range s).map fun j => decide (j < n) && decide (j ≠ d)).toArray
def tailB (ops : Array Oper) (n d : Nat) : Bool :=
  decide (n < ops.size) && plainN ops n && lateB ops n d && Region.seqB .any ops (ops.size - n) n (headArr ops.size n ops.size) &&
    (decide (n ≤ d) || (decide (Region.ready .any ops (headArr ops.size n d) = [d, n]) && decide (Region.ready .any ops ((headArr ops.size n d).setIfInBounds n true) = [d]) &&
      Region.seqB .any ops (ops.size - n - 1) (n + 1) (((headArr ops.size n d).setIfInBounds n true).setIfInBounds d true)))
/-- What the operations' slots hold. -/
def valsOf (ops : Array Oper) (a : Act) (k : Nat) : Value := a.tmps.getD (slotOf ops k) undef
/-- What an operation is shown to do; its predicate may speak of the values of those that it waits for, too. -/
def OpDoes2 (P : Program) (ops : Array Oper) (φ : Nat → (Nat → Value) → World → Prop) (a0 : Act) (w0 : World) (Q : Exit → Act → World → Prop) (i : Nat) (o : Oper) : Prop :=
  ∀ (a : Act) (w : World), Same (fun _ => True) w0 w → a.defers = a0.defers → a.tmps.size = a0.tmps.size →
    (∀ d, freeAt ops i d = true → a.tmps.getD d undef = a0.tmps.getD d undef) →
    (∀ j, waits o j = true → φ j (valsOf ops a) w) →
    ∀ K : Act → World → Prop, (∀ v w', (∀ u, u i = v → (∀ j, waits o j = true → u j = valsOf ops a j) → φ i u w') → Same (fun _ => True) w w' → K (a.put o.dst v) w') →
      if Region.wanted o (yielded ops a.tmps) = true then Oper.wp P o a w K Q else K (a.put o.dst undef) w
structure RegInvN (ops : Array Oper) (n : Nat) (φ : Nat → (Nat → Value) → World → Prop) (a0 : Act) (w0 : World) (listed : Array Bool) (a : Act) (w : World) : Prop where
  defers : a.defers = a0.defers
  size : a.tmps.size = a0.tmps.size
  same : Same (fun _ => True) w0 w
  kept : ∀ d, (∀ j o, ops[j]? = some o → listed.getD j true = true → o.dst ≠ some d) → a.tmps[d]? = a0.tmps[d]?
  done : ∀ j, j < n → listed.getD j true = true → φ j (valsOf ops a) w
  down : ∀ j o e, ops[j]? = some o → listed.getD j true = true → e ∈ o.after → Region.binds .any e = true → listed.getD e.on true = true
  tail : ∀ t, n ≤ t → t < ops.size → listed.getD t true = false
section
variable {P : Program} {ops : Array Oper} {n : Nat} {φ : Nat → (Nat → Value) → World → Prop} {a0 : Act} {w0 : World} {Q : Exit → Act → World → Prop}
theorem plainN_at (hp : plainN ops n = true) {i : Nat} {o : Oper} (hi : i < n) (ho : ops[i]? = some o) :
    (∀ e ∈ o.after, Region.binds .any e = true → e.on < i) ∧ (∃ d, o.dst = some d) ∧ ∀ j, j < n → j ≠ i → slotOf ops j ≠ slotOf ops i := by
  have h := List.all_eq_true.1 hp i (List.mem_range.2 hi)
  rw [ho] at h
  simp only [Option.map_some, Option.getD_some, Bool.and_eq_true, Array.all_eq_true_iff_forall_mem, List.all_eq_true, List.mem_range] at h
  obtain ⟨⟨h1, h2⟩, h3⟩ := h
  refine ⟨fun e he hb => ?_, Option.isSome_iff_exists.1 h2, fun j hj hne => ?_⟩
  · have := h1 e he
    simpa [hb] using this
  · have := h3 j hj
    simpa [hne] using this
theorem set_getD {listed : Array Bool} {i : Nat} (hi : i < listed.size) (j : Nat) : (listed.setIfInBounds i true).getD j true = if i = j then true else listed.getD j true := by
  simp only [Array.getD_eq_getD_getElem?, Array.getElem?_setIfInBounds]
  split
  · rename_i e; subst e; simp [hi]
  · rfl
/-- One more of the first operations is done. -/
theorem RegInvN.step (hp : plainN ops n = true) (hstab : ∀ i v w w', φ i v w → Same (fun _ => True) w w' → φ i v w') (hdep : ∀ i u v w, φ i u w → u i = v i → (∀ j, waitsAt ops i j = true → u j = v j) → φ i v w) (hsz : ∀ (i : Nat) (o : Oper) (d : Nat), ops[i]? = some o → o.dst = some d → d < a0.tmps.size)
    {listed : Array Bool} {a : Act} {w w' : World} {i : Nat} {o : Oper} {v : Value} (hl : listed.size = ops.size) (hin : i < n) (ho : ops[i]? = some o) (hni : listed.getD i true = false) (hr : ∀ e ∈ o.after, Region.binds .any e = true → listed.getD e.on true = true)
    (h : RegInvN ops n φ a0 w0 listed a w) (hs : Same (fun _ => True) w w') (hv : ∀ u, u i = v → (∀ j, waits o j = true → u j = valsOf ops a j) → φ i u w') : RegInvN ops n φ a0 w0 (listed.setIfInBounds i true) (a.put o.dst v) w' := by
  have hi : i < ops.size := (Array.getElem?_eq_some_iff.1 ho).1
  obtain ⟨hback, ⟨d, hd⟩, hdist⟩ := plainN_at hp hin ho
  have hdl : d < a.tmps.size := by rw [h.size]; exact hsz i o d ho hd
  have hset := set_getD (listed := listed) (i := i) (by omega)
  refine ⟨by rw [hd]; exact h.defers, by rw [hd]; simp [Act.put]; exact h.size, h.same.trans hs, ?_, ?_, ?_, ?_⟩
  · intro k hk
    have hkd : d ≠ k := by
      intro e
      exact hk i o ho (by rw [hset, if_pos rfl]) (by rw [hd, e])
    have : (a.put o.dst v).tmps[k]? = a.tmps[k]? := by
      rw [hd]
      simp only [Act.put, Array.getElem?_setIfInBounds, if_neg hkd]
    rw [this]
    refine h.kept k fun j oj hoj hlj => hk j oj hoj ?_
    rw [hset]; split
    · rfl
    · exact hlj
  · intro j hj hlj
    rw [hset] at hlj
    have hval : ∀ k, k < n → k ≠ i → valsOf ops (a.put o.dst v) k = valsOf ops a k := fun k hk hki => by
      unfold valsOf
      rw [hd, getD_put _ _ _ _ hdl, if_neg (fun e => hdist k hk hki (by rw [slot_of ho hd]; exact e.symm))]
    by_cases hij : i = j
    · subst hij
      refine hv _ ?_ fun k hk => ?_
      · unfold valsOf
        rw [hd, getD_put _ _ _ _ hdl, if_pos (slot_of ho hd).symm]
      · simp only [waits, List.any_eq_true, Bool.and_eq_true, beq_iff_eq, Array.mem_toList_iff] at hk
        obtain ⟨e, he, h2, h3⟩ := hk
        have := hback e he h3
        exact hval k (by omega) (by omega)
    · rw [if_neg hij] at hlj
      refine hstab _ _ _ _ (hdep _ _ _ _ (h.done j hj hlj) (hval j hj fun e => hij e.symm).symm fun k hk => ?_) hs
      obtain ⟨oj, hoj⟩ : ∃ oj, ops[j]? = some oj := by
        cases e : ops[j]? with
        | none => simp [waitsAt, e] at hk
        | some oj => exact ⟨oj, rfl⟩
      simp only [waitsAt, hoj, Option.map_some, Option.getD_some, waits, List.any_eq_true, Bool.and_eq_true, beq_iff_eq, Array.mem_toList_iff] at hk
      obtain ⟨e, he, h2, h3⟩ := hk
      have hk1 := (plainN_at hp hj hoj).1 e he h3
      refine (hval k (by omega) fun e' => ?_).symm
      have := h.down j oj e hoj hlj he h3
      rw [h2, e', hni] at this
      cases this
  · intro j oj e hoj hlj he hb
    rw [hset] at hlj ⊢
    split
    · rfl
    · by_cases hij : i = j
      · subst hij
        rw [ho] at hoj
        injection hoj with hoj
        subst hoj
        exact hr e he hb
      · rw [if_neg hij] at hlj
        exact h.down j oj e hoj hlj he hb
  · intro t ht hts
    rw [hset, if_neg (by omega)]
    exact h.tail t ht hts
theorem headArr_eq {listed : Array Bool} {s k d : Nat} (hs : listed.size = s) (h : ∀ j, j < s → listed.getD j true = (decide (j < k) && decide (j ≠ d))) : listed = headArr s k d := by
  apply Array.ext
  · simp [headArr, hs]
  · intro i h1 h2
    have := h i (by omega)
    rw [Array.getD_eq_getD_getElem?, Array.getElem?_eq_getElem h1, Option.getD_some] at this
    rw [this]
    simp [headArr]
/-- The ending's obligations. -/
structure TailDoes (P : Program) (l : List Oper) (n d : Nat) (φ : Nat → (Nat → Value) → World → Prop) (a0 : Act) (w0 : World) (Q : Exit → Act → World → Prop) : Prop where
  all : ∀ a w, Same (fun _ => True) w0 w → a.defers = a0.defers → a.tmps.size = a0.tmps.size → (∀ k, (∀ j, j < n → slotOf l.toArray j ≠ k) → a.tmps.getD k undef = a0.tmps.getD k undef) →
    (∀ j, j < n → φ j (valsOf l.toArray a) w) → wpList P l.toArray Q (l.drop n) a w
  but : ∀ od on, l[d]? = some od → l[n]? = some on → ∀ a w, Same (fun _ => True) w0 w → a.defers = a0.defers → a.tmps.size = a0.tmps.size → (∀ k, (∀ j, j < n → j ≠ d → slotOf l.toArray j ≠ k) → a.tmps.getD k undef = a0.tmps.getD k undef) →
    (∀ j, j < n → j ≠ d → φ j (valsOf l.toArray a) w) → wpList P l.toArray Q (on :: od :: l.drop (n + 1)) a w
theorem wpAny_tail {l : List Oper} {d : Nat} (hB : tailB l.toArray n d = true) (hstab : ∀ i v w w', φ i v w → Same (fun _ => True) w w' → φ i v w') (hdep : ∀ i u v w, φ i u w → u i = v i → (∀ j, waitsAt l.toArray i j = true → u j = v j) → φ i v w) (hsz : ∀ (i : Nat) (o : Oper) (d : Nat), l.toArray[i]? = some o → o.dst = some d → d < a0.tmps.size)
    (hstep : ∀ i o, i < n → l.toArray[i]? = some o → OpDoes2 P l.toArray φ a0 w0 Q i o) (hend : TailDoes P l n d φ a0 w0 Q) :
    ∀ (fuel : Nat) (listed : Array Bool) (a : Act) (w : World), listed.size = l.toArray.size → ((List.range n).filter fun i => !listed.getD i true).length = fuel →
      RegInvN l.toArray n φ a0 w0 listed a w → wpAny P .any l.toArray Q (fuel + (l.toArray.size - n)) listed a w := by
  simp only [tailB, Bool.and_eq_true, decide_eq_true_eq, Bool.or_eq_true] at hB
  obtain ⟨⟨⟨⟨hn, hp⟩, hlate⟩, hseq⟩, hd⟩ := hB
  have hlen : l.toArray.size = l.length := by simp
  have late : ∀ t, n ≤ t → t < l.toArray.size → ∀ i, i < n → i ≠ d → reachB l.toArray 6 t i = true := by
    intro t ht hts i hi hid
    have h := List.all_eq_true.1 hlate t (List.mem_range.2 hts)
    simp only [Bool.or_eq_true, decide_eq_true_eq, List.all_eq_true, List.mem_range] at h
    rcases h with h | h
    · omega
    · exact (h i hi).resolve_left hid
  have reach : ∀ {listed : Array Bool} {a : Act} {w : World}, RegInvN l.toArray n φ a0 w0 listed a w → ∀ (f t i : Nat), (∀ ot, l.toArray[t]? = some ot → ∀ e ∈ ot.after, Region.binds .any e = true → listed.getD e.on true = true) → reachB l.toArray f t i = true → listed.getD i true = true := by
    intro listed a w h f
    have one : ∀ t i, (∀ ot, l.toArray[t]? = some ot → ∀ e ∈ ot.after, Region.binds .any e = true → listed.getD e.on true = true) → waitsAt l.toArray t i = true → listed.getD i true = true := by
      intro t i ht hw
      obtain ⟨ot, hot⟩ : ∃ ot, l.toArray[t]? = some ot := by
        cases e : l.toArray[t]? with
        | none => simp [waitsAt, e] at hw
        | some ot => exact ⟨ot, rfl⟩
      simp only [waitsAt, hot, Option.map_some, Option.getD_some, waits, List.any_eq_true, Bool.and_eq_true, beq_iff_eq, Array.mem_toList_iff] at hw
      obtain ⟨e, he, h2, h3⟩ := hw
      rw [← h2]
      exact ht ot hot e he h3
    induction f with
    | zero => exact one
    | succ f ihf =>
      intro t i ht hr
      simp only [reachB, Bool.or_eq_true, List.any_eq_true, List.mem_range, Bool.and_eq_true] at hr
      rcases hr with hr | ⟨j, hj, h1, h2⟩
      · exact one t i ht hr
      · exact ihf j i (fun oj hoj e he hb => h.down j oj e hoj (one t j ht h1) he hb) h2
  have slots : ∀ {listed : Array Bool} {a : Act} {w : World} (D : Nat), RegInvN l.toArray n φ a0 w0 listed a w → (∀ j, j < n → listed.getD j true = true → j ≠ D) → ∀ k, (∀ j, j < n → j ≠ D → slotOf l.toArray j ≠ k) → a.tmps.getD k undef = a0.tmps.getD k undef := by
    intro listed a w D h hD k hk
    have : a.tmps[k]? = a0.tmps[k]? := by
      refine h.kept k fun j oj hoj hlj e => ?_
      rcases Nat.lt_or_ge j n with hj | hj
      · exact hk j hj (hD j hj hlj) (slot_of hoj e)
      · rw [h.tail j hj (Array.getElem?_eq_some_iff.1 hoj).1] at hlj
        cases hlj
    simp [Array.getD_eq_getD_getElem?, this]
  intro fuel
  induction fuel with
  | zero =>
    intro listed a w hl hc h
    have hall : ∀ j, j < n → listed.getD j true = true := by
      intro j hj
      have hf := List.eq_nil_of_length_eq_zero hc
      rw [List.filter_eq_nil_iff] at hf
      have := hf j (List.mem_range.2 hj)
      simpa using this
    have he : listed = headArr l.toArray.size n l.toArray.size := headArr_eq hl fun j hj => by
      rcases Nat.lt_or_ge j n with h1 | h1
      · rw [hall j h1]; simp [h1]; simp at hj; omega
      · rw [h.tail j h1 hj]; simp; omega
    rw [Nat.zero_add]
    have hdl : (l.drop n).length = l.toArray.size - n := by simp
    have := wpAny_of_seq (P := P) (md := .any) (ops := l.toArray) (Q' := Q) (l.drop n) n listed a w (fun j => by simp [List.getElem?_drop]) (by rw [hdl, he]; exact hseq)
      (hend.all a w h.same h.defers h.size (fun k hk => slots l.toArray.size h (fun j hj _ => by omega) k fun j hj _ => hk j hj) fun j hj => h.done j hj (hall j hj))
    rwa [hdl] at this
  | succ fuel ih =>
    intro listed a w hl hc h
    rw [show fuel + 1 + (l.toArray.size - n) = (fuel + (l.toArray.size - n)) + 1 by omega]
    have hex : ∃ j, j < n ∧ listed.getD j true = false := by
      have : 0 < ((List.range n).filter fun i => !listed.getD i true).length := by omega
      obtain ⟨j, hj⟩ := List.exists_mem_of_length_pos this
      rw [List.mem_filter, List.mem_range] at hj
      exact ⟨j, hj.1, by simpa using hj.2⟩
    refine ⟨fun hr => ?_, fun i hi => ?_⟩
    · exfalso
      have key : ∀ i, i < n → listed.getD i true = true := by
        intro i
        induction i using Nat.strongRecOn with
        | _ i ihi =>
          intro hi
          cases hli : listed.getD i true with
          | true => rfl
          | false =>
            exfalso
            obtain ⟨o, ho⟩ : ∃ o, l.toArray[i]? = some o := ⟨_, Array.getElem?_eq_getElem (by omega)⟩
            have : i ∈ Region.ready .any l.toArray listed := by
              unfold Region.ready
              rw [List.mem_filter]
              refine ⟨List.mem_range.2 (by omega), ?_⟩
              rw [ho, hli]
              simp only [Bool.not_false, Bool.true_and, Option.map_some, Option.getD_some, Array.all_eq_true_iff_forall_mem]
              intro e he
              by_cases hb : Region.binds .any e = true
              · have hlt := (plainN_at hp hi ho).1 e he hb
                have hz : listed.getD e.on false = true := getD_one (by omega) (ihi e.on hlt (by omega))
                rw [hz]; simp
              · simp [hb]
            rw [hr] at this
            cases this
      obtain ⟨j, hj, hjf⟩ := hex
      rw [key j hj] at hjf
      cases hjf
    have hi0 := hi
    unfold Region.ready at hi
    rw [List.mem_filter] at hi
    obtain ⟨hi, hrd⟩ := hi
    have hi := List.mem_range.1 hi
    obtain ⟨o, ho⟩ : ∃ o, l.toArray[i]? = some o := ⟨_, Array.getElem?_eq_getElem hi⟩
    rw [ho] at hrd
    simp only [Bool.and_eq_true, Bool.not_eq_true', Option.map_some, Option.getD_some, Array.all_eq_true_iff_forall_mem] at hrd
    obtain ⟨hni, hrd⟩ := hrd
    have hrr : ∀ e ∈ o.after, Region.binds .any e = true → listed.getD e.on true = true := by
      intro e he hb
      have := hrd e he
      rw [hb] at this
      exact getD_two (by simpa using this)
    by_cases hin : i < n
    · refine wpOp_step ho fun K hK => ?_
      refine hstep i o hin ho a w h.same h.defers h.size (fun d hd => ?_) (fun j hj => ?_) K (fun v w' hv hs => hK _ _ ?_)
      · have : a.tmps[d]? = a0.tmps[d]? := by
          refine h.kept d fun j oj hoj hlj e => ?_
          have hm : oj ∈ l.toArray.toList := by
            rw [Array.mem_toList_iff]
            exact Array.mem_of_getElem? hoj
          have := List.all_eq_true.1 hd oj hm
          simp only [e, beq_self_eq_true, Bool.not_true, Bool.false_or, waits, List.any_eq_true, Bool.and_eq_true, beq_iff_eq, Array.mem_toList_iff] at this
          obtain ⟨ed, h1, h2, h3⟩ := this
          have := h.down j oj ed hoj hlj h1 h3
          rw [h2, hni] at this
          cases this
        simp [Array.getD_eq_getD_getElem?, this]
      · simp only [waits, List.any_eq_true, Bool.and_eq_true, beq_iff_eq, Array.mem_toList_iff] at hj
        obtain ⟨e, he, h2, h3⟩ := hj
        have hlt := (plainN_at hp hin ho).1 e he h3
        exact h.done j (by omega) (by rw [← h2]; exact hrr e he h3)
      · refine ih _ _ _ (by simpa using hl) ?_ (RegInvN.step hp hstab hdep hsz hl hin ho hni hrr h hs hv)
        refine count_less (i := i) (p := fun i => !listed.getD i true) hin (by rw [hni]; rfl) (fun j => ?_) hc
        show (!(listed.setIfInBounds i true).getD j true) = _
        rw [set_getD (by omega)]
        by_cases hij : i = j
        · subst hij; simp
        · rw [if_neg hij]
          have : (j != i) = true := by simpa using fun e : j = i => hij e.symm
          rw [this, Bool.and_true]
    · have hbut : ∀ j, j < n → j ≠ d → listed.getD j true = true := by
        intro j hj hjd
        exact reach h 6 i j (fun ot hot e he hb => by
          rw [ho] at hot
          injection hot with hot
          subst hot
          exact hrr e he hb) (late i (by omega) hi j hj hjd)
      obtain ⟨j, hj, hjf⟩ := hex
      have hjd : j = d := by
        by_cases e : j = d
        · exact e
        · rw [hbut j hj e] at hjf; cases hjf
      subst hjd
      rcases hd with hd | ⟨⟨hr1, hr2⟩, hseq2⟩
      · omega
      have he : listed = headArr l.toArray.size n j := headArr_eq hl fun k hk => by
        rcases Nat.lt_or_ge k n with h1 | h1
        · by_cases hkj : k = j
          · subst hkj; rw [hjf]; simp
          · rw [hbut k h1 hkj]; simp [h1, hkj]
        · rw [h.tail k h1 hk]; simp; omega
      have hf0 : fuel = 0 := by
        have : ((List.range n).filter fun i => !listed.getD i true) = (List.range n).filter fun i => decide (i = j) := by
          apply List.filter_congr
          intro k hk
          have hk := List.mem_range.1 hk
          by_cases hkj : k = j
          · subst hkj; simp [hjf]
          · simp [hbut k hk hkj, hkj]
        rw [this] at hc
        have h1 : ((List.range n).filter fun i => decide (i = j)).length ≤ 1 := by
          have := List.nodup_range (n := n)
          have e : ((List.range n).filter fun i => decide (i = j)) = (List.range n).filter (· == j) := by
            apply List.filter_congr; intro k _; by_cases h : k = j <;> simp [h]
          rw [e, ← List.count_eq_length_filter]
          exact List.nodup_iff_count.1 this j
        omega
      subst hf0
      have hin' : i = n := by
        rw [he, hr1] at hi0
        simp at hi0
        omega
      subst hin'
      obtain ⟨od, hod⟩ : ∃ od, l.toArray[j]? = some od := ⟨_, Array.getElem?_eq_getElem (by omega)⟩
      have hw := hend.but od o (by simpa using hod) (by simpa using ho) a w h.same h.defers h.size (slots j h fun k hk hlk e => by subst e; rw [hjf] at hlk; cases hlk) fun k hk hkj => h.done k hk (hbut k hk hkj)
      have hw1 : wpOp P l.toArray Q i (wpList P l.toArray Q (od :: l.drop (i + 1))) a w := by unfold wpOp; simp only [ho]; exact hw
      refine wpOp_mono (fun a' w' h' => ?_) hw1
      rw [Nat.zero_add]
      obtain ⟨g, hg⟩ : ∃ g, l.toArray.size - i = g + 1 := ⟨l.toArray.size - i - 1, by omega⟩
      rw [hg]
      refine ⟨fun h1 => ?_, fun k hk => ?_⟩
      · rw [he, hr2] at h1; cases h1
      · rw [he, hr2] at hk
        obtain rfl : k = j := by simpa using hk
        have hw2 : wpOp P l.toArray Q k (wpList P l.toArray Q (l.drop (i + 1))) a' w' := by unfold wpOp; simp only [hod]; exact h'
        refine wpOp_mono (fun a'' w'' h'' => ?_) hw2
        have hdl : (l.drop (i + 1)).length = g := by rw [List.length_drop]; omega
        have := wpAny_of_seq (P := P) (md := .any) (ops := l.toArray) (Q' := Q) (l.drop (i + 1)) (i + 1) ((listed.setIfInBounds i true).setIfInBounds k true) a'' w'' (fun j => by simp)
          (by rw [hdl, he, show g = l.toArray.size - i - 1 by omega]; exact hseq2) h''
        rwa [hdl] at this
end
end Go.Proofs.Ytoldelocfmpccaa
namespace Go.Proofs.Ytoldelocfmpccaa
/-- The frame is what the listed operations' slots hold, laid one after the other. -/
theorem act_putAll {lj : List Oper} {a a0 : Act} (hd : a.defers = a0.defers) (hs : a.tmps.size = a0.tmps.size) (hsome : ∀ o ∈ lj, ∃ d, o.dst = some d) (hne : lj.Pairwise fun x y => x.dst ≠ y.dst)
    (hot : ∀ d, (∀ o ∈ lj, o.dst ≠ some d) → a.tmps.getD d undef = a0.tmps.getD d undef) : a = putAll a0 lj (lj.map fun o => a.tmps.getD (o.dst.getD 0) undef) := by
  refine act_ext (by rw [hd, putAll_defers]) (by rw [hs, putAll_size]) (fun d hdl => ?_)
  by_cases h : ∃ (j : Nat) (hj : j < lj.length), lj[j].dst = some d
  · obtain ⟨j, hj, hjd⟩ := h
    rw [putAll_at lj _ a0 j hj (by simpa using hj) hjd (fun k hk hjk hkd => ?_) (by rw [← hs]; exact hdl)]
    · simp [hjd]
    · exact List.pairwise_iff_getElem.1 hne j k hj hk hjk (by rw [hjd, hkd])
  · rw [putAll_other lj _ a0 (fun o ho hod => h (by
      obtain ⟨j, hj, rfl⟩ := List.mem_iff_getElem.1 ho
      exact ⟨j, hj, hod⟩))]
    exact hot d fun o ho hod => h (by
      obtain ⟨j, hj, rfl⟩ := List.mem_iff_getElem.1 ho
      exact ⟨j, hj, hod⟩)
/-- A predicate on a value (and on that of an operation waited for, number k) that later worlds keep. -/
structure SP2 where
  k : Option Nat
  p : Value → Value → World → Prop
  st : ∀ u v w w', p u v w → Same (fun _ => True) w w' → p u v w'
def SP2.of (s : SP) : SP2 := ⟨none, fun v _ w => s.p v w, fun u _ w w' h k => s.st u w w' h k⟩
def SP2.eq (u : Value) : SP2 := ⟨none, fun v _ _ => v = u, fun _ _ _ _ h _ => h⟩
def SP2.any : SP2 := ⟨none, fun _ _ _ => True, fun _ _ _ _ _ _ => trivial⟩
def SP2.q (s : SP2) (v : Value) (u : Nat → Value) (w : World) : Prop := match s.k with | none => s.p v undef w | some k => s.p v (u k) w
def spAt (L : List SP2) (i : Nat) : SP2 := L.getD i SP2.any
def phi2 (L : List SP2) (i : Nat) (u : Nat → Value) (w : World) : Prop := (spAt L i).q (u i) u w
/-- The predicates speak of no other operation than one that is waited for. -/
def linksB (ops : Array Oper) (L : List SP2) : Bool := (List.range L.length).all fun i => match (spAt L i).k with | none => true | some k => waitsAt ops i k
theorem phi2_st (L : List SP2) : ∀ i v w w', phi2 L i v w → Same (fun _ => True) w w' → phi2 L i v w' := fun i v w w' h k => by
  unfold phi2 SP2.q at *
  split at h <;> exact (spAt L i).st _ _ _ _ h k
theorem links_at {ops : Array Oper} {L : List SP2} (h : linksB ops L = true) {i k : Nat} (hk : (spAt L i).k = some k) : waitsAt ops i k = true := by
  rcases Nat.lt_or_ge i L.length with hi | hi
  · have := List.all_eq_true.1 h i (List.mem_range.2 hi)
    rw [hk] at this
    exact this
  · have : spAt L i = SP2.any := by simp [spAt, hi]
    rw [this] at hk
    cases hk
theorem phi2_dep {ops : Array Oper} {L : List SP2} (hl : linksB ops L = true) : ∀ i u v w, phi2 L i u w → u i = v i → (∀ j, waitsAt ops i j = true → u j = v j) → phi2 L i v w := fun i u v w h h1 h2 => by
  unfold phi2 SP2.q at *
  cases hk : (spAt L i).k with
  | none => rw [hk] at h; simpa [h1] using h
  | some k =>
    rw [hk] at h
    have := h2 k (links_at hl hk)
    simpa [h1, this] using h
/-- What an operation is shown to do. -/
def OpDoesL (P : Program) (ops : Array Oper) (L : List SP2) (a0 : Act) (w0 : World) (Q : Exit → Act → World → Prop) (i : Nat) (o : Oper) : Prop :=
  ∀ (a : Act) (w : World), Same (fun _ => True) w0 w → a.defers = a0.defers → a.tmps.size = a0.tmps.size →
    (∀ d, freeAt ops i d = true → a.tmps.getD d undef = a0.tmps.getD d undef) →
    (∀ j, waits o j = true → phi2 L j (valsOf ops a) w) →
    ∀ K : Act → World → Prop, (∀ v w', (spAt L i).q v (valsOf ops a) w' → Same (fun _ => True) w w' → K (a.put o.dst v) w') →
      if Region.wanted o (yielded ops a.tmps) = true then Oper.wp P o a w K Q else K (a.put o.dst undef) w
theorem OpDoesL.two {P : Program} {ops : Array Oper} {L : List SP2} {a0 : Act} {w0 : World} {Q : Exit → Act → World → Prop} {i : Nat} {o : Oper} (hl : linksB ops L = true) (ho : ops[i]? = some o) (h : OpDoesL P ops L a0 w0 Q i o) : OpDoes2 P ops (phi2 L) a0 w0 Q i o := by
  intro a w h1 h2 h3 h4 h5 K hK
  refine h a w h1 h2 h3 h4 h5 K fun v w' hv hs => hK v w' (fun u hu hj => ?_) hs
  unfold phi2 SP2.q at *
  cases hk : (spAt L i).k with
  | none => rw [hk] at hv; simpa [hu] using hv
  | some k =>
    rw [hk] at hv
    have hw := links_at hl hk
    simp only [waitsAt, ho, Option.map_some, Option.getD_some] at hw
    simpa [hu, hj k hw] using hv
def OpsDoL (P : Program) (ops : Array Oper) (L : List SP2) (a0 : Act) (w0 : World) (Q : Exit → Act → World → Prop) : Nat → List Oper → Prop
  | _, [] => True
  | k, o :: l => OpDoesL P ops L a0 w0 Q k o ∧ OpsDoL P ops L a0 w0 Q (k + 1) l
theorem OpsDoL.at_ {P : Program} {ops : Array Oper} {L : List SP2} {a0 : Act} {w0 : World} {Q : Exit → Act → World → Prop} : ∀ (l : List Oper) (k : Nat), OpsDoL P ops L a0 w0 Q k l → ∀ i o, l[i]? = some o → OpDoesL P ops L a0 w0 Q (k + i) o
  | [], _, _, i, o, h => by simp at h
  | o' :: l, k, h, 0, o, ho => by simp at ho; subst ho; exact h.1
  | o' :: l, k, h, i + 1, o, ho => by
    have := OpsDoL.at_ l (k + 1) h.2 i o (by simpa using ho)
    rwa [show k + (i + 1) = k + 1 + i from by omega]
section
variable {P : Program} {l : List Oper} {n d id : Nat} {L : List SP2} {a0 : Act} {w0 : World} {Q : Exit → Act → World → Prop}
theorem tailB_parts (hB : tailB l.toArray n d = true) : n < l.length ∧ plainN l.toArray n = true := by
  simp only [tailB, Bool.and_eq_true, decide_eq_true_eq] at hB
  exact ⟨by simpa using hB.1.1.1.1, hB.1.1.1.2⟩
theorem heads_facts (hB : tailB l.toArray n d = true) : (∀ o ∈ l.take n, ∃ d, o.dst = some d) ∧ ((l.take n).Pairwise fun x y => x.dst ≠ y.dst) ∧ ∀ j (hj : j < n) (hj' : j < (l.take n).length), slotOf l.toArray j = ((l.take n)[j].dst).getD 0 ∧ (l.take n)[j].dst = some (slotOf l.toArray j) := by
  obtain ⟨hn, hp⟩ := tailB_parts hB
  have hat : ∀ j (hj : j < n) (hj' : j < (l.take n).length), slotOf l.toArray j = ((l.take n)[j].dst).getD 0 ∧ (l.take n)[j].dst = some (slotOf l.toArray j) := by
    intro j hj hj'
    obtain ⟨-, ⟨k, hk⟩, -⟩ := plainN_at hp hj (show l.toArray[j]? = some (l[j]'(by omega)) by simp)
    have e := slot_of (ops := l.toArray) (show l.toArray[j]? = some (l[j]'(by omega)) by simp) hk
    rw [List.getElem_take, e, hk]
    exact ⟨rfl, rfl⟩
  refine ⟨fun o ho => ?_, ?_, hat⟩
  · obtain ⟨j, hj, rfl⟩ := List.mem_iff_getElem.1 ho
    exact ⟨_, (hat j (by rw [List.length_take] at hj; omega) hj).2⟩
  · rw [List.pairwise_iff_getElem]
    intro i j hi hj hij e
    have hi' : i < n := by rw [List.length_take] at hi; omega
    have hj' : j < n := by rw [List.length_take] at hj; omega
    rw [(hat i hi' hi).2, (hat j hj' hj).2] at e
    injection e with e
    exact (plainN_at hp hj' (show l.toArray[j]? = some (l[j]'(by omega)) by simp)).2.2 i hi' (by omega) e
theorem region_start (hm : P.follows .mixedOrders = true) {φ : Nat → (Nat → Value) → World → Prop} (hB : tailB l.toArray n d = true) (hsz : (l.all fun o => (o.dst.map fun d => decide (d < a0.tmps.size)).getD true) = true) (hstab : ∀ i v w w', φ i v w → Same (fun _ => True) w w' → φ i v w') (hdep : ∀ i u v w, φ i u w → u i = v i → (∀ j, waitsAt l.toArray i j = true → u j = v j) → φ i v w)
    (hstep : ∀ i o, i < n → l.toArray[i]? = some o → OpDoes2 P l.toArray φ a0 w0 Q i o) (hend : TailDoes P l n d φ a0 w0 Q) : (Code.region id l.toArray true).wp P Q a0 w0 := by
  obtain ⟨hn, hp⟩ := tailB_parts hB
  refine wp_region_any hm ?_
  have hcount : ((List.range n).filter fun i => !(Array.replicate l.toArray.size false).getD i true).length = n := by
    have : ((List.range n).filter fun i => !(Array.replicate l.toArray.size false).getD i true) = List.range n := by
      rw [List.filter_eq_self]
      intro i hi
      have := List.mem_range.1 hi
      have : i < l.length := by omega
      simp [Array.getD_eq_getD_getElem?, this]
    rw [this, List.length_range]
  have := wpAny_tail (w0 := w0) (φ := φ) hB hstab hdep (fun i o k ho hk => ?_) hstep hend n (Array.replicate l.toArray.size false) a0 { w0 with drawn := w0.drawn + 1 } (by simp) hcount ?_
  · rwa [show n + (l.toArray.size - n) = l.toArray.size by simp; omega] at this
  · have hmem : o ∈ l := by
      have : o ∈ l.toArray.toList := by rw [Array.mem_toList_iff]; exact Array.mem_of_getElem? ho
      simpa using this
    have := List.all_eq_true.1 hsz o hmem
    rw [hk] at this
    simpa using this
  · refine ⟨rfl, rfl, (Same.refl _ _).drew, fun _ _ => rfl, fun j hj h => ?_, fun j o e ho h => ?_, fun t h1 h2 => ?_⟩
    · have : j < l.length := by omega
      simp [Array.getD_eq_getD_getElem?, this] at h
    · have hj := (Array.getElem?_eq_some_iff.1 ho).1
      have hj : j < l.length := by simpa using hj
      simp [Array.getD_eq_getD_getElem?, hj] at h
    · have h2 : t < l.length := by simpa using h2
      simp [Array.getD_eq_getD_getElem?, h2]
/-- All of the first operations come ahead of the last ones. -/
theorem wp_region_tail_lit (n : Nat) (hm : P.follows .mixedOrders = true) (hB : tailB l.toArray n l.length = true) (hL : L.length = n) (hlk : linksB l.toArray L = true)
    (hsz : (l.all fun o => (o.dst.map fun d => decide (d < a0.tmps.size)).getD true) = true) (hstep : OpsDoL P l.toArray L a0 w0 Q 0 (l.take n))
    (hA : ∀ vs w, vs.length = n → (∀ j, j < n → (spAt L j).q (vs.getD j undef) (fun k => vs.getD k undef) w) → Same (fun _ => True) w0 w → wpList P l.toArray Q (l.drop n) (putAll a0 (l.take n) vs) w) : (Code.region id l.toArray true).wp P Q a0 w0 := by
  obtain ⟨hn, hp⟩ := tailB_parts hB
  obtain ⟨f1, f2, f3⟩ := heads_facts hB
  have hln : (l.take n).length = n := by rw [List.length_take]; omega
  refine region_start (φ := phi2 L) hm hB hsz (phi2_st L) (phi2_dep hlk) (fun i o hi ho => ?_) ⟨fun a w h1 h2 h3 h4 h5 => ?_, fun od on h => by simp at h⟩
  · have := OpsDoL.at_ (l.take n) 0 hstep i o (by rw [List.getElem?_take, if_pos hi]; simpa using ho)
    rw [Nat.zero_add] at this
    exact this.two hlk ho
  · have hval : ∀ j, j < n → ((l.take n).map fun o => a.tmps.getD (o.dst.getD 0) undef).getD j undef = valsOf l.toArray a j := fun j hj => by
      unfold valsOf
      rw [(f3 j hj (by omega)).1]
      have hj2 : j < l.length := by omega
      simp [List.getD_eq_getElem?_getD, hj, hj2]
    rw [act_putAll (a := a) (a0 := a0) (lj := l.take n) h2 h3 f1 f2 fun k hk => h4 k fun j hj e => ?_]
    · refine hA _ w (by rw [List.length_map, hln]) (fun j hj => ?_) h1
      have h := phi2_dep hlk j _ (fun k => ((l.take n).map fun o => a.tmps.getD (o.dst.getD 0) undef).getD k undef) w (h5 j hj) (hval j hj).symm fun k hk => (hval k ?_).symm
      · exact h
      · obtain ⟨oj, hoj⟩ : ∃ oj, l.toArray[j]? = some oj := by
          cases e : l.toArray[j]? with
          | none => simp [waitsAt, e] at hk
          | some oj => exact ⟨oj, rfl⟩
        simp only [waitsAt, hoj, Option.map_some, Option.getD_some, waits, List.any_eq_true, Bool.and_eq_true, beq_iff_eq, Array.mem_toList_iff] at hk
        obtain ⟨e, he, h2, h3⟩ := hk
        have := (plainN_at hp hj hoj).1 e he h3
        omega
    · refine hk ((l.take n)[j]'(by omega)) (List.getElem_mem _) ?_
      rw [(f3 j hj (by omega)).2, e]
/-- One of the first operations may come behind the first of the last ones (of the others' predicates none speaks of another operation). -/
theorem wp_region_tail_d {od on : Oper} (n d : Nat) (hd : d < n) (hm : P.follows .mixedOrders = true) (hB : tailB l.toArray n d = true) (hL : L.length = n) (hlk : linksB l.toArray L = true) (hone : ((L.eraseIdx d).all fun s => s.k.isNone) = true) (hod : l[d]? = some od) (hon : l[n]? = some on)
    (hsz : (l.all fun o => (o.dst.map fun d => decide (d < a0.tmps.size)).getD true) = true) (hstep : OpsDoL P l.toArray L a0 w0 Q 0 (l.take n))
    (hA : ∀ vs w, vs.length = n → (∀ j, j < n → (spAt L j).q (vs.getD j undef) (fun k => vs.getD k undef) w) → Same (fun _ => True) w0 w → wpList P l.toArray Q (l.drop n) (putAll a0 (l.take n) vs) w)
    (hD : ∀ vs w, vs.length = n - 1 → (∀ j, j < n - 1 → (spAt (L.eraseIdx d) j).p (vs.getD j undef) undef w) → Same (fun _ => True) w0 w → wpList P l.toArray Q (on :: od :: l.drop (n + 1)) (putAll a0 ((l.take n).eraseIdx d) vs) w) : (Code.region id l.toArray true).wp P Q a0 w0 := by
  obtain ⟨hn, hp⟩ := tailB_parts hB
  obtain ⟨f1, f2, f3⟩ := heads_facts hB
  have hln : (l.take n).length = n := by rw [List.length_take]; omega
  have hle : ((l.take n).eraseIdx d).length = n - 1 := by rw [List.length_eraseIdx, if_pos (by omega), hln]
  have hkn : ∀ j, j ≠ d → (spAt L j).k = none := fun j hjd => by
    rcases Nat.lt_or_ge j L.length with hj | hj
    · have := List.all_eq_true.1 hone L[j] (by rw [List.mem_eraseIdx_iff_getElem]; exact ⟨j, hj, hjd, rfl⟩)
      have e : spAt L j = L[j] := by simp [spAt, hj]
      rw [e]; simpa using this
    · have e : spAt L j = SP2.any := by simp [spAt, hj]
      rw [e]; rfl
  have hph : ∀ j u w, j ≠ d → phi2 L j u w → (spAt L j).p (u j) undef w := fun j u w hjd h => by
    unfold phi2 SP2.q at h
    rw [hkn j hjd] at h
    exact h
  refine region_start (φ := phi2 L) hm hB hsz (phi2_st L) (phi2_dep hlk) (fun i o hi ho => ?_) ⟨fun a w h1 h2 h3 h4 h5 => ?_, fun od' on' h h' a w h1 h2 h3 h4 h5 => ?_⟩
  · have := OpsDoL.at_ (l.take n) 0 hstep i o (by rw [List.getElem?_take, if_pos hi]; simpa using ho)
    rw [Nat.zero_add] at this
    exact this.two hlk ho
  · have hval : ∀ j, j < n → ((l.take n).map fun o => a.tmps.getD (o.dst.getD 0) undef).getD j undef = valsOf l.toArray a j := fun j hj => by
      unfold valsOf
      rw [(f3 j hj (by omega)).1]
      have hj2 : j < l.length := by omega
      simp [List.getD_eq_getElem?_getD, hj, hj2]
    rw [act_putAll (a := a) (a0 := a0) (lj := l.take n) h2 h3 f1 f2 fun k hk => h4 k fun j hj e => ?_]
    · refine hA _ w (by rw [List.length_map, hln]) (fun j hj => ?_) h1
      have h := phi2_dep hlk j _ (fun k => ((l.take n).map fun o => a.tmps.getD (o.dst.getD 0) undef).getD k undef) w (h5 j hj) (hval j hj).symm fun k hk => (hval k ?_).symm
      · exact h
      · obtain ⟨oj, hoj⟩ : ∃ oj, l.toArray[j]? = some oj := by
          cases e : l.toArray[j]? with
          | none => simp [waitsAt, e] at hk
          | some oj => exact ⟨oj, rfl⟩
        simp only [waitsAt, hoj, Option.map_some, Option.getD_some, waits, List.any_eq_true, Bool.and_eq_true, beq_iff_eq, Array.mem_toList_iff] at hk
        obtain ⟨e, he, h2, h3⟩ := hk
        have := (plainN_at hp hj hoj).1 e he h3
        omega
    · refine hk ((l.take n)[j]'(by omega)) (List.getElem_mem _) ?_
      rw [(f3 j hj (by omega)).2, e]
  · obtain rfl : od' = od := by rw [hod] at h; exact (Option.some.inj h).symm
    obtain rfl : on' = on := by rw [hon] at h'; exact (Option.some.inj h').symm
    rw [act_putAll (a := a) (a0 := a0) (lj := (l.take n).eraseIdx d) h2 h3 (fun o ho => f1 o (List.mem_of_mem_eraseIdx ho)) (f2.sublist (List.eraseIdx_sublist _ _)) fun k hk => h4 k fun j hj hjd e => ?_]
    · refine hD _ w (by rw [List.length_map, hle]) (fun j hj => ?_) h1
      have hsp : ∀ i, i < n → i ≠ d → (spAt L i).p (a.tmps.getD ((((l.take n)[i]?).bind (·.dst)).getD 0) undef) undef w := fun i hi hid => by
        have := hph i _ w hid (h5 i hi hid)
        unfold valsOf at this
        rw [(f3 i hi (by omega)).1] at this
        rw [List.getElem?_eq_getElem (by omega)]
        exact this
      have hgd : (((l.take n).eraseIdx d).map fun o => a.tmps.getD (o.dst.getD 0) undef).getD j undef = a.tmps.getD ((((l.take n).eraseIdx d)[j]?.bind (·.dst)).getD 0) undef := by
        have : j < ((l.take n).eraseIdx d).length := by omega
        rw [List.getD_eq_getElem?_getD, List.getElem?_map, List.getElem?_eq_getElem this]
        rfl
      rw [hgd, List.getElem?_eraseIdx]
      have hLe : spAt (L.eraseIdx d) j = spAt L (if j < d then j else j + 1) := by
        unfold spAt
        rw [List.getD_eq_getElem?_getD, List.getD_eq_getElem?_getD, List.getElem?_eraseIdx]
        split <;> rfl
      rw [hLe]
      split
      · exact hsp j (by omega) (by omega)
      · exact hsp (j + 1) (by omega) (by omega)
    · refine hk ((l.take n)[j]'(by omega)) ?_ ?_
      · rw [List.mem_eraseIdx_iff_getElem]
        exact ⟨j, by omega, hjd, rfl⟩
      · rw [(f3 j hj (by omega)).2, e]
end
end Go.Proofs.Ytoldelocfmpccaa
namespace Go.Proofs.Ytoldelocfmpccaa
open Go.RowKit
structure Out where
  by_ : TryT
  at_ : St
  yes : Bool
deriving DecidableEq
def Out.zero : Out := ⟨⟨0, 0, 0, 0⟩, ⟨0, 0⟩, false⟩
def outCs (o : Out) : List Value := [.int .i64 o.by_.node, .int .i64 o.by_.life, .int .i64 o.by_.seq, .int .i64 o.by_.attempt, .int .i64 o.at_.wall, .int .i64 o.at_.tie, .bool o.yes]
abbrev outV (o : Out) : Value := .agg #[.int .i64 o.by_.node, .int .i64 o.by_.life, .int .i64 o.by_.seq, .int .i64 o.by_.attempt, .int .i64 o.at_.wall, .int .i64 o.at_.tie, .bool o.yes]
theorem outCs_len (o : Out) : (outCs o).length = 7 := rfl
theorem outCs_one (o : Out) : ∀ u ∈ outCs o, u.oneCell' = true := by
  intro u hu
  simp only [outCs, List.mem_cons, List.not_mem_nil, or_false] at hu
  rcases hu with rfl | rfl | rfl | rfl | rfl | rfl | rfl <;> rfl
theorem TOut : SlT Try.prog 75 93 7 56 (.agg #[.int .i64 0, .int .i64 0, .int .i64 0, .int .i64 0, .int .i64 0, .int .i64 0, .bool false]) := ⟨by kernel_rfl, by kernel_rfl, rfl, by omega⟩
abbrev OutR (w : World) (S : Nat → Prop) (v : Value) (l : List Out) : Prop := RowR outCs 7 w S v l
abbrev OwnO (w : World) (B : Nat) (v : Value) (l : List Out) : Prop := OwnR outCs 7 93 w B v l
theorem OutR.form {w : World} {S : Nat → Prop} {v : Value} {l : List Out} (h : OutR w S v l) : ∃ A c, v = .slice A l.length c ∧ l.length ≤ c ∧ c ≤ maxLen := by
  obtain ⟨A, c, h1, h2, h3, _⟩ := h
  exact ⟨A, c, h1, h2, h3⟩
theorem OutR.cells {w : World} {S : Nat → Prop} {A : Option Addr} {n c : Nat} {l : List Out} (h : OutR w S (.slice A n c) l) {i : Nat} (hi : i < l.length) : ∃ ad, A = some ad ∧ S ad.block ∧
    w.cell? (ad.add (i * 7)) = some (.int .i64 l[i].by_.node) ∧ w.cell? ⟨(ad.add (i * 7)).block, (ad.add (i * 7)).off + 1, none⟩ = some (.int .i64 l[i].by_.life) ∧ w.cell? ⟨(ad.add (i * 7)).block, (ad.add (i * 7)).off + 2, none⟩ = some (.int .i64 l[i].by_.seq) ∧ w.cell? ⟨(ad.add (i * 7)).block, (ad.add (i * 7)).off + 3, none⟩ = some (.int .i64 l[i].by_.attempt) ∧
    w.cell? ⟨(ad.add (i * 7)).block, (ad.add (i * 7)).off + 4, none⟩ = some (.int .i64 l[i].at_.wall) ∧ w.cell? ⟨(ad.add (i * 7)).block, (ad.add (i * 7)).off + 5, none⟩ = some (.int .i64 l[i].at_.tie) ∧ w.cell? ⟨(ad.add (i * 7)).block, (ad.add (i * 7)).off + 6, none⟩ = some (.bool l[i].yes) := by
  obtain ⟨ad, c, h1, h2, h3, h4, h5⟩ := RowR.at_ h outCs_len hi
  injection h1 with h1 _ _
  exact ⟨ad, h1, h4, by have := h5 0 (by omega); rwa [add_zero] at this, h5 1 (by omega), h5 2 (by omega), h5 3 (by omega), h5 4 (by omega), h5 5 (by omega), h5 6 (by omega)⟩
/-- How an attempt ended, and whether it did. -/
def findO (l : List Out) (b : TryT) : Out × Bool := match l.find? fun o => o.by_ == b with | some o => (o, true) | none => (Out.zero, false)
theorem find_none {l : List Out} {b : TryT} (h : ∀ j (h : j < l.length), (l[j].by_ == b) = false) : findO l b = (Out.zero, false) := by
  unfold findO
  rw [List.find?_eq_none.2 fun o ho => by
    obtain ⟨j, hj, rfl⟩ := List.mem_iff_getElem.1 ho
    rw [h j hj]; simp]
theorem find_at {l : List Out} {b : TryT} {k : Nat} (hk : k < l.length) (h : ∀ j (h : j < l.length), j < k → (l[j].by_ == b) = false) (h2 : (l[k].by_ == b) = true) : findO l b = (l[k], true) := by
  unfold findO
  have : l.find? (fun o => o.by_ == b) = some l[k] := by
    rw [List.find?_eq_some_iff_getElem]
    exact ⟨h2, k, hk, rfl, fun j hj => by simp [h j (by omega) hj]⟩
  rw [this]
def TryRun : Prop := ∀ (a b : TryT) (w : World), (binOp .eql 26 (tryV a) (tryV b)).run Try.prog w = .ok (.bool (a == b)) w
theorem try_run : TryRun := fun a b w => by
  have e : (a == b) = (a.node == b.node && (a.life == b.life && (a.seq == b.seq && a.attempt == b.attempt))) := by
    rw [Bool.eq_iff_iff]; cases a; cases b; simp
  rw [e]
  go_simp
  cases h1 : a.node == b.node <;> cases h2 : a.life == b.life <;> cases h3 : a.seq == b.seq <;> cases h4 : a.attempt == b.attempt <;> simp_all
set_option maxHeartbeats 1000000 in
theorem find1_any (o : Out) (b : TryT) (p : Nat) (w : World) (hp : Row w p 26 (tryCs b)) :
    Calls Try.prog 86 #[outV o, .pointer (some ⟨p, 0, none⟩)] w fun e w' => e = .returned (.bool (o.by_ == b)) ∧ Same (fun _ => True) w w' := by
  have hp1 := hp.keep ((Same.refl (fun _ => True) w).alloc (.cells #[.int .i64 o.by_.node, .int .i64 o.by_.life, .int .i64 o.by_.seq, .int .i64 o.by_.attempt, .int .i64 o.at_.wall, .int .i64 o.at_.tie, .bool o.yes] 93)) trivial
  have p0 := hp1.cell 0
  have p1 := hp1.cell 1
  have p2 := hp1.cell 2
  have p3 := hp1.cell 3
  simp only [tryCs, List.getElem?_cons_zero, List.getElem?_cons_succ] at p0 p1 p2 p3
  have qE := try_run o.by_ b
  clear hp hp1
  go_enter Try.func86, Try.ntmps86
  go_wp2
  go_ret
  exact ⟨rfl, (Same.refl _ _).alloc _⟩
def idxO (l : List Out) (b : TryT) (i : Int) : Prop := (i = -1 ∧ findO l b = (Out.zero, false)) ∨ ∃ k, ∃ h : k < l.length, i = (k : Int) ∧ findO l b = (l[k], true)
set_option maxHeartbeats 1000000 in
theorem findidx_any (v : Value) (l : List Out) (b : TryT) (p : Nat) (S : Nat → Prop) (w : World) (hv : OutR w S v l) (hp : Row w p 26 (tryCs b)) :
    Calls Try.prog 85 #[v, .func (.func 86) #[] #[.pointer (some ⟨p, 0, none⟩)]] w
      fun e w' => ∃ i, e = .returned (.int .i64 i) ∧ idxO l b i ∧ Same (fun _ => True) w w' := by
  obtain ⟨A, cp, rfl, hc, hm⟩ := hv.form
  have Hv := Lib.hid hv
  have Hp := Lib.hid hp
  unfold maxLen at hm
  clear hv hp
  go_enter Try.func85, Try.ntmps85
  go_wp2
  go_loopw [5, 8] (fun _ i wr => ∃ k : Nat, i = .int .i64 k ∧ k ≤ l.length ∧ (∀ j (h : j < l.length), j < k → (l[j].by_ == b) = false) ∧ Same (fun _ => True) w wr) (fun _ i _ => l.length - (intOf i).toNat)
  case atStart => exact ⟨0, rfl, Nat.zero_le _, fun j _ h => absurd h (Nat.not_lt_zero _), Same.refl _ _⟩
  case round =>
    obtain ⟨k, rfl, hk, hno, hS⟩ := hrel
    have HS := Lib.hid hS
    have Hno := Lib.hid hno
    clear hno
    by_cases hlt : k < l.length
    · obtain ⟨ad, rfl, -, c0, c1, c2, c3, c4, c5, c6⟩ := OutR.cells (RowR.keepAll Hv.out hS) hlt
      have x1 : (0 : Int) ≤ (k : Int) := by omega
      have x2 : (k : Int) < (l.length : Int) := by omega
      have g := find1_any l[k] b p wr (Hp.out.keep hS trivial)
      have hat := @find_at l b k hlt Hno.out
      have Hat := Lib.hid hat
      have hstep : (l[k].by_ == b) = false → ∀ j (h : j < l.length), j < k + 1 → (l[j].by_ == b) = false := by
        intro h0 j h hj
        by_cases e : j = k
        · subst e; exact h0
        · exact Hno.out j h (by omega)
      have Hstep := Lib.hid hstep
      clear hat hS hstep
      cases hb : l[k].by_ == b
      · rw [hb] at g
        have Hb := Lib.hid hb
        clear hb
        go_wp2_with (go_at_call 86; refine g.mono ?_; rintro e w3 ⟨rfl, hS3⟩)
        go_roundw
        case rel => exact ⟨k + 1, by go_num, by omega, Hstep.out Hb.out, HS.out.trans hS3⟩
        case measure => simp [intOf]; omega
      · rw [hb] at g
        have Hb := Lib.hid hb
        clear hb
        go_wp2_with (go_at_call 86; refine g.mono ?_; rintro e w3 ⟨rfl, hS3⟩)
        go_ret
        exact ⟨_, rfl, .inr ⟨k, hlt, rfl, Hat.out Hb.out⟩, HS.out.trans hS3⟩
    · have hall := Lib.hid (find_none (b := b) (l := l) fun j h => Hno.out j h (by omega))
      clear hS
      go_wp2
      go_ret
      exact ⟨_, rfl, .inl ⟨rfl, hall.out⟩, HS.out⟩
theorem find_results {W : World} {k : Nat} {o : Out} {b : Bool} (R : Row W k 93 (outCs o)) {tmps : Array Value}
    (h2 : tmps.getD 4 undef = .pointer (some ⟨k, 0, none⟩)) (h3 : tmps.getD 5 undef = .bool b) :
    (results Try.f49 tmps).run Try.prog W = .ok (.tuple #[outV o, .bool b]) W := by
  have d0 := R.cell 0
  have d1 := R.cell 1
  have d2 := R.cell 2
  have d3 := R.cell 3
  have d4 := R.cell 4
  have d5 := R.cell 5
  have d6 := R.cell 6
  simp only [outCs, List.getElem?_cons_zero, List.getElem?_cons_succ] at d0 d1 d2 d3 d4 d5 d6
  simp at h2 h3
  simp [results, Try.results49, h2, h3, go_sem, d0, d1, d2, d3, d4, d5, d6]
theorem Same.sets' {S : Nat → Prop} {g : Nat} {w : World} (hg : w.heap.size ≤ g) : ∀ (vs : List Value) {w' : World} (k : Nat), Same S w w' → Same S w (setsW w' g k vs)
  | [], _, _, h => h
  | v :: vs, _, k, h => Same.sets' hg vs (k + 1) (h.setCell (p := ⟨g, k, none⟩) (fun hp => by have hp : g < w.heap.size := hp; omega) v)
def FindP (r : Out × Bool) (w : World) (e : Ending) (w' : World) : Prop := e = .returned (.tuple #[outV r.1, .bool r.2]) ∧ Same (fun _ => True) w w'
set_option maxHeartbeats 2000000 in
theorem find_any (v : Value) (l : List Out) (b : TryT) (S : Nat → Prop) (w : World) (hv : OutR w S v l) :
    Calls Try.prog 49 #[v, tryV b] w (FindP (findO l b) w) := by
  have hmf : ∀ (fn : Fn) (first cap : Array Value) (w : World), (Instr.makeFunc fn first cap).run Try.prog w = .ok (.func fn first cap) w := fun _ _ _ _ => rfl
  have g := fun W h1 h2 => findidx_any v l b w.heap.size S W h1 h2
  obtain ⟨A, cp, rfl, hc, hm⟩ := hv.form
  unfold maxLen at hm
  have Hv := Lib.hid hv
  have r0 := (Row.new w 26 (tryCs b)).keep ((Same.refl (fun _ => True) _).alloc (.cells (outCs Out.zero).toArray 93)) trivial
  have r1 := Row.new (w.alloc (.cells (tryCs b).toArray 26)) 93 (outCs Out.zero)
  have hS0 := ((Same.refl (fun _ => True) w).alloc (.cells (tryCs b).toArray 26)).alloc (.cells (outCs Out.zero).toArray 93)
  rw [World.size_alloc] at r1
  clear hv
  go_enter Try.func49, Try.ntmps49
  go_wp2_with (go_at_call 85; refine stopAt ?_)
  unfold Hid
  simp only [tryCs, outCs, Out.zero] at r0 r1 hS0
  revert r0 r1 hS0
  generalize (w.alloc _).alloc _ = w1
  intro r0 r1 hS0
  refine (g w1 (Hv.out.keepAll hS0) r0).mono ?_
  rintro e w3 ⟨i, rfl, hi, hS3⟩
  have HS0 := Lib.hid (hS0.trans hS3)
  have r3 := r1.keep hS3 trivial
  have R3 := Lib.hid r3
  have z3 := r3.lt
  have d0 := r3.cell 0
  have d1 := r3.cell 1
  have d2 := r3.cell 2
  have d3 := r3.cell 3
  have d4 := r3.cell 4
  have d5 := r3.cell 5
  have d6 := r3.cell 6
  simp only [List.getElem?_cons_zero, List.getElem?_cons_succ] at d0 d1 d2 d3 d4 d5 d6
  have f0 := r3.frozen 0
  have f1 := r3.frozen 1
  have f2 := r3.frozen 2
  have f3 := r3.frozen 3
  have f4 := r3.frozen 4
  have f5 := r3.frozen 5
  have f6 := r3.frozen 6
  have Hv3 := Lib.hid (Hv.out.keepAll HS0.out)
  clear hS0 hS3 r0 r1 r3 g
  rcases hi with ⟨rfl, hf⟩ | ⟨k, hk, rfl, hf⟩
  · have Hf := Lib.hid hf
    clear hf
    go_wp2
    rw [Hf.out]
    exact bodyPost_ret (find_results (o := Out.zero) (show Row _ _ _ (outCs Out.zero) from R3.out.sets (outCs Out.zero) 0) rfl rfl) rfl ⟨rfl, Same.sets' (by omega) (outCs Out.zero) 0 HS0.out⟩
  · obtain ⟨ad, rfl, -, c0, c1, c2, c3, c4, c5, c6⟩ := OutR.cells Hv3.out hk
    have x1 : (0 : Int) ≤ (k : Int) := by omega
    have x2 : (k : Int) < (l.length : Int) := by omega
    have Hf := Lib.hid hf
    clear hf
    generalize l[k] = o at *
    go_wp2
    rw [Hf.out]
    exact bodyPost_ret (find_results (o := o) (show Row _ _ _ (outCs o) from R3.out.sets (outCs o) 0) rfl rfl) rfl ⟨rfl, Same.sets' (by omega) (outCs o) 0 HS0.out⟩
end Go.Proofs.Ytoldelocfmpccaa
namespace Go.Proofs.Ytoldelocfmpccaa
open Go.RowKit
theorem twin1_results {W : World} {k : Nat} {u : Value} {c : Cel} (R : Row W k 64 (celCs (u, c))) {tmps : Array Value}
    (h2 : tmps.getD 2 undef = .pointer (some ⟨k, 0, none⟩)) :
    (results Try.f102 tmps).run Try.prog W = .ok (celV u c) W := by
  have d0 : W.cell? ⟨k, 0, none⟩ = some (.string (str c.key)) := R.cell 0
  have d1 : W.cell? ⟨k, 1, none⟩ = some (u) := R.cell 1
  have d2 : W.cell? ⟨k, 2, none⟩ = some (.bool c.locked) := R.cell 2
  have d3 : W.cell? ⟨k, 3, none⟩ = some (.int .i64 c.lock.by_.node) := R.cell 3
  have d4 : W.cell? ⟨k, 4, none⟩ = some (.int .i64 c.lock.by_.life) := R.cell 4
  have d5 : W.cell? ⟨k, 5, none⟩ = some (.int .i64 c.lock.by_.seq) := R.cell 5
  have d6 : W.cell? ⟨k, 6, none⟩ = some (.int .i64 c.lock.by_.attempt) := R.cell 6
  have d7 : W.cell? ⟨k, 7, none⟩ = some (.int .i64 c.lock.home) := R.cell 7
  have d8 : W.cell? ⟨k, 8, none⟩ = some (.int .i64 c.lock.at_.wall) := R.cell 8
  have d9 : W.cell? ⟨k, 9, none⟩ = some (.int .i64 c.lock.at_.tie) := R.cell 9
  have d10 : W.cell? ⟨k, 10, none⟩ = some (.bool c.lock.drop) := R.cell 10
  have d11 : W.cell? ⟨k, 11, none⟩ = some (.string (str c.lock.data)) := R.cell 11
  simp at h2
  simp [results, Try.results102, h2, go_sem, d0, d1, d2, d3, d4, d5, d6, d7, d8, d9, d10, d11]
set_option maxHeartbeats 1000000 in
theorem twin1_any (u : Value) (c : Cel) (S : Nat → Prop) (w : World) (hv : VerR w S u c.vers) (hn : c.vers.length ≤ 1000000) :
    Calls Try.prog 102 #[celV u c] w (OwnCP c w) := by
  obtain ⟨W0, hW0⟩ : ∃ W0, W0 = (w.alloc (.cells #[.string (str c.key), u, .bool c.locked, .int .i64 c.lock.by_.node, .int .i64 c.lock.by_.life, .int .i64 c.lock.by_.seq, .int .i64 c.lock.by_.attempt, .int .i64 c.lock.home, .int .i64 c.lock.at_.wall, .int .i64 c.lock.at_.tie, .bool c.lock.drop, .string (str c.lock.data)] 64)).alloc (.cells #[.string ⟨#[]⟩, .slice none 0 0, .bool false, .int .i64 0, .int .i64 0, .int .i64 0, .int .i64 0, .int .i64 0, .int .i64 0, .int .i64 0, .bool false, .string ⟨#[]⟩] 64) := ⟨_, rfl⟩
  have hS0 : Same (fun _ => True) w W0 := by rw [hW0]; exact ((Same.refl _ _).alloc _).alloc _
  have hz0 : W0.heap.size = w.heap.size + 2 := by rw [hW0, World.size_alloc, World.size_alloc]
  have hr0 : Row W0 w.heap.size 64 (celCs (u, c)) := by
    rw [hW0]
    exact (Row.new w 64 (celCs (u, c))).keep ((Same.refl (fun _ => True) _).alloc _) trivial
  have hr1 : Row W0 (w.heap.size + 1) 64 (#[.string ⟨#[]⟩, .slice none 0 0, .bool false, .int .i64 0, .int .i64 0, .int .i64 0, .int .i64 0, .int .i64 0, .int .i64 0, .int .i64 0, .bool false, .string ⟨#[]⟩] : Array Value).toList := by
    have := Row.new (w.alloc (.cells #[.string (str c.key), u, .bool c.locked, .int .i64 c.lock.by_.node, .int .i64 c.lock.by_.life, .int .i64 c.lock.by_.seq, .int .i64 c.lock.by_.attempt, .int .i64 c.lock.home, .int .i64 c.lock.at_.wall, .int .i64 c.lock.at_.tie, .bool c.lock.drop, .string (str c.lock.data)] 64)) 64 (#[.string ⟨#[]⟩, .slice none 0 0, .bool false, .int .i64 0, .int .i64 0, .int .i64 0, .int .i64 0, .int .i64 0, .int .i64 0, .int .i64 0, .bool false, .string ⟨#[]⟩] : Array Value).toList
    rw [World.size_alloc] at this
    rw [hW0]; exact this
  have g := clone_any u c.vers S W0 (hv.keepAll hS0) hn
  obtain ⟨Au, cu, rfl, -, -⟩ := hv.form
  have HS0 := Lib.hid hS0
  have Hr0 := Lib.hid hr0
  have Hr1 := Lib.hid hr1
  have HW0 := Lib.hid hW0
  have Hz0 := Lib.hid hz0
  clear hv hS0 hr0 hr1 hW0 hz0
  go_enter Try.func102, Try.ntmps102
  go_wp2_with (go_at_call 92; refine stopAt ?_)
  unfold Hid
  rw [← HW0.out]
  refine g.mono ?_
  rintro e w1 ⟨u', rfl, hown, hS⟩
  obtain ⟨A, cp, rfl, -, -⟩ := hown.form
  have hq0 := Hr0.out.keep hS trivial
  have hq1 := Hr1.out.keep hS trivial
  have Hq0 := Lib.hid hq0
  have Hq1 := Lib.hid hq1
  have Hown := Lib.hid hown
  have HS := Lib.hid hS
  obtain ⟨a0, a1, a2, a3, a4, a5, a6, a7, a8, a9, a10, a11, f0, f1, f2, f3, f4, f5, f6, f7, f8, f9, f10, f11⟩ := cel_cells hq0
  obtain ⟨d0, d1, d2, d3, d4, d5, d6, d7, d8, d9, d10, d11, e0, e1, e2, e3, e4, e5, e6, e7, e8, e9, e10, e11⟩ := cel_cells hq1
  have z0 := hq0.lt
  have z1 := hq1.lt
  clear hown hS hq0 hq1 g f0 f2 f3 f4 f5 f6 f7 f8 f9 f10 f11
  go_wp2
  have k1 := Hq0.out.set_ 1 (.slice A c.vers.length cp)
  have k2 : Row (w1.setCell ⟨w.heap.size, 1, none⟩ (.slice A c.vers.length cp)) (w.heap.size + 1) 64 (#[.string ⟨#[]⟩, .slice none 0 0, .bool false, .int .i64 0, .int .i64 0, .int .i64 0, .int .i64 0, .int .i64 0, .int .i64 0, .int .i64 0, .bool false, .string ⟨#[]⟩] : Array Value).toList := Hq1.out.keep ((Same.refl (fun k => k = w.heap.size + 1) w1).setCell (fun _ h => by simp at h) _) rfl
  have t1 : Same (fun k => k ≠ w.heap.size ∧ k ≠ w.heap.size + 1) w1 (w1.setCell ⟨w.heap.size, 1, none⟩ (.slice A c.vers.length cp)) := (Same.refl _ w1).setCell (fun _ h => h.1 rfl) _
  obtain ⟨r1, r2⟩ := cel_set12 (b0 := .string (str c.key)) (b1 := .slice A c.vers.length cp) (b2 := .bool c.locked) (b3 := .int .i64 c.lock.by_.node) (b4 := .int .i64 c.lock.by_.life) (b5 := .int .i64 c.lock.by_.seq) (b6 := .int .i64 c.lock.by_.attempt) (b7 := .int .i64 c.lock.home) (b8 := .int .i64 c.lock.at_.wall) (b9 := .int .i64 c.lock.at_.tie) (b10 := .bool c.lock.drop) (b11 := .string (str c.lock.data)) (fun _ h => h.2 rfl) k2 t1
  refine bodyPost_ret (twin1_results (u := .slice A c.vers.length cp) (c := c) r1 rfl) rfl ⟨_, rfl, (Hown.out.keep r2 fun k h1 h2 => ?_).lower (by rw [Hz0.out]; omega), (HS0.out.trans HS.out).trans' r2 fun k hk _ => ?_⟩
  · have := Hz0.out
    constructor <;> omega
  · constructor <;> omega
set_option maxHeartbeats 1000000 in
theorem each_any (v : Value) (cs : List Cel) (S : Nat → Prop) (w : World) (hv : CelR w S v cs) (hn : cs.length ≤ 100000) (hn2 : ∀ c ∈ cs, c.vers.length ≤ 1000000) :
    Calls Try.prog 101 #[v, .func (.func 102) #[] #[]] w (AllP cs w) := by
  obtain ⟨A, cp, rfl, hc, hm⟩ := hv.form
  have Hv := Lib.hid hv
  have Hn2 := Lib.hid hn2
  unfold maxLen at hm
  clear hv hn2
  go_enter Try.func101, Try.ntmps101
  go_wp2
  go_loopw [5, 7, 10] (fun l _ i wr => ∃ k : Nat, i = .int .i64 k ∧ k ≤ cs.length ∧ OwnC wr w.heap.size l (cs.take k) ∧ Same (fun _ => True) w wr) (fun _ _ i _ => cs.length - (intOf i).toNat)
  case atStart => exact ⟨0, rfl, Nat.zero_le _, by rw [List.take_zero]; exact OwnC.nil _ _, Same.refl _ _⟩
  case round =>
    obtain ⟨k, rfl, hk, hown, hS⟩ := hrel
    have HS := Lib.hid hS
    have Hown := Lib.hid hown
    have hsz := hS.size
    obtain ⟨Al, nl, cl, rfl, hl1, hl2⟩ := hown.form3
    unfold maxLen at hl2
    by_cases hlt : k < cs.length
    · obtain ⟨ad, u, rfl, -, hvr, c0, c1, c2, c3, c4, c5, c6, c7, c8, c9, c10, c11⟩ := CelR.cells12 (Hv.out.keepAll hS) hlt
      obtain ⟨Au, cu, rfl, -, -⟩ := hvr.form
      have x1 : (0 : Int) ≤ (k : Int) := by omega
      have x2 : (k : Int) < (cs.length : Int) := by omega
      have hab := World.block_lt_of_cell? wr _ c0
      have htk : cs.take (k + 1) = cs.take k ++ [cs[k]] := List.take_succ_eq_append_getElem hlt
      have hcl := Hn2.out cs[k] (List.getElem_mem hlt)
      have Htk := Lib.hid htk
      have Hvr := Lib.hid hvr
      clear hvr htk hown hS
      generalize cs[k] = c at *
      have g := twin1_any (.slice Au c.vers.length cu) c S (wr.alloc (.cells (celCs (.slice Au c.vers.length cu, c)).toArray 64)) (RowR.keepAll Hvr.out ((Same.refl _ _).alloc _)) hcl
      go_wp2_with (go_at_call 102; refine stopAt ?_)
      unfold Hid
      refine g.mono ?_
      rintro e w5 ⟨u', rfl, hown5, hS5⟩
      obtain ⟨A5, c5', rfl, -, -⟩ := hown5.form
      have hS6 := ((Same.refl (fun _ => True) wr).alloc (.cells (celCs (.slice Au c.vers.length cu, c)).toArray 64)).trans hS5
      have HS6 := Lib.hid hS6
      have Hown5 := Lib.hid hown5
      clear hS5 hS6 hown5 g c0 c1 c2 c3 c4 c5 c6 c7 c8 c9 c10 c11
      go_wp2_with (at_builtin; refine stopAt ?_)
      unfold Hid
      refine wpList_appC (c := c) (B := w.heap.size) rfl (.tmp 14) (.tmp 18) rfl rfl rfl rfl (Hown.out.keepAll HS6.out) (Hown5.out.wr.mono fun j _ hj => by rw [World.size_alloc] at hj; omega) (by have := HS6.out.size; omega) (by rw [List.length_take]; omega) ?_
      intro v' w7 hown7 hS7
      have Hown7 := Lib.hid hown7
      have HS7 := Lib.hid hS7
      clear hown7 hS7
      go_wp2
      go_roundw
      case rel => exact ⟨k + 1, by go_num, by omega, by rw [Htk.out]; exact Hown7.out, (HS.out.trans HS6.out).trans' HS7.out fun j hj _ => hj⟩
      case measure => simp [intOf]; omega
    · obtain rfl : k = cs.length := by omega
      rw [List.take_length] at Hown
      clear hS hown
      go_wp2
      go_ret
      exact ⟨_, rfl, Hown.out, HS.out⟩
def CloneO (l : List Out) (w : World) (e : Ending) (w' : World) : Prop := ∃ v, e = .returned v ∧ OwnO w' w.heap.size v l ∧ Same (fun _ => True) w w'
set_option maxHeartbeats 1000000 in
theorem cloneo_any (v : Value) (l : List Out) (S : Nat → Prop) (w : World) (hv : OutR w S v l) (hn : l.length ≤ 1000000) :
    Calls Try.prog 103 #[v] w (CloneO l w) := by
  obtain ⟨A, cp, rfl, hc, hm⟩ := hv.form
  unfold maxLen at hm
  have qN : ∀ (w : World) (a : Option Addr) (n c : Nat), (binOp .eql 75 (.slice a n c) (.slice none 0 0)).run Try.prog w = .ok (.bool a.isNone) w := fun w a n c => Lib.run_eql_slice_nil w _ _ a n c 0 0 TOut.und
  cases A with
  | none =>
    have h0 : l = [] := by
      rcases l with _ | ⟨x, l⟩
      · rfl
      · obtain ⟨ad, c, h, _⟩ := RowR.at_ hv outCs_len (i := 0) (by simp)
        cases h
    subst h0
    clear hv
    go_enter Try.func103, Try.ntmps103
    go_wp2
    go_ret
    exact ⟨_, rfl, OwnR.nil _ _, Same.refl _ _⟩
  | some ad =>
    have Hv := Lib.hid hv
    clear hv
    go_enter Try.func103, Try.ntmps103
    go_wp2_with (at_builtin; refine stopAt ?_)
    unfold Hid
    refine wpList_appR TOut outCs_len outCs_one rfl (.tmp 5) (.tmp 6) rfl rfl rfl (Hv.out.keepAll ((Same.refl _ _).alloc _)) (OwnR.empty outCs 7 _ w) (by rw [World.size_alloc]; omega) (by simp only [maxLen, List.length_nil]; omega) (by simp only [List.length_nil]; omega) ?_
    intro v' w' hown hS
    have Hown := Lib.hid hown
    have HS := Lib.hid hS
    clear hown hS
    go_wp2
    go_ret
    refine ⟨_, rfl, by simpa using Hown.out, ((Same.refl (fun _ => True) _).alloc _).trans' HS.out fun k hk _ e => ?_⟩
    injection (show some k = some w.heap.size from e) with e
    omega
end Go.Proofs.Ytoldelocfmpccaa
namespace Go.Proofs.Ytoldelocfmpccaa
open Go.RowKit
/-- A range's state. -/
structure PartM where
  epoch : Int
  holder : Int
  floor : St
  closed : Int
  low : Int
  cells : List Cel
  recs : List Out
  done : List Out
def partCs (vc vr vd : Value) (p : PartM) : List Value := [.int .i64 p.epoch, .int .i64 p.holder, .int .i64 p.floor.wall, .int .i64 p.floor.tie, .int .i64 p.closed, .int .i64 p.low, vc, vr, vd]
abbrev partV (vc vr vd : Value) (p : PartM) : Value := .agg #[.int .i64 p.epoch, .int .i64 p.holder, .int .i64 p.floor.wall, .int .i64 p.floor.tie, .int .i64 p.closed, .int .i64 p.low, vc, vr, vd]
def zeroPart : List Value := [.int .i64 0, .int .i64 0, .int .i64 0, .int .i64 0, .int .i64 0, .int .i64 0, .slice none 0 0, .slice none 0 0, .slice none 0 0]
/-- A state's lists, that nobody else has. -/
structure OwnPart (w : World) (B : Nat) (vc vr vd : Value) (p : PartM) : Prop where
  cells : OwnC w B vc p.cells
  recs : OwnO w B vr p.recs
  done : OwnO w B vd p.done
  apart : ∀ k, vd.ownBlock = some k → vr.ownBlock ≠ some k
/-- A state's lists, that read. -/
structure PartR (w : World) (S : Nat → Prop) (vc vr vd : Value) (p : PartM) : Prop where
  cells : CelR w S vc p.cells
  recs : OutR w S vr p.recs
  done : OutR w S vd p.done
/-- A state whose lists are not too long. -/
structure PartN (p : PartM) : Prop where
  cells : p.cells.length ≤ 100000
  vers : ∀ c ∈ p.cells, c.vers.length ≤ 1000000
  recs : p.recs.length ≤ 1000000
  done : p.done.length ≤ 1000000
theorem OwnR.keepG {α : Type} {f : α → List Value} {n B g : Nat} {e e' : TypeId} {w w' : World} {v : Value} {l : List α} {xs : List Value} (h : OwnR f n e w B v l) (hr : Row w g e' xs) (hne : e ≠ e') (hs : Same (fun k => k ≠ g) w w') : OwnR f n e w' B v l := by
  refine own_keep h hs fun k hk => ?_
  rcases ownsRow_row h with ⟨rfl, _, _⟩ | ⟨g', cap, cur, rfl, _, hr', _⟩
  · cases hk
  · injection (show some g' = some k from hk) with hk
    subst hk
    exact hr'.ne hr hne
theorem RowW.keepG {α : Type} {f : α → List Value} {n g : Nat} {e e' : TypeId} {w w' : World} {S : Nat → Prop} {v : Value} {l : List α} {xs : List Value} (h : RowW f n e w S v l) (hr : Row w g e' xs) (hne : e ≠ e') (hs : Same (fun k => k ≠ g) w w') : RowW f n e w' S v l := by
  obtain ⟨A, c, h1, h2, h3, h4⟩ := h
  refine ⟨A, c, h1, h2, h3, fun h0 => ?_⟩
  obtain ⟨g', o, cur, e1, e2, e3, e4⟩ := h4 h0
  refine ⟨g', o, cur, e1, e2, ?_, e4⟩
  rw [hs.block g' (Array.getElem?_eq_some_iff.1 e3).1 fun hk => ?_]
  · exact e3
  · subst hk
    unfold Row at hr
    rw [hr] at e3
    injection e3 with e3
    injection e3 with _ e3 _
    exact hne e3.symm
theorem OwnC.keepG {B g : Nat} {e' : TypeId} {w w' : World} {v : Value} {cs : List Cel} {xs : List Value} (h : OwnC w B v cs) (hr : Row w g e' xs) (h1 : 64 ≠ e') (h2 : 69 ≠ e') (hs : Same (fun k => k ≠ g) w w') : OwnC w' B v cs := by
  obtain ⟨us, u1, u2, u3⟩ := h
  exact ⟨us, u1, u2.keepG hr h1 hs, fun i a b => (u3 i a b).keepG hr h2 hs⟩
section
variable {w w' : World} {B B' : Nat} {S S' : Nat → Prop} {vc vr vd : Value} {p : PartM}
theorem OwnPart.keepG {g : Nat} {xs : List Value} (h : OwnPart w B vc vr vd p) (hr : Row w g 77 xs) (hs : Same (fun k => k ≠ g) w w') : OwnPart w' B vc vr vd p :=
  ⟨h.cells.keepG hr (by decide) (by decide) hs, h.recs.keepG hr (by decide) hs, h.done.keepG hr (by decide) hs, h.apart⟩
theorem OwnPart.keepRep {g : Nat} {xs : List Value} (h : OwnPart w B vc vr vd p) (hr : Row w g 85 xs) (hs : Same (fun k => k ≠ g) w w') : OwnPart w' B vc vr vd p :=
  ⟨h.cells.keepG hr (by decide) (by decide) hs, h.recs.keepG hr (by decide) hs, h.done.keepG hr (by decide) hs, h.apart⟩
theorem OwnPart.upd {p' : PartM} (h : OwnPart w B vc vr vd p) (h1 : p'.cells = p.cells := by rfl) (h2 : p'.recs = p.recs := by rfl) (h3 : p'.done = p.done := by rfl) : OwnPart w B vc vr vd p' := ⟨by rw [h1]; exact h.cells, by rw [h2]; exact h.recs, by rw [h3]; exact h.done, h.apart⟩
theorem PartR.keep (h : PartR w S vc vr vd p) (hs : Same S w w') : PartR w' S vc vr vd p := ⟨h.cells.keep hs, RowR.keep h.recs hs, RowR.keep h.done hs⟩
theorem PartR.keepAll (h : PartR w S vc vr vd p) (hs : Same (fun _ => True) w w') : PartR w' S vc vr vd p := ⟨h.cells.keepAll hs, RowR.keepAll h.recs hs, RowR.keepAll h.done hs⟩
theorem OwnPart.keepAll (h : OwnPart w B vc vr vd p) (hs : Same (fun _ => True) w w') : OwnPart w' B vc vr vd p := ⟨h.cells.keepAll hs, h.recs.keepAll hs, h.done.keepAll hs, h.apart⟩
theorem OwnPart.keep (h : OwnPart w B vc vr vd p) (hs : Same S w w') (hS : ∀ k, B ≤ k → k < w.heap.size → S k) : OwnPart w' B vc vr vd p := ⟨h.cells.keep hs hS, h.recs.keep hs hS, h.done.keep hs hS, h.apart⟩
theorem OwnPart.lower (h : OwnPart w B vc vr vd p) (hb : B' ≤ B) : OwnPart w B' vc vr vd p := ⟨h.cells.lower hb, h.recs.lower hb, h.done.lower hb, h.apart⟩
theorem OwnPart.reads (h : OwnPart w B vc vr vd p) : PartR w (fun k => B ≤ k) vc vr vd p := ⟨h.cells.reads, (OwnR.wr h.recs).row outCs_len, (OwnR.wr h.done).row outCs_len⟩
end
def TwinP (p : PartM) (w : World) (e : Ending) (w' : World) : Prop := ∃ vc vr vd, e = .returned (partV vc vr vd p) ∧ OwnPart w' w.heap.size vc vr vd p ∧ Same (fun _ => True) w w'
theorem twin_results {W : World} {k : Nat} {vc vr vd : Value} {p : PartM} (R : Row W k 77 (partCs vc vr vd p)) {tmps : Array Value} (h2 : tmps.getD 2 undef = .pointer (some ⟨k, 0, none⟩)) :
    (results Try.f76 tmps).run Try.prog W = .ok (partV vc vr vd p) W := by
  have d0 := R.cell 0
  have d1 := R.cell 1
  have d2 := R.cell 2
  have d3 := R.cell 3
  have d4 := R.cell 4
  have d5 := R.cell 5
  have d6 := R.cell 6
  have d7 := R.cell 7
  have d8 := R.cell 8
  simp only [partCs, List.getElem?_cons_zero, List.getElem?_cons_succ] at d0 d1 d2 d3 d4 d5 d6 d7 d8
  simp at h2
  simp [results, Try.results76, h2, go_sem, d0, d1, d2, d3, d4, d5, d6, d7, d8]
set_option maxRecDepth 100000 in
set_option maxHeartbeats 4000000 in
theorem twin_any (vc vr vd : Value) (p : PartM) (S : Nat → Prop) (w : World) (hv : PartR w S vc vr vd p) (hn : PartN p) :
    Calls Try.prog 76 #[partV vc vr vd p] w (TwinP p w) := by
  obtain ⟨hc, hr, hd⟩ := hv
  obtain ⟨hn1, hn2, hr', hd'⟩ := hn
  obtain ⟨Ac, cc, rfl, -, -⟩ := hc.form
  obtain ⟨Ar, cr, rfl, -, -⟩ := OutR.form hr
  obtain ⟨Ad, cd, rfl, -, -⟩ := OutR.form hd
  have Hc := Lib.hid hc
  have Hr := Lib.hid hr
  have Hd := Lib.hid hd
  have Hn2 := Lib.hid hn2
  have r0 := (Row.new w 77 (partCs (.slice Ac p.cells.length cc) (.slice Ar p.recs.length cr) (.slice Ad p.done.length cd) p)).keep ((Same.refl (fun _ => True) _).alloc (.cells zeroPart.toArray 77)) trivial
  have r1 := Row.new (w.alloc (.cells (partCs (.slice Ac p.cells.length cc) (.slice Ar p.recs.length cr) (.slice Ad p.done.length cd) p).toArray 77)) 77 zeroPart
  have hS0 := ((Same.refl (fun _ => True) w).alloc (.cells (partCs (.slice Ac p.cells.length cc) (.slice Ar p.recs.length cr) (.slice Ad p.done.length cd) p).toArray 77)).alloc (.cells zeroPart.toArray 77)
  rw [World.size_alloc] at r1
  have hr := hr'
  clear hc hd hn2 hr'
  go_enter Try.func76, Try.ntmps76
  go_wp2_with (go_at_call 101; refine stopAt ?_)
  unfold Hid
  simp only [partCs, zeroPart] at r0 r1 hS0
  revert r0 r1 hS0
  generalize (w.alloc _).alloc _ = w1
  intro r0 r1 hS0
  have z0 := r1.lt
  refine (each_any (.slice Ac p.cells.length cc) p.cells S w1 (Hc.out.keepAll hS0) hn1 Hn2.out).mono ?_
  rintro e w2 ⟨vc', rfl, hown, hS⟩
  have r0 := r0.keep hS trivial
  have r1 := r1.keep hS trivial
  have R0 := Lib.hid r0
  have R1 := Lib.hid r1
  have HS := Lib.hid (hS0.trans hS)
  have z1 := r1.lt
  have f6 := r0.frozen 6
  have d6 := r0.cell 6
  simp only [List.getElem?_cons_zero, List.getElem?_cons_succ] at d6
  have HC := Lib.hid hown
  have hB1 := hS.size
  obtain ⟨Av, cv, rfl, -, -⟩ := hown.form
  clear hown hS hS0 r0 r1
  go_wp2
  have R0 := Lib.hid (R0.out.set_ 6 (.slice Av p.cells.length cv))
  have hSw : Same (fun q => q ≠ w.heap.size) w2 (w2.setCell ⟨w.heap.size, 6, none⟩ (.slice Av p.cells.length cv)) := (Same.refl _ _).setCell (fun _ h => h rfl) _
  have R1 := Lib.hid (R1.out.keep hSw (by omega))
  have HS2 := Lib.hid (HS.out.trans' hSw fun i hi _ => by omega)
  have HC2 := Lib.hid (HC.out.keep hSw fun k h1 h2 => by omega)
  have hB2 := hSw.size
  clear d6 f6
  generalize w2.setCell _ _ = w3 at *
  obtain ⟨B, hBe⟩ : ∃ B, B = w1.heap.size := ⟨_, rfl⟩
  rw [← hBe] at HC2 hB1 z0
  have hB2 : B ≤ w3.heap.size := by omega
  have Hr2 := Lib.hid (RowR.keepAll Hr.out HS2.out)
  have Hd2 := Lib.hid (RowR.keepAll Hd.out HS2.out)
  have m7 : w3.cell? ⟨w.heap.size, 7, none⟩ = some (.slice Ar p.recs.length cr) := R0.out.cell 7
  have m8 : w3.cell? ⟨w.heap.size, 8, none⟩ = some (.slice Ad p.done.length cd) := R0.out.cell 8
  have hr := hr
  clear hBe hSw
  refine wp_region_tail_d (L := [.eq (.pointer (some ⟨w.heap.size, 7, none⟩)), .eq (.slice Ar p.recs.length cr), .of ⟨fun v w => OwnO w B v p.recs, fun _ _ _ h k => h.keepAll k⟩, .eq (.pointer (some ⟨w.heap.size, 8, none⟩)), .eq (.slice Ad p.done.length cd), ⟨some 2, fun v u w => OwnO w B v p.done ∧ ∀ k, v.ownBlock = some k → u.ownBlock ≠ some k, fun _ _ _ _ h k => ⟨h.1.keepAll k, h.2⟩⟩]) 6 5 (by omega) (by kernel_rfl) (by kernel_rfl) rfl rfl rfl rfl rfl rfl ?_ ?_ ?_
  · refine ⟨?_, ?_, ?_, ?_, ?_, ?_, trivial⟩
    · intro ac wc hs hd hz hf hw K hK
      have e0 : ac.eval (.tmp 1) = (.pointer (some ⟨w.heap.size, 0, none⟩)) := hf 1 rfl
      clear hd hz hf hw
      simp only [Region.wanted, if_true, Oper.wp, execOp, resolve, List.map_toArray, List.map_cons, List.map_nil, Option.map_some, Option.map_none, e0]
      go_simp
      exact hK _ _ rfl (Same.refl _ _)
    · intro ac wc hs hd hz hf hw K hK
      have e0 : ac.eval (.tmp 7) = (.pointer (some ⟨w.heap.size, 7, none⟩)) := hw 0 rfl
      have m0 : wc.cell? ⟨w.heap.size, 7, none⟩ = some (.slice Ar p.recs.length cr) := hs.cell (p := ⟨w.heap.size, 7, none⟩) trivial m7
      clear hd hz hf hw
      simp only [Region.wanted, if_true, Oper.wp, execOp, resolve, List.map_toArray, List.map_cons, List.map_nil, Option.map_some, Option.map_none, e0]
      go_simp
      exact hK _ _ rfl (Same.refl _ _)
    · intro ac wc hs hd hz hf hw K hK
      have e0 : ac.eval (.tmp 8) = (.slice Ar p.recs.length cr) := hw 1 rfl
      clear hd hz hf hw
      simp only [Region.wanted, if_true, Oper.wp, execOp, resolve, List.map_toArray, List.map_cons, List.map_nil, Option.map_some, Option.map_none, e0]
      go_simp
      refine (cloneo_any (.slice Ar p.recs.length cr) p.recs S wc (Hr2.out.keepAll hs) hr).mono ?_
      rintro e wd ⟨u, rfl, hown, hS⟩
      exact hK _ _ (hown.lower (Nat.le_trans hB2 hs.size)) hS
    · intro ac wc hs hd hz hf hw K hK
      have e0 : ac.eval (.tmp 1) = (.pointer (some ⟨w.heap.size, 0, none⟩)) := hf 1 rfl
      clear hd hz hf hw
      simp only [Region.wanted, if_true, Oper.wp, execOp, resolve, List.map_toArray, List.map_cons, List.map_nil, Option.map_some, Option.map_none, e0]
      go_simp
      exact hK _ _ rfl (Same.refl _ _)
    · intro ac wc hs hd hz hf hw K hK
      have e0 : ac.eval (.tmp 10) = (.pointer (some ⟨w.heap.size, 8, none⟩)) := hw 3 rfl
      have m0 : wc.cell? ⟨w.heap.size, 8, none⟩ = some (.slice Ad p.done.length cd) := hs.cell (p := ⟨w.heap.size, 8, none⟩) trivial m8
      clear hd hz hf hw
      simp only [Region.wanted, if_true, Oper.wp, execOp, resolve, List.map_toArray, List.map_cons, List.map_nil, Option.map_some, Option.map_none, e0]
      go_simp
      exact hK _ _ rfl (Same.refl _ _)
    · intro ac wc hs hd hz hf hw K hK
      have e0 : ac.eval (.tmp 11) = (.slice Ad p.done.length cd) := hw 4 rfl
      have pk : (⟨fun v w => OwnO w B v p.recs, fun _ _ _ h k => h.keepAll k⟩ : SP).p (valsOf _ ac 2) wc := hw 2 rfl
      clear hd hz hf hw
      simp only [Region.wanted, if_true, Oper.wp, execOp, resolve, List.map_toArray, List.map_cons, List.map_nil, Option.map_some, Option.map_none, e0]
      go_simp
      refine (cloneo_any (.slice Ad p.done.length cd) p.done S wc (Hd2.out.keepAll hs) hd').mono ?_
      rintro e wd ⟨u, rfl, hown, hS⟩
      exact hK _ _ ⟨hown.lower (Nat.le_trans hB2 hs.size), fun k h1 h2 => by have := (hown.lt k h1).1; have := (pk.lt k h2).2; omega⟩ hS
  · intro vs wR hvl hvp hsR
    rcases vs with _ | ⟨z0, _ | ⟨z1, _ | ⟨z2, _ | ⟨z3, _ | ⟨z4, _ | ⟨z5, _ | ⟨zz, zr⟩⟩⟩⟩⟩⟩⟩
    rotate_right 1
    · simp at hvl
    · simp at hvl
    · simp at hvl
    · simp at hvl
    · simp at hvl
    · simp at hvl
    · simp at hvl
    · obtain rfl : z0 = (.pointer (some ⟨w.heap.size, 7, none⟩)) := hvp 0 (by omega)
      obtain rfl : z1 = (.slice Ar p.recs.length cr) := hvp 1 (by omega)
      have hx1 : (⟨fun v w => OwnO w B v p.recs, fun _ _ _ h k => h.keepAll k⟩ : SP).p z2 wR := hvp 2 (by omega)
      obtain rfl : z3 = (.pointer (some ⟨w.heap.size, 8, none⟩)) := hvp 3 (by omega)
      obtain rfl : z4 = (.slice Ad p.done.length cd) := hvp 4 (by omega)
      have hx2 : (fun v u w => OwnO w B v p.done ∧ ∀ k, v.ownBlock = some k → u.ownBlock ≠ some k) z5 z2 wR := hvp 5 (by omega)
      clear hvl hvp
      simp only [putAll, Act.put, List.setIfInBounds_toArray, List.set_cons_succ, List.set_cons_zero, List.take_succ_cons, List.take_zero, List.drop_succ_cons, List.drop_zero, List.eraseIdx_cons_succ, List.eraseIdx_cons_zero]
      obtain ⟨A2, c2, rfl, -, -⟩ := OwnR.form hx1
      obtain ⟨A5, c5, rfl, -, -⟩ := OwnR.form hx2.1
      have X1 := Lib.hid hx1
      have X2 := Lib.hid hx2.1
      have XA := Lib.hid hx2.2
      have HR := Lib.hid hsR
      clear hx1 hx2
      have r0_ := R0.out.keep hsR trivial
      have r1_ := R1.out.keep hsR trivial
      have d0 : wR.cell? ⟨w.heap.size, 0, none⟩ = some (.int .i64 p.epoch) := r0_.cell 0
      have d1 : wR.cell? ⟨w.heap.size, 1, none⟩ = some (.int .i64 p.holder) := r0_.cell 1
      have d2 : wR.cell? ⟨w.heap.size, 2, none⟩ = some (.int .i64 p.floor.wall) := r0_.cell 2
      have d3 : wR.cell? ⟨w.heap.size, 3, none⟩ = some (.int .i64 p.floor.tie) := r0_.cell 3
      have d4 : wR.cell? ⟨w.heap.size, 4, none⟩ = some (.int .i64 p.closed) := r0_.cell 4
      have d5 : wR.cell? ⟨w.heap.size, 5, none⟩ = some (.int .i64 p.low) := r0_.cell 5
      have d6 : wR.cell? ⟨w.heap.size, 6, none⟩ = some (.slice Av p.cells.length cv) := r0_.cell 6
      have d7 : wR.cell? ⟨w.heap.size, 7, none⟩ = some (.slice Ar p.recs.length cr) := r0_.cell 7
      have d8 : wR.cell? ⟨w.heap.size, 8, none⟩ = some (.slice Ad p.done.length cd) := r0_.cell 8
      have e0 := r1_.cell 0
      have e1 := r1_.cell 1
      have e2 := r1_.cell 2
      have e3 := r1_.cell 3
      have e4 := r1_.cell 4
      have e5 := r1_.cell 5
      have e6 := r1_.cell 6
      have e7 := r1_.cell 7
      have e8 := r1_.cell 8
      simp only [List.getElem?_cons_zero, List.getElem?_cons_succ] at e0 e1 e2 e3 e4 e5 e6 e7 e8
      have f7 := r0_.frozen 7
      have f8 := r0_.frozen 8
      have g0 := r1_.frozen 0
      have g1 := r1_.frozen 1
      have g2 := r1_.frozen 2
      have g3 := r1_.frozen 3
      have g4 := r1_.frozen 4
      have g5 := r1_.frozen 5
      have g6 := r1_.frozen 6
      have g7 := r1_.frozen 7
      have g8 := r1_.frozen 8
      have z5 := r1_.lt
      clear m7 m8
      clear hsR r0_ r1_
      go_wp2
      have rq := R1.out.keep HR.out trivial
      have hq := ((Same.refl (fun q => q ≠ w.heap.size) wR).setCell (p := ⟨w.heap.size, 7, none⟩) (fun _ h => h rfl) (.slice A2 p.recs.length c2)).setCell (p := ⟨w.heap.size, 8, none⟩) (fun _ h => h rfl) (.slice A5 p.done.length c5)
      have rq := (rq.keep hq (by omega)).sets (partCs (.slice Av p.cells.length cv) (.slice A2 p.recs.length c2) (.slice A5 p.done.length c5) p) 0
      have hq2 := Same.sets (S := fun q => q ≠ w.heap.size ∧ q ≠ w.heap.size + 1) (g := w.heap.size + 1) (fun h => h.2 rfl) (partCs (.slice Av p.cells.length cv) (.slice A2 p.recs.length c2) (.slice A5 p.done.length c5) p) 0 (hq.mono fun _ _ h => h.1)
      refine bodyPost_ret (twin_results (show Row _ _ _ (partCs (.slice Av p.cells.length cv) (.slice A2 p.recs.length c2) (.slice A5 p.done.length c5) p) from rq) rfl) rfl ⟨_, _, _, rfl, ⟨?_, ?_, ?_, XA.out⟩, ?_⟩
      · exact ((HC2.out.keepAll HR.out).keep hq2 fun k h1 h2 => by constructor <;> omega).lower (by omega)
      · exact (OwnR.keep X1.out hq2 fun k h1 h2 => by constructor <;> omega).lower (by omega)
      · exact (OwnR.keep X2.out hq2 fun k h1 h2 => by constructor <;> omega).lower (by omega)
      · exact (HS2.out.trans HR.out).trans' hq2 fun k h1 h2 => by constructor <;> omega
  · intro vs wR hvl hvp hsR
    rcases vs with _ | ⟨z0, _ | ⟨z1, _ | ⟨z2, _ | ⟨z3, _ | ⟨z4, _ | ⟨zz, zr⟩⟩⟩⟩⟩⟩
    rotate_right 1
    · simp at hvl
    · simp at hvl
    · simp at hvl
    · simp at hvl
    · simp at hvl
    · simp at hvl
    · obtain rfl : z0 = (.pointer (some ⟨w.heap.size, 7, none⟩)) := hvp 0 (by omega)
      obtain rfl : z1 = (.slice Ar p.recs.length cr) := hvp 1 (by omega)
      have hx1 : (⟨fun v w => OwnO w B v p.recs, fun _ _ _ h k => h.keepAll k⟩ : SP).p z2 wR := hvp 2 (by omega)
      obtain rfl : z3 = (.pointer (some ⟨w.heap.size, 8, none⟩)) := hvp 3 (by omega)
      obtain rfl : z4 = (.slice Ad p.done.length cd) := hvp 4 (by omega)
      clear hvl hvp
      simp only [putAll, Act.put, List.setIfInBounds_toArray, List.set_cons_succ, List.set_cons_zero, List.take_succ_cons, List.take_zero, List.drop_succ_cons, List.drop_zero, List.eraseIdx_cons_succ, List.eraseIdx_cons_zero]
      obtain ⟨A2, c2, rfl, -, -⟩ := OwnR.form hx1
      have X1 := Lib.hid hx1
      have HR := Lib.hid hsR
      clear hx1
      go_wp2_with (go_at_call 103; refine stopAt ?_)
      unfold Hid
      refine (cloneo_any (.slice Ad p.done.length cd) p.done S wR (Hd2.out.keepAll HR.out) hd').mono ?_
      rintro e w5 ⟨v5, rfl, hown5, hS5⟩
      have hBR := HR.out.size
      have XA := Lib.hid (show ∀ k, v5.ownBlock = some k → Value.ownBlock (.slice A2 p.recs.length c2) ≠ some k from fun k h1 h2 => by have := (hown5.lt k h1).1; have := (X1.out.lt k h2).2; omega)
      obtain ⟨A5, c5, rfl, -, -⟩ := OwnR.form hown5
      have X2 := Lib.hid (hown5.lower (B' := B) (by omega))
      have X1 := Lib.hid (X1.out.keepAll hS5)
      have HR := Lib.hid (HR.out.trans hS5)
      clear hown5 hS5 hsR
      have r0_ := R0.out.keep HR.out trivial
      have r1_ := R1.out.keep HR.out trivial
      have d0 : w5.cell? ⟨w.heap.size, 0, none⟩ = some (.int .i64 p.epoch) := r0_.cell 0
      have d1 : w5.cell? ⟨w.heap.size, 1, none⟩ = some (.int .i64 p.holder) := r0_.cell 1
      have d2 : w5.cell? ⟨w.heap.size, 2, none⟩ = some (.int .i64 p.floor.wall) := r0_.cell 2
      have d3 : w5.cell? ⟨w.heap.size, 3, none⟩ = some (.int .i64 p.floor.tie) := r0_.cell 3
      have d4 : w5.cell? ⟨w.heap.size, 4, none⟩ = some (.int .i64 p.closed) := r0_.cell 4
      have d5 : w5.cell? ⟨w.heap.size, 5, none⟩ = some (.int .i64 p.low) := r0_.cell 5
      have d6 : w5.cell? ⟨w.heap.size, 6, none⟩ = some (.slice Av p.cells.length cv) := r0_.cell 6
      have d7 : w5.cell? ⟨w.heap.size, 7, none⟩ = some (.slice Ar p.recs.length cr) := r0_.cell 7
      have d8 : w5.cell? ⟨w.heap.size, 8, none⟩ = some (.slice Ad p.done.length cd) := r0_.cell 8
      have e0 := r1_.cell 0
      have e1 := r1_.cell 1
      have e2 := r1_.cell 2
      have e3 := r1_.cell 3
      have e4 := r1_.cell 4
      have e5 := r1_.cell 5
      have e6 := r1_.cell 6
      have e7 := r1_.cell 7
      have e8 := r1_.cell 8
      simp only [List.getElem?_cons_zero, List.getElem?_cons_succ] at e0 e1 e2 e3 e4 e5 e6 e7 e8
      have f7 := r0_.frozen 7
      have f8 := r0_.frozen 8
      have g0 := r1_.frozen 0
      have g1 := r1_.frozen 1
      have g2 := r1_.frozen 2
      have g3 := r1_.frozen 3
      have g4 := r1_.frozen 4
      have g5 := r1_.frozen 5
      have g6 := r1_.frozen 6
      have g7 := r1_.frozen 7
      have g8 := r1_.frozen 8
      have z5 := r1_.lt
      clear m7 m8
      clear r0_ r1_
      go_wp2
      have rq := R1.out.keep HR.out trivial
      have hq := ((Same.refl (fun q => q ≠ w.heap.size) w5).setCell (p := ⟨w.heap.size, 7, none⟩) (fun _ h => h rfl) (.slice A2 p.recs.length c2)).setCell (p := ⟨w.heap.size, 8, none⟩) (fun _ h => h rfl) (.slice A5 p.done.length c5)
      have rq := (rq.keep hq (by omega)).sets (partCs (.slice Av p.cells.length cv) (.slice A2 p.recs.length c2) (.slice A5 p.done.length c5) p) 0
      have hq2 := Same.sets (S := fun q => q ≠ w.heap.size ∧ q ≠ w.heap.size + 1) (g := w.heap.size + 1) (fun h => h.2 rfl) (partCs (.slice Av p.cells.length cv) (.slice A2 p.recs.length c2) (.slice A5 p.done.length c5) p) 0 (hq.mono fun _ _ h => h.1)
      refine bodyPost_ret (twin_results (show Row _ _ _ (partCs (.slice Av p.cells.length cv) (.slice A2 p.recs.length c2) (.slice A5 p.done.length c5) p) from rq) rfl) rfl ⟨_, _, _, rfl, ⟨?_, ?_, ?_, XA.out⟩, ?_⟩
      · exact ((HC2.out.keepAll HR.out).keep hq2 fun k h1 h2 => by constructor <;> omega).lower (by omega)
      · exact (OwnR.keep X1.out hq2 fun k h1 h2 => by constructor <;> omega).lower (by omega)
      · exact (OwnR.keep X2.out hq2 fun k h1 h2 => by constructor <;> omega).lower (by omega)
      · exact (HS2.out.trans HR.out).trans' hq2 fun k h1 h2 => by constructor <;> omega
end Go.Proofs.Ytoldelocfmpccaa
