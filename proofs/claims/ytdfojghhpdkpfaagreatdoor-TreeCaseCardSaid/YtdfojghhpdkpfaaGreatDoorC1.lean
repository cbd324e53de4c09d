/-
  Words, plain models, laws and walks that the claims of this layer share (joined by shake.py). No condition.
-/
import Derived.WalkKit
import Derived.WalkSpells
import Derived.WalkLawsBesides
import Derived.ProofKit
import Derived.OpenShut
import Derived.ChangeOld
import Derived.Below
import Derived.Carry
import Derived.Deep.Slices
import Derived.Maps.AppendAt
import Derived.Deep.AppendLies
import Derived.RegionTactic
import Derived.OwnWalk
import Derived.Lib.Hide
import Derived.Laws.CopyOwn
import Derived.Laws.BytesArg
import Derived.Lib.IndexMore
import Derived.Laws.IdiomStrings
import Derived.Test.YtdfojghhpdkpfaaGreatDoorRows
import Derived.Outline
import Derived.Deep.QuietTactic
import Derived.BigQuiet
import Derived.Shelf.Strings.Builder1
import Derived.Shelf.Strings.Builder2
import Derived.Shelf.Strings.OnBuilder
import Derived.Shelf.Strings.BuilderF
import Derived.Shelf.Strings.BuilderK
import Derived.Shelf.Utf8.RuneCount
import Derived.Shelf.Strings.Builder2Cap
import Derived.Shelf.Strconv.Itoa0
import Derived.Shelf.Strconv.Itoa1
import Derived.Shelf.LaysM
import Derived.Shelf.Strconv.Itoa2
import Derived.Shelf.Strconv.Itoa3
import Derived.Shelf.Strconv.Itoa4
import Derived.Shelf.Strings.Search1
import Derived.Shelf.Strings.Search2
import Derived.Shelf.Strings.Search3
import Derived.Shelf.Strings.Count
import Derived.Shelf.Strings.Shaped
import Derived.Shelf.Strings.Split
import Derived.Shelf.Strings.Replace
import Derived.Shelf.Strings.SplitShaped
import Derived.Shelf.Unicode.Decode
import Derived.Shelf.Strings.RuneCount
import Derived.Shelf.Unicode.DecodeSlow
import Derived.Shelf.Unicode.DecodeAny
import Derived.Shelf.Strings.BuilderCap
import Derived.Test.YtdfojghhpdkpfaaGreatDoorProg
import Derived.Orders
import Derived.StillTail
import Derived.Laws.StructEq
import Derived.Deep.CutRange
import Derived.Lib.AppendIntMem
import Derived.Deep.CutBlock
import Derived.Recover
import Derived.HandedShaped
import Derived.ChangeMaps5
import Derived.Lay
import Derived.Lib.LaidU8
import Derived.Lib.LaidTab
import Derived.Test.YtdfojghhpdkpfaaGreatDoorB2
import Derived.Test.YtdfojghhpdkpfaaGreatDoorB1
import Derived.Test.YtdfojghhpdkpfaaGreatDoorA9
import Derived.Test.YtdfojghhpdkpfaaGreatDoorA8
import Derived.Test.YtdfojghhpdkpfaaGreatDoorA7
import Derived.Test.YtdfojghhpdkpfaaGreatDoorA6
import Derived.Test.YtdfojghhpdkpfaaGreatDoorA5
import Derived.Test.YtdfojghhpdkpfaaGreatDoorA4
import Derived.Test.YtdfojghhpdkpfaaGreatDoorA3
import Derived.Test.YtdfojghhpdkpfaaGreatDoorA2
import Derived.Test.YtdfojghhpdkpfaaGreatDoorA12
import Derived.Test.YtdfojghhpdkpfaaGreatDoorA11
import Derived.Test.YtdfojghhpdkpfaaGreatDoorA10
import Derived.Test.YtdfojghhpdkpfaaGreatDoorA1
set_option linter.unusedSimpArgs false
set_option linter.unusedVariables false
namespace Go.Proofs.YtdfojghhpdkpfaaGreatDoor
open Go.RowKit Go.ChangeShapes Go.WideShapes Go.ChangeAt
section
variable {S S' : Nat → Prop} {w w' w'' : World}
end
section
variable {S S' : Nat → Prop} {w w' : World} {size n : Nat} {A : Option Addr} {xs : List Value}
end
section
variable {S S' : Nat → Prop} {w w' : World} {v : Value} {bs : List UInt8}
end
section
variable {S S' : Nat → Prop} {w w' : World} {v : Value} {l : List (List UInt8)}
end
section
variable {S : Nat → Prop} {w w' : World} {g : Nat} {e : TypeId} {xs : List Value}
end
section
variable {P : Program} {t e : TypeId} {size bytes : Nat} {z : Value}
end
theorem str_get (s : ByteArray) : s = str s.data.toList := by simp [str]
section
variable {H : Type} {enc : TypeId × Value → H} {P : Program} {W : World}
end
/-- Which cells of type t read as which data; kept while the blocks of S stay. -/
structure Codec (P : Program) (t : TypeId) (α : Type) where
  ok : World → (Nat → Prop) → List Value → α → Prop
  keep : ∀ {S : Nat → Prop} {w w' : World} {vs : List Value} {x : α}, Same S w w' → ok w S vs x → ok w' S vs x
  size : ∀ {S : Nat → Prop} {w : World} {vs : List Value} {x : α}, ok w S vs x → vs.length = P.cellsOf t
  opens : ∀ {H : Type} {enc : TypeId × Value → H} {W : World} {fuel : Nat} {cs : List Value} {x : DataW H × List MemPlace},
    DataW.trod enc P W 0 (fun _ => true) true fuel t cs = some x → ∃ a, ok W (· < W.heap.size) cs a
section
variable {P : Program} {t e : TypeId} {α β : Type}
def cInt (k : IntKind) (ht : P.underlying t = some (.int k)) (hc : P.cellsOf t = 1) : Codec P t Int where
  ok _ _ vs n := vs = [.int k n] ∧ (Lit.int k n).wf = true
  keep _ h := h
  size h := by rw [h.1, hc]; rfl
  opens h := by
    obtain ⟨n, h1, _, h2⟩ := DataW.trod_int ht h
    exact ⟨n, h1, h2⟩
def cBool (ht : P.underlying t = some .bool) (hc : P.cellsOf t = 1) : Codec P t Bool where
  ok _ _ vs b := vs = [.bool b]
  keep _ h := h
  size h := by rw [h, hc]; rfl
  opens h := by
    obtain ⟨n, h1, _⟩ := DataW.trod_bool ht h
    exact ⟨n, h1⟩
def cStr (ht : P.underlying t = some .string) (hc : P.cellsOf t = 1) : Codec P t (List UInt8) where
  ok _ _ vs l := vs = [.string (str l)] ∧ l.length ≤ maxLen
  keep _ h := h
  size h := by rw [h.1, hc]; rfl
  opens h := by
    obtain ⟨s, h1, _, h2⟩ := DataW.trod_string ht h
    exact ⟨s.data.toList, by rw [h1, ← str_get], by rw [Array.length_toList]; exact h2⟩
/-- A slice of whatever reads: the element i lies at i rows behind the head. -/
def SlOf (C : Codec P e α) (w : World) (S : Nat → Prop) (v : Value) (xs : List α) : Prop :=
  ∃ A c, v = .slice A xs.length c ∧ xs.length ≤ c ∧ c ≤ maxLen ∧
    ∀ i x, xs[i]? = some x → ∃ ad us, A = some ad ∧ S ad.block ∧ (∀ j u, us[j]? = some u → w.cell? (ad.add (i * P.cellsOf e + j)) = some u) ∧ C.ok w S us x
theorem SlOf.keep {C : Codec P e α} {w w' : World} {S : Nat → Prop} {v : Value} {xs : List α} (h : SlOf C w S v xs) (hs : Same S w w') : SlOf C w' S v xs := by
  obtain ⟨A, c, h1, h2, h3, h4⟩ := h
  refine ⟨A, c, h1, h2, h3, fun i x hx => ?_⟩
  obtain ⟨ad, us, a1, a2, a3, a4⟩ := h4 i x hx
  exact ⟨ad, us, a1, a2, fun j u hu => hs.cell (by rw [block_of_add]; exact a2) (a3 j u hu), C.keep hs a4⟩
theorem SlOf.opens {C : Codec P e α} (ht : P.underlying t = some (.slice e)) (hc : 0 < P.cellsOf e) {H : Type} {enc : TypeId × Value → H} {W : World} {fuel : Nat} {cs : List Value} {x : DataW H × List MemPlace}
    (h : DataW.trod enc P W 0 (fun _ => true) true fuel t cs = some x) : ∃ v xs, cs = [v] ∧ SlOf C W (· < W.heap.size) v xs := by
  rcases Go.Deep.open_slice ht h with ⟨rfl, _⟩ | ⟨a, len, cap, m, n, D, Pl, rfl, _, hl, hm, hmm, _, hel⟩
  · exact ⟨_, [], rfl, none, 0, rfl, Nat.le_refl _, by simp [maxLen], fun i x hx => by simp at hx⟩
  · simp only [if_true] at hmm
    subst hmm
    have each : ∀ i, i < len → ∃ p : List Value × α, (∀ j u, p.1[j]? = some u → W.cell? (a.add (i * P.cellsOf e + j)) = some u) ∧ C.ok W (· < W.heap.size) p.1 p.2 := by
      intro i hi
      obtain ⟨cs', hcs, htr⟩ := hel i (by omega)
      obtain ⟨y, hy⟩ := C.opens htr
      obtain ⟨_, hlen, hat⟩ := World.cells?_some hcs
      refine ⟨(cs', y), fun j u hu => ?_, hy⟩
      have hj : j < cs'.length := by
        rcases Nat.lt_or_ge j cs'.length with h | h
        · exact h
        · rw [List.getElem?_eq_none h] at hu; cases hu
      have := hat j (by omega)
      rw [← add_of_add, this]
      exact hu
    rcases Nat.eq_zero_or_pos len with h0 | h0
    · subst h0
      exact ⟨_, [], rfl, some a, m, rfl, by simp, hm, fun i x hx => by simp at hx⟩
    obtain ⟨p0, _⟩ := each 0 h0
    haveI : Inhabited (List Value × α) := ⟨p0⟩
    obtain ⟨F, hF⟩ := Go.Deep.choose_lt each
    refine ⟨_, (List.range len).map fun i => (F i).2, rfl, some a, m, by simp, by simpa using hl, hm, fun i x hx => ?_⟩
    by_cases hi : i < len
    · simp [hi] at hx
      subst hx
      obtain ⟨h1, h2⟩ := hF i hi
      refine ⟨a, (F i).1, rfl, ?_, h1, h2⟩
      have hz := C.size h2
      have := World.block_lt_of_cell? W _ (h1 0 _ (List.getElem?_eq_getElem (by omega)))
      rw [block_of_add] at this
      exact this
    · simp [hi] at hx
/-- The fields of a struct. -/
structure FCod (P : Program) (fs : List Field) (α : Type) where
  ok : World → (Nat → Prop) → List Value → α → Prop
  keep : ∀ {S : Nat → Prop} {w w' : World} {vs : List Value} {x : α}, Same S w w' → ok w S vs x → ok w' S vs x
  opens : ∀ {H : Type} {enc : TypeId × Value → H} {W : World} {n : Nat} {cs : List Value},
    (∀ f, f ∈ fs → ∃ y, DataW.trod enc P W 0 (fun _ => true) true n f.type ((cs.drop f.offset).take (P.cellsOf f.type)) = some y) → ∃ a, ok W (· < W.heap.size) cs a
def fnil : FCod P [] Unit where
  ok _ _ _ _ := True
  keep _ h := h
  opens _ := ⟨(), trivial⟩
def fcons (off n : Nat) {f : Field} {fs : List Field} (C : Codec P f.type α) (R : FCod P fs β) (ho : f.offset = off := by rfl) (hn : P.cellsOf f.type = n := by kernel_rfl) : FCod P (f :: fs) (α × β) where
  ok w S vs x := C.ok w S ((vs.drop off).take n) x.1 ∧ R.ok w S vs x.2
  keep hs h := ⟨C.keep hs h.1, R.keep hs h.2⟩
  opens h := by
    obtain ⟨y, hy⟩ := h f (by simp)
    rw [ho, hn] at hy
    obtain ⟨a, ha⟩ := C.opens hy
    obtain ⟨b, hb⟩ := R.opens (fun g hg => h g (by simp [hg]))
    exact ⟨(a, b), ha, hb⟩
def cStruct {fs : Array Field} (R : FCod P fs.toList β) (F : β → α) (ht : P.underlying t = some (.struct fs)) : Codec P t α where
  ok w S vs x := vs.length = P.cellsOf t ∧ ∃ b, x = F b ∧ R.ok w S vs b
  keep hs h := by
    obtain ⟨h0, b, h1, h2⟩ := h
    exact ⟨h0, b, h1, R.keep hs h2⟩
  size h := h.1
  opens h := by
    obtain ⟨xs, n, _, _, h1, h2, h3⟩ := DataW.trod_struct ht h
    obtain ⟨b, hb⟩ := R.opens (enc := _) (n := n) (fun f hf => by
      obtain ⟨i, hi, rfl⟩ := List.mem_iff_getElem.1 hf
      have hi' : i < fs.size := by simpa using hi
      have := h3 i fs[i] (by simp [hi'])
      refine ⟨xs[i]'(by omega), ?_⟩
      rw [List.getElem?_eq_getElem (by omega)] at this
      exact this)
    exact ⟨F b, h1, b, rfl, hb⟩
end
end Go.Proofs.YtdfojghhpdkpfaaGreatDoor
namespace Go.Proofs.YtdfojghhpdkpfaaGreatDoor
open Go.RowKit
set_option maxRecDepth 100000 in
set_option maxHeartbeats 8000000 in
theorem back_walk (l : LotM) (u : Value) (w : World) (hI : LotI l) (h : LtR w (fun _ => True) u l) (hE : EnvT w)
    (hLi : ∀ w1 : World, LtR w1 (fun _ => True) u l → EnvT w1 → Calls Tryz.prog 15 #[ltV u l] w1 fun e w' => (∃ b, e = .returned (.bool b)) ∧ Same (fun _ => True) w1 w') :
    Calls Tryz.prog 6 #[ltV u l] w fun e w' => e = .returned (.bool true) ∧ Same (fun _ => True) w w' := by
  obtain ⟨A, c, rfl, -, -⟩ := (show LsR stCsP 15 StR _ _ u l.stmts from h).form
  have hA := (Same.refl (fun _ => True) w).alloc (.cells #[.int .i64 l.mode, .int .i64 l.n, .slice A l.stmts.length c] 25)
  have hrow := Row.new w 25 [.int .i64 l.mode, .int .i64 l.n, .slice A l.stmts.length c]
  have hl1 : LsR stCsP 15 StR (w.alloc (.cells #[.int .i64 l.mode, .int .i64 l.n, .slice A l.stmts.length c] 25)) (fun _ => True) (.slice A l.stmts.length c) l.stmts := (show LsR stCsP 15 StR _ _ (.slice A l.stmts.length c) l.stmts from h).keepAll stK hA
  have he1 := hE.keepAll hA
  clear h hE
  go_enter Tryz.func6, Tryz.ntmps6
  go_wp2_with (go_at_call 9; refine stopAt ?_)
  unfold Hid
  revert hA hrow hl1 he1
  generalize w.alloc _ = w0
  intro hA hrow hl1 he1
  refine (begun_any w0 he1).mono ?_
  rintro e w1 ⟨rfl, hS⟩
  have HR := Lib.hid (hrow.keep hS trivial)
  have HL := Lib.hid (LsR.keepAll stK hl1 hS)
  have HE := Lib.hid (he1.keepAll hS)
  have HS := Lib.hid (hA.trans hS)
  have k0 := HR.out.cell 0
  have k1 := HR.out.cell 1
  have k2 := HR.out.cell 2
  simp only [List.getElem?_cons_zero, List.getElem?_cons_succ] at k0 k1 k2
  clear hA hrow hl1 he1 hS
  go_wp2_with (go_at_call 15; refine stopAt ?_)
  unfold Hid
  refine (hLi w1 HL.out HE.out).mono ?_
  rintro e w2 ⟨⟨b, rfl⟩, hS⟩
  have HR := Lib.hid (HR.out.keep hS trivial)
  have HL := Lib.hid (HL.out.keepAll stK hS)
  have HE := Lib.hid (HE.out.keepAll hS)
  have HS := Lib.hid (HS.out.trans hS)
  have k0 := HR.out.cell 0
  have k1 := HR.out.cell 1
  have k2 := HR.out.cell 2
  simp only [List.getElem?_cons_zero, List.getElem?_cons_succ] at k0 k1 k2
  clear hS hLi
  cases b
  · go_wp2
    go_ret
    exact ⟨rfl, HS.out⟩
  go_wp2_with (go_at_call 16; refine stopAt ?_)
  unfold Hid
  refine (print_any l (.slice A l.stmts.length c) w2 hI HL.out HE.out).mono ?_
  by_cases hp : mayLot l = true ∧ (lotT l).length ≤ 2000
  · have HP := Lib.hid (show printF l = (lotT l, 0) by unfold printF; rw [if_pos hp])
    have HM := Lib.hid hp
    rw [HP.out]
    rintro e w4 ⟨rfl, hS⟩
    have HR := Lib.hid (HR.out.keep hS trivial)
    have HL := Lib.hid (HL.out.keepAll stK hS)
    have HE := Lib.hid (HE.out.keepAll hS)
    have HS := Lib.hid (HS.out.trans hS)
    have hp2 := parse_at (lotT l) w4 (by omega) HE.out.max
    rw [parse_print HM.out.1 hI HM.out.2] at hp2
    clear hS hp
    dsimp only
    go_wp2_with (go_at_call 10; refine stopAt ?_)
    unfold Hid
    refine (show Calls _ _ _ _ _ from hp2).mono ?_
    rintro e w5 ⟨u2, rfl, hlt2, hS⟩
    dsimp only at hlt2
    obtain ⟨A2, c2, rfl, -, -⟩ := (show LsR stCsP 15 StR _ _ u2 l.stmts from hlt2).form
    have hA := (Same.refl (fun _ => True) w5).alloc (.cells #[.int .i64 l.mode, .int .i64 l.n, .slice A2 l.stmts.length c2] 25)
    have hrow := Row.new w5 25 [.int .i64 l.mode, .int .i64 l.n, .slice A2 l.stmts.length c2]
    have hl1 : LsR stCsP 15 StR (w5.alloc (.cells #[.int .i64 l.mode, .int .i64 l.n, .slice A2 l.stmts.length c2] 25)) (fun _ => True) (.slice A2 l.stmts.length c2) l.stmts := (LsR.mono stK (by omega) (show LsR stCsP 15 StR _ _ (.slice A2 l.stmts.length c2) l.stmts from hlt2) (fun _ _ _ => trivial)).keepAll stK hA
    have hs1 := hS.trans hA
    have HR := Lib.hid (HR.out.keep hs1 trivial)
    have HL := Lib.hid (HL.out.keepAll stK hs1)
    have HE := Lib.hid (HE.out.keepAll hs1)
    have HS := Lib.hid (HS.out.trans hs1)
    clear hlt2 hS hA hs1 hp2 k0 k1 k2
    go_wp2_with (go_at_call 16; refine stopAt ?_)
    unfold Hid
    revert hrow hl1 HR HL HE HS
    generalize w5.alloc _ = w6
    intro hrow hl1 HR HL HE HS
    refine (print_any l (.slice A2 l.stmts.length c2) w6 hI hl1 HE.out).mono ?_
    rw [HP.out]
    rintro e w7 ⟨rfl, hS⟩
    have R2 := Lib.hid (hrow.keep hS trivial)
    have HL2 := Lib.hid (LsR.keepAll stK hl1 hS)
    have HR := Lib.hid (HR.out.keep hS trivial)
    have HL := Lib.hid (HL.out.keepAll stK hS)
    have HE := Lib.hid (HE.out.keepAll hS)
    have HS := Lib.hid (HS.out.trans hS)
    have c0 := HR.out.cell 0
    have c1 := HR.out.cell 1
    have c2' := HR.out.cell 2
    have g0 := R2.out.cell 0
    have g1 := R2.out.cell 1
    have g2 := R2.out.cell 2
    simp only [List.getElem?_cons_zero, List.getElem?_cons_succ] at c0 c1 c2' g0 g1 g2
    clear hS hl1 hrow
    dsimp only
    go_wp2_with (go_at_call 20; refine stopAt ?_)
    unfold Hid
    refine (same_any l l (.slice A l.stmts.length c) (.slice A2 l.stmts.length c2) _ HL.out HL2.out).mono ?_
    rw [sameLot_refl]
    rintro e w8 ⟨rfl, hS⟩
    have HR := Lib.hid (HR.out.keep hS trivial)
    have HL := Lib.hid (HL.out.keepAll stK hS)
    have HE := Lib.hid (HE.out.keepAll hS)
    have HS := Lib.hid (HS.out.trans hS)
    clear c0 c1 c2' g0 g1 g2
    have c0 := HR.out.cell 0
    have c1 := HR.out.cell 1
    have c2' := HR.out.cell 2
    simp only [List.getElem?_cons_zero, List.getElem?_cons_succ] at c0 c1 c2'
    clear hS
    go_wp2_with (go_at_call 18; refine stopAt ?_)
    unfold Hid
    refine (may_any l (.slice A l.stmts.length c) _ HL.out HE.out.max).mono ?_
    rw [HM.out.1]
    rintro e w9 ⟨rfl, hS⟩
    have HS := Lib.hid (HS.out.trans hS)
    clear hS
    go_wp2
    go_ret
    exact ⟨rfl, HS.out⟩
  · rw [show printF l = ([], 9) by unfold printF; rw [if_neg hp]]
    rintro e w4 ⟨rfl, hS⟩
    have HS := Lib.hid (HS.out.trans hS)
    clear hS
    dsimp only
    rw [show str [] = (⟨#[]⟩ : ByteArray) from rfl]
    go_wp2
    go_ret
    exact ⟨rfl, HS.out⟩
def IntP (w : World) (e : Ending) (w' : World) : Prop := (∃ m : Int, e = .returned (.int .i64 m)) ∧ Same (fun _ => True) w w'
set_option maxRecDepth 100000 in
set_option maxHeartbeats 4000000 in
theorem count_any : ∀ (e : Ex) (n : Int) (u : Value) (w : World), ExR w (fun _ => True) u e → Calls Tryz.prog 11 #[exV u e, .int .i64 n] w (IntP w) := by
  apply Ex.ind
  intro k s v l ih n u w hr
  obtain ⟨A, c, rfl, hc1, hc2⟩ := hr.toL.form
  have hl : ExL w (fun _ => True) (.slice A l.length c) l := hr.toL
  have hc1 : l.length ≤ c := hc1
  show Calls Tryz.prog 11 #[.agg #[.int .i64 k, .string (str s), .int .i64 v.kind, .int .i64 v.n, .string (str v.s), .slice A l.length c], .int .i64 n] w (IntP w)
  unfold maxLen at hc2
  have hA := (Same.refl (fun _ => True) w).alloc (.cells #[.int .i64 k, .string (str s), .int .i64 v.kind, .int .i64 v.n, .string (str v.s), .slice A l.length c] 34)
  have hrow := Row.new w 34 [.int .i64 k, .string (str s), .int .i64 v.kind, .int .i64 v.n, .string (str v.s), .slice A l.length c]
  have hl1 := hl.keepAll hA
  have hlc : (l.length : Int) ≤ (c : Int) := by omega
  clear hr hl
  go_enter Tryz.func11, Tryz.ntmps11
  go_upto_region 1 with (fail)
  revert hA hrow hl1
  generalize w.alloc _ = w1
  intro hA hrow hl1
  have HL := Lib.hid hl1
  have HS := Lib.hid hA
  have c5 := hrow.cell 5
  simp only [List.getElem?_cons_zero, List.getElem?_cons_succ] at c5
  clear hA hl1 hrow
  go_wp2
  go_loopw [5, 6] (fun x i wr => ∃ (q : Nat) (m : Int), x = .int .i64 m ∧ i = .int .i64 (q : Int) ∧ q ≤ l.length ∧ Same (fun _ => True) w1 wr) (fun _ i _ => l.length - (intOf i).toNat)
  case atStart => exact ⟨0, 1, rfl, rfl, Nat.zero_le _, Same.refl _ _⟩
  case round =>
    obtain ⟨q, m, rfl, rfl, hq, hS⟩ := hrel
    have x1 : (0 : Int) ≤ (q : Int) := by omega
    have HS2 := Lib.hid hS
    have HL2 := Lib.hid (HL.out.keepAll hS)
    have k5 := hS.cell (p := ⟨w.heap.size, 5, none⟩) trivial c5
    clear hS
    by_cases hql : q < l.length
    · have x2 : (q : Int) < (l.length : Int) := by omega
      obtain ⟨ad, uq, rfl, -, hlq, d0, d1, d2, d3, d4, d5⟩ := ExL.cells HL2.out hql
      obtain ⟨Aq, cq, rfl, -, -⟩ := hlq.form
      have hmem : l[q] ∈ l := List.getElem_mem hql
      by_cases hmn : m ≤ n
      · have hlq1 := (ExR.iff _ l[q]).2 hlq
        clear hlq
        go_wp2_with (go_at_call 11; refine stopAt ?_)
        unfold Hid
        refine (ih l[q] hmem _ (.slice Aq l[q].args.length cq) _ hlq1).mono ?_
        rintro e w5 ⟨⟨m2, rfl⟩, hS⟩
        have HS5 := Lib.hid (HS2.out.trans hS)
        clear hS hlq1 hmem
        go_wp2
        go_roundw
        case rel => exact ⟨q + 1, _, rfl, by go_num, by omega, HS5.out⟩
        case measure => simp [intOf]; omega
      · go_wp2
        go_ret
        exact ⟨⟨m, rfl⟩, HS.out.trans HS2.out⟩
    · obtain rfl : q = l.length := by omega
      go_wp2
      go_ret
      exact ⟨⟨m, rfl⟩, HS.out.trans HS2.out⟩
def BolP (w : World) (e : Ending) (w' : World) : Prop := (∃ b : Bool, e = .returned (.bool b)) ∧ Same (fun _ => True) w w'
set_option maxRecDepth 100000 in
set_option maxHeartbeats 16000000 in
theorem light_bol (l : LotM) (u : Value) (w : World) (h : LtR w (fun _ => True) u l) : Calls Tryz.prog 15 #[ltV u l] w (BolP w) := by
  obtain ⟨A, c, rfl, hc1, hc2⟩ := (show LsR stCsP 15 StR _ _ u l.stmts from h).form
  unfold maxLen at hc2
  have hA := (Same.refl (fun _ => True) w).alloc (.cells #[.int .i64 l.mode, .int .i64 l.n, .slice A l.stmts.length c] 25)
  have hrow := Row.new w 25 [.int .i64 l.mode, .int .i64 l.n, .slice A l.stmts.length c]
  have hl := LsR.keepAll stK h hA
  clear h
  go_enter Tryz.func15, Tryz.ntmps15
  go_upto_region 1 with (fail)
  revert hA hrow hl
  generalize w.alloc _ = w1
  intro hA hrow hl
  have HL := Lib.hid hl
  have HS := Lib.hid hA
  have HT := Lib.hid hA
  have HROWL := Lib.hid hrow
  clear hA hrow hl
  generalize w.heap.size = gL at *
  have a2 := HROWL.out.cell 2
  simp only [List.getElem?_cons_zero, List.getElem?_cons_succ] at a2
  by_cases h12 : (12 : Int) < (l.stmts.length : Int)
  · have e1 := decide_eq_true h12
    clear h12
    go_wp2
    go_ret
    exact ⟨⟨_, rfl⟩, HT.out⟩
  have e1 : decide ((12 : Int) < (l.stmts.length : Int)) = false := decide_eq_false h12
  clear h12
  go_wp2
  go_loopw [3, 4] (fun x i w2 => ∃ (q : Nat) (m : Int), x = .int .i64 m ∧ i = .int .i64 (q : Int) ∧ q ≤ l.stmts.length ∧ Same (fun _ => True) w1 w2) (fun _ i _ => l.stmts.length - (intOf i).toNat)
  case atStart => exact ⟨0, 0, rfl, rfl, Nat.zero_le _, Same.refl _ _⟩
  case round =>
    rename World => w2
    obtain ⟨q, m, rfl, rfl, hq, hS⟩ := hrel
    have xq : (0 : Int) ≤ (q : Int) := by omega
    clear a2
    have HG := Lib.hid hS
    have HT := Lib.hid (HT.out.trans hS)
    have HROWL := Lib.hid (HROWL.out.keep hS trivial)
    have HL := Lib.hid (HL.out.keepAll stK hS)
    have a2 := HROWL.out.cell 2
    simp only [List.getElem?_cons_zero, List.getElem?_cons_succ] at a2
    clear hS
    by_cases hlq : q < l.stmts.length
    · have yq : (q : Int) < (l.stmts.length : Int) := by omega
      obtain ⟨ad, u, rfl, hok, hcl⟩ := LsR.at_ HL.out stCsP_len hlq
      obtain ⟨ui, ur, us, uc⟩ := u
      obtain ⟨A_u1, c_u1, q1, i1, i2⟩ := LsR.form (show LsR itCs 7 itOk _ _ ui l.stmts[q].items from hok.1)
      subst q1
      obtain ⟨A_u2, c_u2, q1, i3, i4⟩ := LsR.form (show LsR rwCs 1 rwOk _ _ ur l.stmts[q].rows from hok.2.1)
      subst q1
      obtain ⟨A_u3, c_u3, q1, i5, i6⟩ := LsR.form (show LsR asCs 7 asOk _ _ us l.stmts[q].sets from hok.2.2.1)
      subst q1
      obtain ⟨A_u4, c_u4, q1, -⟩ := (show ExR _ _ uc l.stmts[q].cond from hok.2.2.2).toL.form
      subst q1
      unfold maxLen at i2 i4 i6
      have d0 := hcl 0 (by omega)
      rw [add_zero] at d0
      have d1 := hcl 1 (by omega)
      rw [addr_add _ _ (by omega)] at d1
      have d2 := hcl 2 (by omega)
      rw [addr_add _ _ (by omega)] at d2
      have d3 := hcl 3 (by omega)
      rw [addr_add _ _ (by omega)] at d3
      have d4 := hcl 4 (by omega)
      rw [addr_add _ _ (by omega)] at d4
      have d5 := hcl 5 (by omega)
      rw [addr_add _ _ (by omega)] at d5
      have d6 := hcl 6 (by omega)
      rw [addr_add _ _ (by omega)] at d6
      have d7 := hcl 7 (by omega)
      rw [addr_add _ _ (by omega)] at d7
      have d8 := hcl 8 (by omega)
      rw [addr_add _ _ (by omega)] at d8
      have d9 := hcl 9 (by omega)
      rw [addr_add _ _ (by omega)] at d9
      have d10 := hcl 10 (by omega)
      rw [addr_add _ _ (by omega)] at d10
      have d11 := hcl 11 (by omega)
      rw [addr_add _ _ (by omega)] at d11
      have d12 := hcl 12 (by omega)
      rw [addr_add _ _ (by omega)] at d12
      have d13 := hcl 13 (by omega)
      rw [addr_add _ _ (by omega)] at d13
      have d14 := hcl 14 (by omega)
      rw [addr_add _ _ (by omega)] at d14
      simp only [stCsP, stCs, List.getElem?_cons_zero, List.getElem?_cons_succ] at d0 d1 d2 d3 d4 d5 d6 d7 d8 d9 d10 d11 d12 d13 d14
      have HOK := Lib.hid hok
      clear hok hcl
      generalize l.stmts[q] = y at *
      have hB := (Same.refl (fun _ => True) w2).alloc (.cells (#[.int .i64 y.kind, .string (str y.table), .slice A_u1 y.items.length c_u1, .slice A_u2 y.rows.length c_u2, .slice A_u3 y.sets.length c_u3, .bool y.filt, .int .i64 y.cond.kind, .string (str y.cond.s), .int .i64 y.cond.v.kind, .int .i64 y.cond.v.n, .string (str y.cond.v.s), .slice A_u4 y.cond.args.length c_u4, .string (str y.order), .bool y.down, .int .i64 y.limit]) 44)
      have hrow2 := Row.new w2 44 [.int .i64 y.kind, .string (str y.table), .slice A_u1 y.items.length c_u1, .slice A_u2 y.rows.length c_u2, .slice A_u3 y.sets.length c_u3, .bool y.filt, .int .i64 y.cond.kind, .string (str y.cond.s), .int .i64 y.cond.v.kind, .int .i64 y.cond.v.n, .string (str y.cond.v.s), .slice A_u4 y.cond.args.length c_u4, .string (str y.order), .bool y.down, .int .i64 y.limit]
      go_upto_region 8 with (fail)
      have hok2 := stK.keep HOK.out hB
      have hg2 := HG.out.trans hB
      have ht2 := HT.out.trans hB
      have hrl := HROWL.out.keep hB trivial
      revert hB hrow2 hok2 hg2 ht2 hrl
      generalize w2.alloc _ = wS
      generalize w2.heap.size = gS
      intro hB hrow2 hok2 hg2 ht2 hrl
      clear HG HT HROWL HOK a2 d0 d1 d2 d3 d4 d5 d6 d7 d8 d9 d10 d11 d12 d13 d14
      have HG := Lib.hid hg2
      have HT := Lib.hid ht2
      have HROWL := Lib.hid hrl
      have HROW := Lib.hid hrow2
      have HIT := Lib.hid (show LsR itCs 7 itOk _ _ _ y.items from hok2.1)
      have HRW := Lib.hid (show LsR rwCs 1 rwOk _ _ _ y.rows from hok2.2.1)
      have HAS := Lib.hid (show LsR asCs 7 asOk _ _ _ y.sets from hok2.2.2.1)
      have HCO := Lib.hid (show ExR _ _ _ y.cond from hok2.2.2.2)
      clear hB hrow2 hok2 hg2 ht2 hrl
      have f1 := HROW.out.cell 1
      have f2 := HROW.out.cell 2
      have f3 := HROW.out.cell 3
      have f4 := HROW.out.cell 4
      have f6 := HROW.out.cell 6
      have f7 := HROW.out.cell 7
      have f8 := HROW.out.cell 8
      have f9 := HROW.out.cell 9
      have f10 := HROW.out.cell 10
      have f11 := HROW.out.cell 11
      have f12 := HROW.out.cell 12
      simp only [List.getElem?_cons_zero, List.getElem?_cons_succ] at f1 f2 f3 f4 f6 f7 f8 f9 f10 f11 f12
      by_cases h1 : (12 : Int) < (y.items.length : Int)
      · have e2 := decide_eq_true h1
        clear h1
        go_wp2
        go_ret
        exact ⟨⟨_, rfl⟩, HT.out⟩
      have e2 : decide ((12 : Int) < (y.items.length : Int)) = false := decide_eq_false h1
      by_cases h2 : (20 : Int) < (y.rows.length : Int)
      · have e3 := decide_eq_true h2
        clear h1 h2
        go_wp2
        go_ret
        exact ⟨⟨_, rfl⟩, HT.out⟩
      have e3 : decide ((20 : Int) < (y.rows.length : Int)) = false := decide_eq_false h2
      by_cases h3 : (12 : Int) < (y.sets.length : Int)
      · have e4 := decide_eq_true h3
        clear h1 h2 h3
        go_wp2
        go_ret
        exact ⟨⟨_, rfl⟩, HT.out⟩
      have e4 : decide ((12 : Int) < (y.sets.length : Int)) = false := decide_eq_false h3
      by_cases h4 : (500 : Int) < ((str y.table).size : Int)
      · have e5 := decide_eq_true h4
        clear h1 h2 h3 h4
        go_wp2
        go_ret
        exact ⟨⟨_, rfl⟩, HT.out⟩
      have e5 : decide ((500 : Int) < ((str y.table).size : Int)) = false := decide_eq_false h4
      by_cases h5 : (500 : Int) < ((str y.order).size : Int)
      · have e6 := decide_eq_true h5
        clear h1 h2 h3 h4 h5
        go_wp2
        go_ret
        exact ⟨⟨_, rfl⟩, HT.out⟩
      have e6 : decide ((500 : Int) < ((str y.order).size : Int)) = false := decide_eq_false h5
      clear h1 h2 h3 h4 h5
      go_wp2_with (go_at_call 11; refine stopAt ?_)
      unfold Hid
      refine (show Calls _ _ _ _ _ from count_any y.cond 300 _ _ HCO.out).mono ?_
      rintro e w3 ⟨⟨mw, rfl⟩, hS⟩
      have HG := Lib.hid (HG.out.trans hS)
      clear f1 f2 f3 f4 f6 f7 f8 f9 f10 f11 f12
      have HT := Lib.hid (HT.out.trans hS)
      have HROW := Lib.hid (HROW.out.keep hS trivial)
      have HROWL := Lib.hid (HROWL.out.keep hS trivial)
      have HIT := Lib.hid (HIT.out.keepAll itK hS)
      have HRW := Lib.hid (HRW.out.keepAll rwK hS)
      have HAS := Lib.hid (HAS.out.keepAll asK hS)
      clear hS
      have f1 := HROW.out.cell 1
      have f2 := HROW.out.cell 2
      have f3 := HROW.out.cell 3
      have f4 := HROW.out.cell 4
      have f6 := HROW.out.cell 6
      have f7 := HROW.out.cell 7
      have f8 := HROW.out.cell 8
      have f9 := HROW.out.cell 9
      have f10 := HROW.out.cell 10
      have f11 := HROW.out.cell 11
      have f12 := HROW.out.cell 12
      simp only [List.getElem?_cons_zero, List.getElem?_cons_succ] at f1 f2 f3 f4 f6 f7 f8 f9 f10 f11 f12
      go_wp2
      go_loopw [3, 6] (fun x i w4 => ∃ (q' : Nat) (m' : Int), x = .int .i64 m' ∧ i = .int .i64 (q' : Int) ∧ q' ≤ y.items.length ∧ Same (fun _ => True) w3 w4) (fun _ i _ => y.items.length - (intOf i).toNat)
      case atStart => exact ⟨0, _, rfl, rfl, Nat.zero_le _, Same.refl _ _⟩
      case round =>
        rename World => w4
        obtain ⟨q2, m2, rfl, rfl, hqq2, hS⟩ := hrel
        have xq2 : (0 : Int) ≤ (q2 : Int) := by omega
        clear f1 f2 f3 f4 f6 f7 f8 f9 f10 f11 f12
        have HT := Lib.hid (HT.out.trans hS)
        have HROW := Lib.hid (HROW.out.keep hS trivial)
        have HROWL := Lib.hid (HROWL.out.keep hS trivial)
        have HIT := Lib.hid (HIT.out.keepAll itK hS)
        have HRW := Lib.hid (HRW.out.keepAll rwK hS)
        have HAS := Lib.hid (HAS.out.keepAll asK hS)
        have Hw4 := Lib.hid hS
        clear hS
        have g1 := HROW.out.cell 1
        have g2 := HROW.out.cell 2
        have g3 := HROW.out.cell 3
        have g4 := HROW.out.cell 4
        have g6 := HROW.out.cell 6
        have g7 := HROW.out.cell 7
        have g8 := HROW.out.cell 8
        have g9 := HROW.out.cell 9
        have g10 := HROW.out.cell 10
        have g11 := HROW.out.cell 11
        have g12 := HROW.out.cell 12
        simp only [List.getElem?_cons_zero, List.getElem?_cons_succ] at g1 g2 g3 g4 g6 g7 g8 g9 g10 g11 g12
        by_cases hlq2 : q2 < y.items.length
        · have yq2 : (q2 : Int) < (y.items.length : Int) := by omega
          obtain ⟨adq2, uq2, rfl, hok, hcl⟩ := LsR.at_ HIT.out itCs_len hlq2
          obtain ⟨A_e, c_e, rfl, -, -⟩ := (show ExR _ _ uq2 y.items[q2].e from hok).toL.form
          have d0 := hcl 0 (by omega)
          rw [add_zero] at d0
          have d1 := hcl 1 (by omega)
          rw [addr_add _ _ (by omega)] at d1
          have d2 := hcl 2 (by omega)
          rw [addr_add _ _ (by omega)] at d2
          have d3 := hcl 3 (by omega)
          rw [addr_add _ _ (by omega)] at d3
          have d4 := hcl 4 (by omega)
          rw [addr_add _ _ (by omega)] at d4
          have d5 := hcl 5 (by omega)
          rw [addr_add _ _ (by omega)] at d5
          have d6 := hcl 6 (by omega)
          rw [addr_add _ _ (by omega)] at d6
          simp only [itCs, exCs, List.getElem?_cons_zero, List.getElem?_cons_succ] at d0 d1 d2 d3 d4 d5 d6
          have HEX := Lib.hid (show ExR _ _ _ y.items[q2].e from hok)
          clear hok hcl
          go_wp2_with (go_at_call 11; refine stopAt ?_)
          unfold Hid
          refine (show Calls _ _ _ _ _ from count_any y.items[q2].e 300 _ _ HEX.out).mono ?_
          rintro e w6 ⟨⟨mc, rfl⟩, hS⟩
          have HR := Lib.hid (Hw4.out.trans hS)
          clear hS
          go_wp2
          go_roundw
          case rel => exact ⟨q2 + 1, _, rfl, by go_num, by omega, HR.out⟩
          case measure => simp [intOf]; omega
        · obtain rfl : q2 = y.items.length := by omega
          have HG := Lib.hid (HG.out.trans Hw4.out)
          go_wp2
          go_loopw [3, 7] (fun x i w5 => ∃ (q' : Nat) (m' : Int), x = .int .i64 m' ∧ i = .int .i64 (q' : Int) ∧ q' ≤ y.sets.length ∧ Same (fun _ => True) w4 w5) (fun _ i _ => y.sets.length - (intOf i).toNat)
          case atStart => exact ⟨0, _, rfl, rfl, Nat.zero_le _, Same.refl _ _⟩
          case round =>
            rename World => w5
            obtain ⟨q3, m3, rfl, rfl, hqq3, hS⟩ := hrel
            have xq3 : (0 : Int) ≤ (q3 : Int) := by omega
            clear g1 g2 g3 g4 g6 g7 g8 g9 g10 g11 g12
            have HT := Lib.hid (HT.out.trans hS)
            have HROW := Lib.hid (HROW.out.keep hS trivial)
            have HROWL := Lib.hid (HROWL.out.keep hS trivial)
            have HIT := Lib.hid (HIT.out.keepAll itK hS)
            have HRW := Lib.hid (HRW.out.keepAll rwK hS)
            have HAS := Lib.hid (HAS.out.keepAll asK hS)
            have Hw5 := Lib.hid hS
            clear hS
            have h1 := HROW.out.cell 1
            have h2 := HROW.out.cell 2
            have h3 := HROW.out.cell 3
            have h4 := HROW.out.cell 4
            have h6 := HROW.out.cell 6
            have h7 := HROW.out.cell 7
            have h8 := HROW.out.cell 8
            have h9 := HROW.out.cell 9
            have h10 := HROW.out.cell 10
            have h11 := HROW.out.cell 11
            have h12 := HROW.out.cell 12
            simp only [List.getElem?_cons_zero, List.getElem?_cons_succ] at h1 h2 h3 h4 h6 h7 h8 h9 h10 h11 h12
            by_cases hlq3 : q3 < y.sets.length
            · have yq3 : (q3 : Int) < (y.sets.length : Int) := by omega
              obtain ⟨adq3, uq3, rfl, hok, hcl⟩ := LsR.at_ HAS.out asCs_len hlq3
              obtain ⟨A_e, c_e, rfl, -, -⟩ := (show ExR _ _ uq3 y.sets[q3].e from hok).toL.form
              have d0 := hcl 0 (by omega)
              rw [add_zero] at d0
              have d1 := hcl 1 (by omega)
              rw [addr_add _ _ (by omega)] at d1
              have d2 := hcl 2 (by omega)
              rw [addr_add _ _ (by omega)] at d2
              have d3 := hcl 3 (by omega)
              rw [addr_add _ _ (by omega)] at d3
              have d4 := hcl 4 (by omega)
              rw [addr_add _ _ (by omega)] at d4
              have d5 := hcl 5 (by omega)
              rw [addr_add _ _ (by omega)] at d5
              have d6 := hcl 6 (by omega)
              rw [addr_add _ _ (by omega)] at d6
              simp only [asCs, exCs, List.getElem?_cons_zero, List.getElem?_cons_succ] at d0 d1 d2 d3 d4 d5 d6
              have HEX := Lib.hid (show ExR _ _ _ y.sets[q3].e from hok)
              clear hok hcl
              go_wp2_with (go_at_call 11; refine stopAt ?_)
              unfold Hid
              refine (show Calls _ _ _ _ _ from count_any y.sets[q3].e 300 _ _ HEX.out).mono ?_
              rintro e w6 ⟨⟨mc, rfl⟩, hS⟩
              have HR := Lib.hid (Hw5.out.trans hS)
              clear hS
              go_wp2
              go_roundw
              case rel => exact ⟨q3 + 1, _, rfl, by go_num, by omega, HR.out⟩
              case measure => simp [intOf]; omega
            · obtain rfl : q3 = y.sets.length := by omega
              have HG := Lib.hid (HG.out.trans Hw5.out)
              go_wp2
              go_loopw [3, 8] (fun x i w7 => ∃ (q' : Nat) (m' : Int), x = .int .i64 m' ∧ i = .int .i64 (q' : Int) ∧ q' ≤ y.rows.length ∧ Same (fun _ => True) w5 w7) (fun _ i _ => y.rows.length - (intOf i).toNat)
              case atStart => exact ⟨0, _, rfl, rfl, Nat.zero_le _, Same.refl _ _⟩
              case round =>
                rename World => w7
                obtain ⟨q4, m4, rfl, rfl, hqq4, hS⟩ := hrel
                have xq4 : (0 : Int) ≤ (q4 : Int) := by omega
                clear h1 h2 h3 h4 h6 h7 h8 h9 h10 h11 h12
                have HT := Lib.hid (HT.out.trans hS)
                have HROW := Lib.hid (HROW.out.keep hS trivial)
                have HROWL := Lib.hid (HROWL.out.keep hS trivial)
                have HIT := Lib.hid (HIT.out.keepAll itK hS)
                have HRW := Lib.hid (HRW.out.keepAll rwK hS)
                have HAS := Lib.hid (HAS.out.keepAll asK hS)
                have Hw7 := Lib.hid hS
                clear hS
                have i1 := HROW.out.cell 1
                have i2 := HROW.out.cell 2
                have i3 := HROW.out.cell 3
                have i4 := HROW.out.cell 4
                have i6 := HROW.out.cell 6
                have i7 := HROW.out.cell 7
                have i8 := HROW.out.cell 8
                have i9 := HROW.out.cell 9
                have i10 := HROW.out.cell 10
                have i11 := HROW.out.cell 11
                have i12 := HROW.out.cell 12
                simp only [List.getElem?_cons_zero, List.getElem?_cons_succ] at i1 i2 i3 i4 i6 i7 i8 i9 i10 i11 i12
                by_cases hlq4 : q4 < y.rows.length
                · have yq4 : (q4 : Int) < (y.rows.length : Int) := by omega
                  obtain ⟨adq4, uq4, rfl, hok, hcl⟩ := LsR.at_ HRW.out rwCs_len hlq4
                  obtain ⟨A_r, c_r, rfl, r1, r2⟩ := (show ExL _ _ uq4 y.rows[q4] from hok).form
                  unfold maxLen at r2
                  have b0 := hcl 0 (by omega)
                  rw [add_zero, Nat.mul_one] at b0
                  simp only [rwCs, List.getElem?_cons_zero, List.getElem?_cons_succ] at b0
                  have HRL := Lib.hid (ls_exL.2 (show ExL _ _ _ y.rows[q4] from hok))
                  clear hok hcl
                  by_cases h12 : (12 : Int) < (y.rows[q4].length : Int)
                  · have e8 := decide_eq_true h12
                    clear h12
                    go_wp2
                    go_ret
                    exact ⟨⟨_, rfl⟩, HT.out⟩
                  have e8 : decide ((12 : Int) < (y.rows[q4].length : Int)) = false := decide_eq_false h12
                  clear h12
                  go_wp2
                  go_loopw [3, 9] (fun x i w9 => ∃ (q' : Nat) (m' : Int), x = .int .i64 m' ∧ i = .int .i64 (q' : Int) ∧ q' ≤ y.rows[q4].length ∧ Same (fun _ => True) w7 w9) (fun _ i _ => y.rows[q4].length - (intOf i).toNat)
                  case atStart => exact ⟨0, _, rfl, rfl, Nat.zero_le _, Same.refl _ _⟩
                  case round =>
                    rename World => w9
                    obtain ⟨q5, m5, rfl, rfl, hqq5, hS⟩ := hrel
                    have xq5 : (0 : Int) ≤ (q5 : Int) := by omega
                    clear i1 i2 i3 i4 i6 i7 i8 i9 i10 i11 i12
                    have HT := Lib.hid (HT.out.trans hS)
                    have HROW := Lib.hid (HROW.out.keep hS trivial)
                    have HROWL := Lib.hid (HROWL.out.keep hS trivial)
                    have HIT := Lib.hid (HIT.out.keepAll itK hS)
                    have HRW := Lib.hid (HRW.out.keepAll rwK hS)
                    have HAS := Lib.hid (HAS.out.keepAll asK hS)
                    have Hw9 := Lib.hid (Hw7.out.trans hS)
                    have HRL := Lib.hid (HRL.out.keepAll exK hS)
                    have H95 := Lib.hid hS
                    have b1 := hS.cell (p := adq4.add q4) trivial b0
                    clear hS b0
                    have j1 := HROW.out.cell 1
                    have j2 := HROW.out.cell 2
                    have j3 := HROW.out.cell 3
                    have j4 := HROW.out.cell 4
                    have j6 := HROW.out.cell 6
                    have j7 := HROW.out.cell 7
                    have j8 := HROW.out.cell 8
                    have j9 := HROW.out.cell 9
                    have j10 := HROW.out.cell 10
                    have j11 := HROW.out.cell 11
                    have j12 := HROW.out.cell 12
                    simp only [List.getElem?_cons_zero, List.getElem?_cons_succ] at j1 j2 j3 j4 j6 j7 j8 j9 j10 j11 j12
                    by_cases hlq5 : q5 < y.rows[q4].length
                    · have yq5 : (q5 : Int) < (y.rows[q4].length : Int) := by omega
                      obtain ⟨adq5, uq5, rfl, hok, hcl⟩ := LsR.at_ HRL.out exCsP_len hlq5
                      obtain ⟨A_e, c_e, rfl, -, -⟩ := (show ExR _ _ uq5 y.rows[q4][q5] from hok).toL.form
                      have d0 := hcl 0 (by omega)
                      rw [add_zero] at d0
                      have d1 := hcl 1 (by omega)
                      rw [addr_add _ _ (by omega)] at d1
                      have d2 := hcl 2 (by omega)
                      rw [addr_add _ _ (by omega)] at d2
                      have d3 := hcl 3 (by omega)
                      rw [addr_add _ _ (by omega)] at d3
                      have d4 := hcl 4 (by omega)
                      rw [addr_add _ _ (by omega)] at d4
                      have d5 := hcl 5 (by omega)
                      rw [addr_add _ _ (by omega)] at d5
                      simp only [exCsP, exCs, List.getElem?_cons_zero, List.getElem?_cons_succ] at d0 d1 d2 d3 d4 d5
                      have HEX := Lib.hid (show ExR _ _ _ y.rows[q4][q5] from hok)
                      clear hok hcl
                      go_wp2_with (go_at_call 11; refine stopAt ?_)
                      unfold Hid
                      refine (show Calls _ _ _ _ _ from count_any y.rows[q4][q5] 300 _ _ HEX.out).mono ?_
                      rintro e w10 ⟨⟨m6, rfl⟩, hS⟩
                      have HR := Lib.hid (H95.out.trans hS)
                      clear hS
                      go_wp2
                      go_roundw
                      case rel => exact ⟨q5 + 1, _, rfl, by go_num, by omega, HR.out⟩
                      case measure => simp [intOf]; omega
                    · obtain rfl : q5 = y.rows[q4].length := by omega
                      have HR := Lib.hid Hw9.out
                      go_wp2
                      go_roundw
                      case rel => exact ⟨q4 + 1, _, rfl, by go_num, by omega, HR.out⟩
                      case measure => simp [intOf]; omega
                · obtain rfl : q4 = y.rows.length := by omega
                  by_cases hbig : (400 : Int) < m4
                  · have e9 := decide_eq_true hbig
                    clear hbig
                    go_wp2
                    go_ret
                    exact ⟨⟨_, rfl⟩, HT.out⟩
                  · have e9 : decide ((400 : Int) < m4) = false := decide_eq_false hbig
                    clear hbig
                    have HR := Lib.hid (HG.out.trans (Hw7.out))
                    go_wp2
                    go_roundw
                    case rel => exact ⟨q + 1, _, rfl, by go_num, by omega, HR.out⟩
                    case measure => simp [intOf]; omega
    · obtain rfl : q = l.stmts.length := by omega
      go_wp2
      go_ret
      exact ⟨⟨_, rfl⟩, HT.out⟩
theorem light_any (l : LotM) (u : Value) (w : World) (h : LtR w (fun _ => True) u l) : Calls Tryz.prog 15 #[ltV u l] w fun e w' => (∃ b, e = .returned (.bool b)) ∧ Same (fun _ => True) w w' := light_bol l u w h
end Go.Proofs.YtdfojghhpdkpfaaGreatDoor
namespace Go.Proofs.YtdfojghhpdkpfaaGreatDoor
open Go.RowKit Go.ChangeShapes Go.WideShapes Go.ChangeAt
set_option maxRecDepth 100000 in
set_option maxHeartbeats 1000000 in
theorem ls_opens {H : Type} {enc : TypeId × Value → H} {W : World} {α β : Type} {cs : β × α → List Value} {n : Nat} (hn : 0 < n) (hlen : ∀ p, (cs p).length = n) {ts te : TypeId} (hu : Tryz.prog.underlying ts = some (.slice te))
    (hce : Tryz.prog.cellsOf te = n) {ok : World → (Nat → Prop) → β → α → Prop} {Q : α → Prop} {fuel : Nat} {v : Value} {x : DataW H × List MemPlace}
    (hop : ∀ m, m < fuel → ∀ (ws : List Value) (y : DataW H × List MemPlace), DataW.trod enc Tryz.prog W 0 (fun _ => true) true m te ws = some y → ∃ u a, ws = cs (u, a) ∧ ok W (· < W.heap.size) u a ∧ Q a)
    (h : DataW.trod enc Tryz.prog W 0 (fun _ => true) true fuel ts [v] = some x) : ∃ l, LsR cs n ok W (· < W.heap.size) v l ∧ ∀ a ∈ l, Q a := by
  rcases DataW.trod_slice hu h with ⟨h0, -⟩ | ⟨a, len, cap, elems, rest, n', rfl, h0, -, -, hl, hm, hel, heach, -, -⟩
  · simp only [List.cons.injEq, and_true] at h0
    subst h0
    exact ⟨[], LsR.nil W _, fun a ha => by cases ha⟩
  · simp only [List.cons.injEq, and_true] at h0
    subst h0
    have each : ∀ i, i < len → ∃ p : β × α, (∀ j y, (cs p)[j]? = some y → W.cell? (a.add (i * n + j)) = some y) ∧ ok W (· < W.heap.size) p.1 p.2 ∧ Q p.2 := by
      intro i hi
      have hb := heach i hi
      rw [List.getElem?_eq_getElem (by omega), hce] at hb
      obtain ⟨cs', hcs, htr⟩ := Option.bind_eq_some_iff.1 hb
      obtain ⟨u, e, rfl, hr, hi'⟩ := hop n' (by omega) cs' _ htr
      obtain ⟨_, hlen', hat⟩ := World.cells?_some hcs
      refine ⟨(u, e), fun j y hy => ?_, hr, hi'⟩
      have hj : j < n := by
        have := (List.getElem?_eq_some_iff.1 hy).1
        rwa [hlen] at this
      rw [← add_of_add, hat j hj]
      exact hy
    rcases Nat.eq_zero_or_pos len with h0 | h0
    · subst h0
      exact ⟨[], ⟨[], rfl, ⟨some a, cap, rfl, by simp, hm, by simpa using Sl.nil W _ n (some a)⟩, fun i u e h => by simp at h⟩, fun a ha => by cases ha⟩
    obtain ⟨p0, hp0⟩ := each 0 h0
    haveI : Inhabited (β × α) := ⟨p0⟩
    obtain ⟨F, hF⟩ := Go.Deep.choose_lt each
    have hab : a.block < W.heap.size := by
      have hl0 : 0 < (cs (F 0)).length := by rw [hlen]; exact hn
      have := World.block_lt_of_cell? W _ ((hF 0 h0).1 0 _ (List.getElem?_eq_getElem hl0))
      rwa [block_of_add] at this
    obtain ⟨us, hus⟩ : ∃ us, us = (List.range len).map fun i => (F i).1 := ⟨_, rfl⟩
    obtain ⟨l, hll⟩ : ∃ l, l = (List.range len).map fun i => (F i).2 := ⟨_, rfl⟩
    have hul : us.length = len := by rw [hus]; simp
    have hl' : l.length = len := by rw [hll]; simp
    have hz : (us.zip l).length = len := by simp [hul, hl']
    have hget : ∀ i (h : i < len), us[i]? = some (F i).1 ∧ l[i]? = some (F i).2 := fun i h => by rw [hus, hll]; simp [h]
    have hfl : ((us.zip l).flatMap cs).length = len * n := by rw [flat_len cs n hlen, hz]
    refine ⟨l, ⟨us, by omega, ⟨some a, cap, by rw [hz], by omega, hm, ⟨by rw [hfl, hz], fun _ => ⟨a, rfl, hab, fun j y hy => ?_⟩⟩⟩, fun i u e h1 h2 => ?_⟩, fun b hb => ?_⟩
    · have hj : j < len * n := by
        have := (List.getElem?_eq_some_iff.1 hy).1
        rwa [hfl] at this
      have hi : j / n < len := (Nat.div_lt_iff_lt_mul hn).2 hj
      have hjd : j / n * n + j % n = j := Nat.div_add_mod' j n
      have e3 := flat_at cs n hlen (us.zip l) (j / n) (j % n) (by omega) (Nat.mod_lt _ hn)
      rw [hjd, hy] at e3
      have e4 : (us.zip l)[j / n]'(by omega) = F (j / n) := by
        have h1 := (hget (j / n) hi).1
        have h2 := (hget (j / n) hi).2
        rw [List.getElem?_eq_getElem (by omega)] at h1 h2
        injection h1 with h1
        injection h2 with h2
        rw [List.getElem_zip, h1, h2]
      rw [e4] at e3
      have := (hF (j / n) hi).1 (j % n) y e3.symm
      rwa [hjd] at this
    · have hi : i < len := by
        have := (List.getElem?_eq_some_iff.1 h1).1
        omega
      obtain ⟨g1, g2⟩ := hget i hi
      have h1 : (F i).1 = u := Option.some.inj (g1.symm.trans h1)
      have h2 : (F i).2 = e := Option.some.inj (g2.symm.trans h2)
      rw [← h1, ← h2]
      exact (hF i hi).2.1
    · obtain ⟨i, hi, rfl⟩ := List.mem_iff_getElem.1 hb
      have hi' : i < len := by omega
      have h2 := (hget i hi').2
      rw [List.getElem?_eq_getElem hi] at h2
      injection h2 with h2
      rw [h2]
      exact (hF i hi').2.2
def cI : Codec Tryz.prog 3 Int := cInt .i64 Tryz.underlying3 (by kernel_rfl)
def cJ : Codec Tryz.prog 2 Int := cInt .i64 Tryz.underlying2 (by kernel_rfl)
def cO : Codec Tryz.prog 4 Bool := cBool Tryz.underlying4 (by kernel_rfl)
def cS : Codec Tryz.prog 9 (List UInt8) := cStr Tryz.underlying9 (by kernel_rfl)
set_option maxRecDepth 100000 in
def cVal : Codec Tryz.prog 31 Val :=
  cStruct (fcons 0 1 cI (fcons 1 1 cJ (fcons 2 1 cS fnil))) (fun x => ⟨x.1, x.2.1, x.2.2.1⟩) Tryz.underlying31
theorem wf_i64B {n : Int} (h : (Lit.int .i64 n).wf = true) : i64B n = true := by
  have := i64_of_wf h
  simpa [i64B] using this
theorem cVal_ok {w : World} {S : Nat → Prop} {vs : List Value} {t : Val} (h : cVal.ok w S vs t) : vs = valCs t ∧ i64B t.n = true ∧ t.s.length ≤ maxLen := by
  obtain ⟨hlen, ⟨x0, x1, x2, x3⟩, hx, ⟨h0, k0⟩, ⟨h1, k1⟩, ⟨h2, k2⟩, -⟩ := h
  have hlen : vs.length = 3 := hlen.trans (by kernel_rfl)
  match vs, hlen with
  | [a0, a1, a2], _ =>
    obtain rfl := (List.cons.inj h0).1
    obtain rfl := (List.cons.inj h1).1
    obtain rfl := (List.cons.inj h2).1
    subst hx
    exact ⟨rfl, wf_i64B k1, k2⟩
theorem agg_of {v : Value} {l : List Value} (h : v.cells.toList = l) (hl : 2 ≤ l.length) : v = .agg l.toArray := by
  cases v <;> first
    | (simp [Value.cells] at h; subst h; simp at hl; done)
    | (simp [Value.cells] at h; subst h; simp)
section
variable {H : Type} {enc : TypeId × Value → H} {W : World}
theorem ExR.mk_ {W : World} {S : Nat → Prop} {k : Int} {s : List UInt8} {v : Val} {u : Value} {l : List Ex} (h : LsR exCsP 6 ExR W S u l) : ExR W S u (.mk k s v l) := by
  obtain ⟨us, h1, ⟨A, c, rfl, h3, h4, h5⟩, h6⟩ := h
  have hz : (us.zip l).length = l.length := by simp [h1]
  rw [hz] at h3 h5 ⊢
  exact .mk k s v l us A c h1 h3 h4 h5 h6
set_option maxRecDepth 100000 in
theorem ex_opens : ∀ (fuel : Nat) (cs : List Value) (x : DataW H × List MemPlace), DataW.trod enc Tryz.prog W 0 (fun _ => true) true fuel 34 cs = some x → ∃ u e, cs = exCs u e ∧ ExR W (· < W.heap.size) u e ∧ ExI e := by
  intro fuel
  induction fuel using Nat.strongRecOn with
  | ind fuel ih =>
  intro cs x h
  obtain ⟨xs, n, hn, _, hlen, hxl, hf⟩ := DataW.trod_struct Tryz.underlying34 h
  have hlen : cs.length = 6 := hlen.trans (by kernel_rfl)
  have hxl : xs.length = 4 := hxl
  match cs, hlen with
  | [a0, a1, a2, a3, a4, a5], _ =>
  have f0 := hf 0 _ rfl
  have f1 := hf 1 _ rfl
  have f2 := hf 2 _ rfl
  have f3 := hf 3 _ rfl
  rw [List.getElem?_eq_getElem (by omega)] at f0 f1 f2 f3
  have f0 : DataW.trod enc Tryz.prog W 0 (fun _ => true) true n 3 [a0] = some xs[0] := f0
  have f1 : DataW.trod enc Tryz.prog W 0 (fun _ => true) true n 9 [a1] = some xs[1] := f1
  have f2 : DataW.trod enc Tryz.prog W 0 (fun _ => true) true n 31 [a2, a3, a4] = some xs[2] := f2
  have f3 : DataW.trod enc Tryz.prog W 0 (fun _ => true) true n 32 [a5] = some xs[3] := f3
  obtain ⟨k, hk, -⟩ := cI.opens f0
  obtain ⟨s, hs, -⟩ := cS.opens f1
  obtain ⟨v, hv⟩ := cVal.opens f2
  obtain ⟨hv, hvi, -⟩ := cVal_ok hv
  simp only [valCs, List.cons.injEq, and_true] at hk hs hv
  obtain ⟨rfl, rfl, rfl⟩ := hv
  subst hk hs
  obtain ⟨l, hl, hq⟩ := ls_opens (cs := exCsP) (n := 6) (ok := ExR) (Q := ExI) (by omega) (fun _ => rfl) Tryz.underlying32 (by kernel_rfl) (fun m hm ws y hy => ih m (by omega) ws y hy) f3
  exact ⟨a5, .mk k s v l, rfl, ExR.mk_ hl, .mk hvi hq⟩
set_option maxRecDepth 100000 in
theorem it_opens (fuel : Nat) (cs : List Value) (x : DataW H × List MemPlace) (h : DataW.trod enc Tryz.prog W 0 (fun _ => true) true fuel 63 cs = some x) : ∃ u a, cs = itCs (u, a) ∧ itOk W (· < W.heap.size) u a ∧ ExI a.e := by
  obtain ⟨xs, n, hn, _, hlen, hxl, hf⟩ := DataW.trod_struct Tryz.underlying63 h
  have hlen : cs.length = 7 := hlen.trans (by kernel_rfl)
  have hxl : xs.length = 2 := hxl
  match cs, hlen with
  | [a0, a1, a2, a3, a4, a5, a6], _ =>
  have f0 := hf 0 _ rfl
  have f1 := hf 1 _ rfl
  rw [List.getElem?_eq_getElem (by omega)] at f0 f1
  have f0 : DataW.trod enc Tryz.prog W 0 (fun _ => true) true n 3 [a0] = some xs[0] := f0
  have f1 : DataW.trod enc Tryz.prog W 0 (fun _ => true) true n 34 [a1, a2, a3, a4, a5, a6] = some xs[1] := f1
  obtain ⟨k, hk, -⟩ := cI.opens f0
  obtain ⟨u, e, he, hr, hi⟩ := ex_opens _ _ _ f1
  simp only [List.cons.injEq, and_true] at hk
  subst hk
  exact ⟨u, ⟨k, e⟩, by rw [he]; rfl, hr, hi⟩
set_option maxRecDepth 100000 in
theorem as_opens (fuel : Nat) (cs : List Value) (x : DataW H × List MemPlace) (h : DataW.trod enc Tryz.prog W 0 (fun _ => true) true fuel 65 cs = some x) : ∃ u a, cs = asCs (u, a) ∧ asOk W (· < W.heap.size) u a ∧ ExI a.e := by
  obtain ⟨xs, n, hn, _, hlen, hxl, hf⟩ := DataW.trod_struct Tryz.underlying65 h
  have hlen : cs.length = 7 := hlen.trans (by kernel_rfl)
  have hxl : xs.length = 2 := hxl
  match cs, hlen with
  | [a0, a1, a2, a3, a4, a5, a6], _ =>
  have f0 := hf 0 _ rfl
  have f1 := hf 1 _ rfl
  rw [List.getElem?_eq_getElem (by omega)] at f0 f1
  have f0 : DataW.trod enc Tryz.prog W 0 (fun _ => true) true n 9 [a0] = some xs[0] := f0
  have f1 : DataW.trod enc Tryz.prog W 0 (fun _ => true) true n 34 [a1, a2, a3, a4, a5, a6] = some xs[1] := f1
  obtain ⟨k, hk, -⟩ := cS.opens f0
  obtain ⟨u, e, he, hr, hi⟩ := ex_opens _ _ _ f1
  simp only [List.cons.injEq, and_true] at hk
  subst hk
  exact ⟨u, ⟨k, e⟩, by rw [he]; rfl, hr, hi⟩
set_option maxRecDepth 100000 in
theorem rw_opens (fuel : Nat) (cs : List Value) (x : DataW H × List MemPlace) (h : DataW.trod enc Tryz.prog W 0 (fun _ => true) true fuel 32 cs = some x) : ∃ (u : Value) (a : List Ex), cs = rwCs (u, a) ∧ rwOk W (· < W.heap.size) u a ∧ ∀ e ∈ a, ExI e := by
  have hc : ∃ v, cs = [v] := by
    rcases DataW.trod_slice Tryz.underlying32 h with ⟨h0, -⟩ | ⟨a, len, cap, elems, rest, n', _, h0, -⟩
    · exact ⟨_, h0⟩
    · exact ⟨_, h0⟩
  obtain ⟨v, rfl⟩ := hc
  obtain ⟨l, hl, hq⟩ := ls_opens (cs := exCsP) (n := 6) (ok := ExR) (Q := ExI) (by omega) (fun _ => rfl) Tryz.underlying32 (by kernel_rfl) (fun m hm ws y hy => ex_opens m ws y hy) h
  exact ⟨v, l, rfl, (ExR.mk_ (k := 0) (s := []) (v := .zero) hl).toL, hq⟩
set_option maxRecDepth 100000 in
set_option maxHeartbeats 1000000 in
theorem st_opens (fuel : Nat) (cs : List Value) (x : DataW H × List MemPlace) (h : DataW.trod enc Tryz.prog W 0 (fun _ => true) true fuel 44 cs = some x) : ∃ u a, cs = stCsP (u, a) ∧ StR W (· < W.heap.size) u a ∧ StI a := by
  obtain ⟨xs, n, hn, _, hlen, hxl, hf⟩ := DataW.trod_struct Tryz.underlying44 h
  have hlen : cs.length = 15 := hlen.trans (by kernel_rfl)
  have hxl : xs.length = 10 := hxl
  match cs, hlen with
  | [a0, a1, a2, a3, a4, a5, a6, a7, a8, a9, a10, a11, a12, a13, a14], _ =>
  have f0 := hf 0 _ rfl
  have f1 := hf 1 _ rfl
  have f2 := hf 2 _ rfl
  have f3 := hf 3 _ rfl
  have f4 := hf 4 _ rfl
  have f5 := hf 5 _ rfl
  have f6 := hf 6 _ rfl
  have f7 := hf 7 _ rfl
  have f8 := hf 8 _ rfl
  have f9 := hf 9 _ rfl
  rw [List.getElem?_eq_getElem (by omega)] at f0 f1 f2 f3 f4 f5 f6 f7 f8 f9
  have f0 : DataW.trod enc Tryz.prog W 0 (fun _ => true) true n 3 [a0] = some xs[0] := f0
  have f1 : DataW.trod enc Tryz.prog W 0 (fun _ => true) true n 9 [a1] = some xs[1] := f1
  have f2 : DataW.trod enc Tryz.prog W 0 (fun _ => true) true n 40 [a2] = some xs[2] := f2
  have f3 : DataW.trod enc Tryz.prog W 0 (fun _ => true) true n 41 [a3] = some xs[3] := f3
  have f4 : DataW.trod enc Tryz.prog W 0 (fun _ => true) true n 42 [a4] = some xs[4] := f4
  have f5 : DataW.trod enc Tryz.prog W 0 (fun _ => true) true n 4 [a5] = some xs[5] := f5
  have f6 : DataW.trod enc Tryz.prog W 0 (fun _ => true) true n 34 [a6, a7, a8, a9, a10, a11] = some xs[6] := f6
  have f7 : DataW.trod enc Tryz.prog W 0 (fun _ => true) true n 9 [a12] = some xs[7] := f7
  have f8 : DataW.trod enc Tryz.prog W 0 (fun _ => true) true n 4 [a13] = some xs[8] := f8
  have f9 : DataW.trod enc Tryz.prog W 0 (fun _ => true) true n 2 [a14] = some xs[9] := f9
  obtain ⟨k, hk, -⟩ := cI.opens f0
  obtain ⟨t, ht, -⟩ := cS.opens f1
  obtain ⟨is, his, hiq⟩ := ls_opens (cs := itCs) (n := 7) (ok := itOk) (Q := fun a : Itm => ExI a.e) (by omega) (fun _ => rfl) Tryz.underlying40 (by kernel_rfl) (fun m hm ws y hy => it_opens m ws y hy) f2
  obtain ⟨rs, hrs, hrq⟩ := ls_opens (cs := rwCs) (n := 1) (ok := rwOk) (Q := fun a : List Ex => ∀ e ∈ a, ExI e) (by omega) (fun _ => rfl) Tryz.underlying41 (by kernel_rfl) (fun m hm ws y hy => rw_opens m ws y hy) f3
  obtain ⟨ss, hss, hsq⟩ := ls_opens (cs := asCs) (n := 7) (ok := asOk) (Q := fun a : Asn => ExI a.e) (by omega) (fun _ => rfl) Tryz.underlying42 (by kernel_rfl) (fun m hm ws y hy => as_opens m ws y hy) f4
  obtain ⟨b, hb⟩ := cO.opens f5
  have hb : [a5] = [.bool b] := hb
  obtain ⟨u, e, he, hr, hi⟩ := ex_opens _ _ _ f6
  obtain ⟨o, ho, -⟩ := cS.opens f7
  obtain ⟨d, hd⟩ := cO.opens f8
  have hd : [a13] = [.bool d] := hd
  obtain ⟨z, hz, kz⟩ := cJ.opens f9
  simp only [List.cons.injEq, and_true] at hk ht hb ho hd hz
  subst hk ht hb ho hd hz
  simp only [exCs, List.cons.injEq, and_true] at he
  obtain ⟨rfl, rfl, rfl, rfl, rfl, rfl⟩ := he
  exact ⟨⟨a2, a3, a4, _⟩, ⟨k, t, is, rs, ss, b, e, o, d, z⟩, rfl, ⟨his, hrs, hss, hr⟩, ⟨hiq, hrq, hsq, hi, wf_i64B kz⟩⟩
set_option maxRecDepth 100000 in
theorem open_lot {base : Nat} {v : Value} {d : DataW H} {ps : List MemPlace} (h : DataW.Trod enc Tryz.prog W 0 (fun _ => true) true 25 v d ps) : ∃ u l, v = ltV u l ∧ LtR W (fun _ => True) u l ∧ LotI l := by
  obtain ⟨fuel, hfu⟩ := h
  obtain ⟨xs, n, hn, _, hlen, hxl, hf⟩ := DataW.trod_struct Tryz.underlying25 hfu
  have hlen : v.cells.toList.length = 3 := hlen.trans (by kernel_rfl)
  have hxl : xs.length = 3 := hxl
  obtain ⟨cs, hcs⟩ : ∃ cs, cs = v.cells.toList := ⟨_, rfl⟩
  rw [← hcs] at hlen hf
  match cs, hlen, hcs with
  | [a0, a1, a2], _, hcs =>
  have f0 := hf 0 _ rfl
  have f1 := hf 1 _ rfl
  have f2 := hf 2 _ rfl
  rw [List.getElem?_eq_getElem (by omega)] at f0 f1 f2
  have f0 : DataW.trod enc Tryz.prog W 0 (fun _ => true) true n 3 [a0] = some xs[0] := f0
  have f1 : DataW.trod enc Tryz.prog W 0 (fun _ => true) true n 2 [a1] = some xs[1] := f1
  have f2 : DataW.trod enc Tryz.prog W 0 (fun _ => true) true n 23 [a2] = some xs[2] := f2
  obtain ⟨k, hk, -⟩ := cI.opens f0
  obtain ⟨z, hz, kz⟩ := cJ.opens f1
  obtain ⟨ss, hss, hsq⟩ := ls_opens (cs := stCsP) (n := 15) (ok := StR) (Q := StI) (by omega) (fun _ => rfl) Tryz.underlying23 (by kernel_rfl) (fun m hm ws y hy => st_opens m ws y hy) f2
  simp only [List.cons.injEq, and_true] at hk hz
  subst hk hz
  exact ⟨a2, ⟨k, z, ss⟩, agg_of hcs.symm (by simp), LsR.mono stK (by omega) hss (fun _ _ _ => trivial), ⟨wf_i64B kz, hsq⟩⟩
end
end Go.Proofs.YtdfojghhpdkpfaaGreatDoor
