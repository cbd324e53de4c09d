/-
  The walks of schema.Col and expr.small.
-/
import Derived.Test.YtakbikibahhepaaExW8
set_option linter.unusedSimpArgs false
set_option linter.unusedVariables false
namespace Go.Proofs.Ytakbikibahhepaa
open Go.RowKit

def colCs (c : Clm) : List Value := [.string (str c.nm), .int .i64 c.kind, .bool c.null]
abbrev colV (c : Clm) : Value := .agg #[.string (str c.nm), .int .i64 c.kind, .bool c.null]
theorem colCs_len (c : Clm) : (colCs c).length = 3 := rfl
abbrev ClR (w : World) (S : Nat → Prop) (v : Value) (l : List Clm) : Prop := RowR colCs 3 w S v l
theorem ClR.form {w : World} {S : Nat → Prop} {v : Value} {l : List Clm} (h : ClR w S v l) : ∃ A c, v = .slice A l.length c ∧ l.length ≤ c ∧ c ≤ maxLen := by
  obtain ⟨A, c, h1, h2, h3, _⟩ := h
  exact ⟨A, c, h1, h2, h3⟩
theorem ClR.cells {w : World} {S : Nat → Prop} {A : Option Addr} {n c : Nat} {l : List Clm} (h : ClR w S (.slice A n c) l) {i : Nat} (hi : i < l.length) : ∃ ad, A = some ad ∧ S ad.block ∧
    w.cell? (ad.add (i * 3)) = some (.string (str l[i].nm)) ∧ w.cell? ⟨(ad.add (i * 3)).block, (ad.add (i * 3)).off + 1, none⟩ = some (.int .i64 l[i].kind) ∧ w.cell? ⟨(ad.add (i * 3)).block, (ad.add (i * 3)).off + 2, none⟩ = some (.bool l[i].null) := by
  obtain ⟨ad, c, h1, h2, h3, h4, h5⟩ := RowR.at_ h colCs_len hi
  injection h1 with h1 _ _
  exact ⟨ad, h1, h4, by have := h5 0 (by omega); rwa [add_zero] at this, h5 1 (by omega), h5 2 (by omega)⟩
/-- A place, or -1. -/
def idxI : Option Nat → Int
  | none => -1
  | some i => i
/-- What a table holds beside its columns. -/
structure TabT where
  nm : List UInt8
  key : Int
  place : Int
  region : Int
  v1 : Value
  v2 : Value
  v3 : Value
  elect : Int
  commit : Int
  survive : Int
def tabCs (u : Value) (t : TabT) : List Value := [.string (str t.nm), u, .int .i64 t.key, .int .i64 t.place, .int .i64 t.region, t.v1, t.v2, t.v3, .int .i64 t.elect, .int .i64 t.commit, .int .i64 t.survive]
abbrev tabV (u : Value) (t : TabT) : Value := .agg #[.string (str t.nm), u, .int .i64 t.key, .int .i64 t.place, .int .i64 t.region, t.v1, t.v2, t.v3, .int .i64 t.elect, .int .i64 t.commit, .int .i64 t.survive]
/-- The three slices of a table's zone. -/
def TabT.ok (t : TabT) : Prop := ∃ a1 n1 c1 a2 n2 c2 a3 n3 c3, t.v1 = .slice a1 n1 c1 ∧ t.v2 = .slice a2 n2 c2 ∧ t.v3 = .slice a3 n3 c3
set_option maxHeartbeats 400000 in
theorem col1_any (c : Clm) (s : List UInt8) (g : Nat) (w : World) (hg : w.cell? ⟨g, 0, none⟩ = some (.string (str s))) :
    Calls Try.prog 46 #[colV c, .pointer (some ⟨g, 0, none⟩)] w (BoolP (decide (c.nm = s)) w) := by
  have hlt := World.block_lt_of_cell? w _ hg
  by_cases h : c.nm = s
  · have b : (c.nm == s) = true := by simpa using h
    rw [show decide (c.nm = s) = true from by simpa using h]
    have H := Lib.hid h
    clear h
    go_enter Try.func46, Try.ntmps46
    go_wp2
    go_ret
    exact ⟨by simp [H.out], (Same.refl _ _).alloc _⟩
  · have b : (c.nm == s) = false := by simpa using h
    rw [show decide (c.nm = s) = false from by simpa using h]
    have H := Lib.hid h
    go_enter Try.func46, Try.ntmps46
    go_wp2
    go_ret
    exact ⟨by simp [H.out], (Same.refl _ _).alloc _⟩
/-- Where a name is first met, from a place on. -/
def colAt (l : List Clm) (s : List UInt8) (j : Nat) : Int := match colF (l.drop j) s with | none => -1 | some i => (j + i : Nat)
theorem colAt_step {l : List Clm} {s : List UInt8} {j : Nat} (h : j < l.length) : colAt l s j = if l[j].nm = s then (j : Int) else colAt l s (j + 1) := by
  unfold colAt
  rw [drop_cons h, colF]
  by_cases h1 : l[j].nm = s
  · rw [if_pos h1, if_pos h1]; simp
  · rw [if_neg h1, if_neg h1]
    cases colF (l.drop (j + 1)) s with
    | none => rfl
    | some i => simp only [Option.map_some]; omega
theorem colAt_end {l : List Clm} {s : List UInt8} : colAt l s l.length = -1 := by
  unfold colAt
  rw [List.drop_length]
  rfl
theorem colAt_zero (l : List Clm) (s : List UInt8) : colAt l s 0 = idxI (colF l s) := by
  unfold colAt
  rw [List.drop_zero]
  cases colF l s with
  | none => rfl
  | some i => simp [idxI]
set_option maxHeartbeats 1000000 in
theorem idxfunc_any (v : Value) (l : List Clm) (s : List UInt8) (g : Nat) (S : Nat → Prop) (w : World) (hv : ClR w S v l) (hg : w.cell? ⟨g, 0, none⟩ = some (.string (str s))) :
    Calls Try.prog 45 #[v, .func (.func 46) #[] #[.pointer (some ⟨g, 0, none⟩)]] w (fun e w' => e = .returned (.int .i64 (idxI (colF l s))) ∧ Same (fun _ => True) w w') := by
  obtain ⟨A, cp, rfl, hc, hm⟩ := hv.form
  have Hv := Lib.hid hv
  have Hg := Lib.hid hg
  unfold maxLen at hm
  clear hv
  go_enter Try.func45, Try.ntmps45
  go_wp2
  go_loopw [5, 8] (fun _ i wr => ∃ j : Nat, j ≤ l.length ∧ i = .int .i64 j ∧ idxI (colF l s) = colAt l s j ∧ Same (fun _ => True) w wr) (fun _ i _ => l.length - (intOf i).toNat)
  case atStart => exact ⟨0, Nat.zero_le _, rfl, (colAt_zero _ _).symm, Same.refl _ _⟩
  case round =>
    obtain ⟨j, hj, rfl, hrel, hS⟩ := hrel
    have Hrel := Lib.hid hrel
    have HS := Lib.hid hS
    clear hrel
    by_cases hlt : j < l.length
    · obtain ⟨ad, rfl, -, d0, d1, d2⟩ := ClR.cells (RowR.keepAll Hv.out hS) hlt
      have hd := colAt_step (s := s) hlt
      have x1 : (0 : Int) ≤ (j : Int) := by omega
      have x2 : (j : Int) < (l.length : Int) := by omega
      generalize l[j] = x at *
      have Hd := Lib.hid hd
      have gc := fun W h => col1_any x s g W h
      have g1 := hS.cell (p := ⟨g, 0, none⟩) trivial Hg.out
      clear hd hS hg
      by_cases h1 : x.nm = s
      · have K := Hrel.out.trans (Hd.out.trans (if_pos h1))
        rw [show decide (x.nm = s) = true from by simpa using h1] at gc
        have HK := Lib.hid K
        clear K h1
        go_wp2_with (go_at_call 46; refine stopAt ?_)
        unfold Hid
        refine (gc _ g1).mono ?_
        rintro e w3 ⟨rfl, hS3⟩
        have HS3 := Lib.hid hS3
        clear hS3
        go_wp2
        go_ret
        exact ⟨ret_i64 HK.out.symm, HS.out.trans HS3.out⟩
      · have K := Hrel.out.trans (Hd.out.trans (if_neg h1))
        rw [show decide (x.nm = s) = false from by simpa using h1] at gc
        have HK := Lib.hid K
        clear K h1
        go_wp2_with (go_at_call 46; refine stopAt ?_)
        unfold Hid
        refine (gc _ g1).mono ?_
        rintro e w3 ⟨rfl, hS3⟩
        have HS3 := Lib.hid hS3
        clear hS3
        go_wp2
        go_roundw
        case rel => exact ⟨j + 1, by omega, by go_num, HK.out, HS.out.trans HS3.out⟩
        case measure => simp [intOf]; omega
    · obtain rfl : j = l.length := by omega
      have K := Hrel.out.trans colAt_end
      have HK := Lib.hid K
      clear K hS
      go_wp2
      go_ret
      exact ⟨ret_i64 HK.out.symm, HS.out⟩
set_option maxHeartbeats 1000000 in
theorem excol_any (u : Value) (t : TabT) (l : List Clm) (s : List UInt8) (S : Nat → Prop) (w : World) (hv : ClR w S u l) (ht : t.ok) :
    Calls Try.prog 33 #[tabV u t, .string (str s)] w (fun e w' => e = .returned (.int .i64 (idxI (colF l s))) ∧ Same (fun _ => True) w w') := by
  obtain ⟨A, cp, rfl, hc, hm⟩ := hv.form
  obtain ⟨a1, n1, c1, a2, n2, c2, a3, n3, c3, e1, e2, e3⟩ := ht
  obtain ⟨nm, key, place, region, v1, v2, v3, elect, commit, survive⟩ := t
  simp only at e1 e2 e3
  subst e1 e2 e3
  have Hv := Lib.hid hv
  have hS0 := ((Same.refl (fun _ => True) w).alloc (.cells (tabCs (.slice A l.length cp) ⟨nm, key, place, region, .slice a1 n1 c1, .slice a2 n2 c2, .slice a3 n3 c3, elect, commit, survive⟩).toArray 32)).alloc (.cells #[.string (str s)] 9)
  have hr := Row.new (w.alloc (.cells (tabCs (.slice A l.length cp) ⟨nm, key, place, region, .slice a1 n1 c1, .slice a2 n2 c2, .slice a3 n3 c3, elect, commit, survive⟩).toArray 32)) 9 [.string (str s)]
  rw [World.size_alloc] at hr
  have HS0 := Lib.hid hS0
  have Hr := Lib.hid hr
  clear hv hS0 hr
  go_enter Try.func33, Try.ntmps33
  go_wp2_with (go_at_call 45; refine stopAt ?_)
  unfold Hid
  refine (idxfunc_any _ l s (w.heap.size + 1) S _ (RowR.keepAll Hv.out HS0.out) (Hr.out.cell 0)).mono ?_
  rintro e w3 ⟨rfl, hS3⟩
  have HS3 := Lib.hid hS3
  clear hS3
  go_wp2
  go_ret
  exact ⟨rfl, HS0.out.trans HS3.out⟩
end Go.Proofs.Ytakbikibahhepaa
