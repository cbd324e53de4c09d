/-
  Records one behind the other: what a scan collects; the walk of frame's Scan.
-/
import Derived.Test.YtpjinngngbifoaaFrmW
set_option linter.unusedSimpArgs false
set_option linter.unusedVariables false
namespace Go.Proofs.Ytpjinngngbifoaa
open Go.RowKit

/-- Records l stand one behind the other from the front on, up to a place. -/
inductive Reach (b : List UInt8) : List (List UInt8) → Nat → Prop
  | nil : Reach b [] 0
  | snoc {l : List (List UInt8)} {a n : Nat} {r : List UInt8} : Reach b l a → nextF b a = (r, (n : Int), 0) → Reach b (l ++ [r]) n
/-- What a scan gives. -/
def ScanF (b : List UInt8) (l : List (List UInt8)) (a : Nat) : Prop := Reach b l a ∧ (nextF b a).2.2 ≠ 0
/-- A record that is there: where it lies. -/
theorem nextF_ok {b : List UInt8} {a : Int} {r : List UInt8} {n : Int} (h : nextF b a = (r, n, 0)) :
    0 ≤ a ∧ n = a + 8 + r.length ∧ n ≤ b.length ∧ r.length ≤ 1048576 ∧ getN ((b.drop a.toNat).take 4) = r.length ∧ r = ((b.drop a.toNat).drop 8).take r.length ∧
      (ofF [(b.drop a.toNat).take 4, r]).toNat = getN (((b.drop a.toNat).drop 4).take 4) := by
  unfold nextF at h
  split at h
  · simp at h
  rename_i h1
  split at h
  · simp at h
  rename_i h2
  split at h
  · simp at h
  rename_i h3
  split at h
  · simp at h
  rename_i h4
  split at h
  · simp at h
  rename_i h5
  simp only [Prod.mk.injEq, and_true] at h
  obtain ⟨h6, h7⟩ := h
  have hd : (b.drop a.toNat).length = b.length - a.toNat := List.length_drop
  have hl : r.length = getN ((b.drop a.toNat).take 4) := by rw [← h6, List.length_take, List.length_drop]; omega
  rw [← hl] at h6 h7 h3 h4 h5
  refine ⟨by omega, by omega, by omega, by omega, hl.symm, by rw [hl]; rw [hl] at h6; exact h6.symm, ?_⟩
  rw [h6] at h5
  exact Classical.byContradiction h5
theorem nextF_nat {b : List UInt8} {a : Nat} {r : List UInt8} {n : Int} (h : nextF b a = (r, n, 0)) : n = ((a + 8 + r.length : Nat) : Int) ∧ a + 8 + r.length ≤ b.length := by
  have h2 := nextF_ok h
  omega
theorem Reach.le {b : List UInt8} {l : List (List UInt8)} {a : Nat} (h : Reach b l a) : a ≤ b.length ∧ 8 * l.length ≤ a := by
  induction h with
  | nil => simp
  | snoc h1 h2 ih =>
    have := nextF_nat h2
    simp
    omega
/-- A scan's answer is one. -/
theorem Reach.next {b : List UInt8} {l m : List (List UInt8)} {a c : Nat} (h : Reach b l a) (h' : Reach b m c) : (∃ k, m = l ++ k) ∨ (∃ k, l = m ++ k) := by
  have key : ∀ (l : List (List UInt8)) (a : Nat), Reach b l a → ∀ (m : List (List UInt8)) (c : Nat), Reach b m c → l.length ≤ m.length → ∃ k, m = l ++ k := by
    intro l a h m c h'
    induction h' with
    | nil => intro hl; have : l = [] := List.eq_nil_of_length_eq_zero (by simpa using hl); exact ⟨[], by rw [this]; rfl⟩
    | @snoc m c n r h1 h2 ih =>
      intro hl
      rcases Nat.lt_or_ge m.length l.length with hlt | hge
      · -- l has as many as m ++ [r]
        have : ∀ (l : List (List UInt8)) (a : Nat), Reach b l a → ∀ (m : List (List UInt8)) (c : Nat), Reach b m c → l.length = m.length → l = m ∧ a = c := by
          intro l a h
          induction h with
          | nil => intro m c h' hl; cases h' with
            | nil => exact ⟨rfl, rfl⟩
            | snoc h1 h2 => simp at hl
          | snoc h1 h2 ih => intro m c h' hl; cases h' with
            | nil => simp at hl
            | snoc h3 h4 =>
              obtain ⟨rfl, rfl⟩ := ih _ _ h3 (by simpa using hl)
              rw [h2] at h4
              simp only [Prod.mk.injEq, and_true] at h4
              obtain ⟨rfl, h5⟩ := h4
              exact ⟨rfl, by omega⟩
        obtain ⟨rfl, -⟩ := this l a h (m ++ [r]) n (.snoc h1 h2) (by simp at hl ⊢; omega)
        exact ⟨[], by simp⟩
      · obtain ⟨k, rfl⟩ := ih hge
        exact ⟨k ++ [r], by simp⟩
  rcases Nat.le_total l.length m.length with hl | hl
  · exact .inl (key l a h m c h' hl)
  · exact .inr (key m c h' l a h hl)
theorem Reach.same {b : List UInt8} {l m : List (List UInt8)} {a c : Nat} (h : Reach b l a) (h' : Reach b m c) (hl : l.length = m.length) : l = m ∧ a = c := by
  induction h generalizing m c with
  | nil => cases h' with
    | nil => exact ⟨rfl, rfl⟩
    | snoc h1 h2 => simp at hl
  | snoc h1 h2 ih => cases h' with
    | nil => simp at hl
    | snoc h3 h4 =>
      obtain ⟨rfl, rfl⟩ := ih h3 (by simpa using hl)
      rw [h2] at h4
      simp only [Prod.mk.injEq, and_true] at h4
      obtain ⟨rfl, h5⟩ := h4
      exact ⟨rfl, by omega⟩
/-- The beginnings of what was reached were reached, each by the next record. -/
theorem Reach.front {b : List UInt8} {l : List (List UInt8)} {a : Nat} (h : Reach b l a) : ∀ i (hi : i < l.length), ∃ c n : Nat, Reach b (l.take i) c ∧ nextF b c = (l[i], (n : Int), 0) := by
  induction h with
  | nil => intro i hi; simp at hi
  | @snoc l a n r h1 h2 ih =>
    intro i hi
    by_cases hlt : i < l.length
    · obtain ⟨c, m, h3, h4⟩ := ih i hlt
      refine ⟨c, m, ?_, ?_⟩
      · rw [List.take_append_of_le_length (by omega)]; exact h3
      · rw [List.getElem_append_left hlt]; exact h4
    · have : i = l.length := by simp at hi; omega
      subst this
      exact ⟨a, n, by simpa using h1, by simpa using h2⟩
theorem ScanF.uniq {b : List UInt8} {l m : List (List UInt8)} {a c : Nat} (h : ScanF b l a) (h' : ScanF b m c) : l = m ∧ a = c := by
  have key : ∀ (l m : List (List UInt8)) (a c : Nat), ScanF b l a → ScanF b m c → m.length ≤ l.length := by
    intro l m a c h h'
    rcases Nat.lt_or_ge l.length m.length with hlt | hge
    · obtain ⟨d, n, h3, h4⟩ := h'.1.front l.length hlt
      obtain ⟨-, rfl⟩ := h.1.same h3 (by simp; omega)
      have := h.2
      rw [h4] at this
      simp at this
    · exact hge
  exact h.1.same h'.1 (Nat.le_antisymm (key m l c a h' h) (key l m a c h h'))

/-- A list of records that the call owns, each in a row of its own. -/
def OwnRecs (w : World) (B : Nat) (v : Value) (l : List (List UInt8)) : Prop :=
  ∃ vs, w.ownsRow B 24 1 v l.length vs ∧ (∀ (i : Nat) (u : Value) (x : List UInt8), vs[i]? = some u → l[i]? = some x → OwnB w B u x) ∧
    ∀ (i j : Nat) (u u' : Value), i < j → vs[i]? = some u → vs[j]? = some u' → ∀ k, u.ownBlock = some k → u'.ownBlock ≠ some k
theorem OwnRecs.nil (w : World) (B : Nat) : OwnRecs w B (.slice none 0 0) [] := ⟨[], World.ownsRow_nil _ _ _ _, by simp, by simp⟩
theorem OwnRecs.form {w : World} {B : Nat} {v : Value} {l : List (List UInt8)} (h : OwnRecs w B v l) : ∃ A c, v = .slice A l.length c ∧ l.length ≤ c ∧ c ≤ maxLen := by
  obtain ⟨vs, h1, -⟩ := h
  exact own_cap h1
theorem OwnRecs.keepAll {w w' : World} {B : Nat} {v : Value} {l : List (List UInt8)} (h : OwnRecs w B v l) (hs : Same (fun _ => True) w w') : OwnRecs w' B v l := by
  obtain ⟨vs, h1, h2, h3⟩ := h
  exact ⟨vs, own_keepAll h1 hs, fun i u x a b => (h2 i u x a b).keepAll hs, h3⟩
theorem OwnRecs.list {w : World} {B : Nat} {v : Value} {l : List (List UInt8)} (h : OwnRecs w B v l) : ByL w (fun k => B ≤ k) v l := by
  obtain ⟨vs, h1, h2, -⟩ := h
  obtain ⟨A, c, rfl, h4, h5⟩ := own_cap h1
  exact ⟨A, c, vs, rfl, h4, h5, (Sl.of_own h1).mono (fun k _ hk => own_ge h1 hk), fun i u x a b => (h2 i u x a b).by_⟩
theorem own_types {w : World} {B B' : Nat} {v u : Value} {n : Nat} {xs : List Value} {bs : List UInt8} (h : w.ownsRow B 24 1 v n xs) (h' : OwnB w B' u bs) {k : Nat} (hu : u.ownBlock = some k) : v.ownBlock ≠ some k := by
  intro hv
  rcases ownsRow_row h with ⟨rfl, -, -⟩ | ⟨g, cap, cur, rfl, _, hr, _⟩
  · cases hv
  rcases ownsRow_row h' with ⟨rfl, -, -⟩ | ⟨g', cap', cur', rfl, _, hr', _⟩
  · cases hu
  have hv : some g = some k := hv
  have hu : some g' = some k := hu
  injection hv with hv
  injection hu with hu
  subst hv
  exact hr.ne hr' (by decide) hu.symm
/-- One record more. -/
theorem OwnRecs.app {w w' : World} {B B2 : Nat} {v v' u : Value} {l : List (List UInt8)} {x : List UInt8} {vs : List Value}
    (h1 : w.ownsRow B 24 1 v l.length vs) (h2 : ∀ (i : Nat) (u : Value) (x : List UInt8), vs[i]? = some u → l[i]? = some x → OwnB w B u x)
    (h3 : ∀ (i j : Nat) (u u' : Value), i < j → vs[i]? = some u → vs[j]? = some u' → ∀ k, u.ownBlock = some k → u'.ownBlock ≠ some k)
    (hu : OwnB w B2 u x) (hB : B ≤ B2) (hold : ∀ (i : Nat) (u' : Value) (k : Nat), vs[i]? = some u' → u'.ownBlock = some k → k < B2) (hown' : w'.ownsRow B 24 1 v' (l.length + 1) (vs ++ [u])) (hs : Same (fun k => some k ≠ v.ownBlock) w w') :
    OwnRecs w' B v' (l ++ [x]) := by
  have hl : vs.length = l.length := by have := h1.1; omega
  have keepB : ∀ {u : Value} {y : List UInt8} {C : Nat}, OwnB w C u y → OwnB w' C u y := fun {u y C} h => own_keep h hs fun k hk => by
    intro e
    exact own_types h1 h hk e.symm
  refine ⟨vs ++ [u], by simpa using hown', fun i u' x' a b => ?_, fun i j a b hij ha hb k hk => ?_⟩
  · by_cases hi : i < l.length
    · rw [List.getElem?_append_left (by omega)] at a b
      exact keepB (h2 i u' x' a b)
    · rw [List.getElem?_append_right (by omega)] at a b
      rw [hl] at a
      cases hj : i - l.length with
      | zero =>
        rw [hj] at a b
        simp at a b
        subst a b
        exact (keepB hu).lower hB
      | succ j => rw [hj] at a; simp at a
  · by_cases hj : j < vs.length
    · rw [List.getElem?_append_left (by omega)] at ha
      rw [List.getElem?_append_left hj] at hb
      exact h3 i j a b hij ha hb k hk
    · rw [List.getElem?_append_right (by omega)] at hb
      cases hjj : j - vs.length with
      | zero =>
        rw [hjj] at hb
        simp at hb
        subst hb
        have hi : i < vs.length := by omega
        rw [List.getElem?_append_left hi] at ha
        intro e
        have h4 := hold i a k ha hk
        have h5 := (hu.lt_ e).1
        omega
      | succ m => rw [hjj] at hb; simp at hb
def ScanPost (b : List UInt8) (w : World) (e : Ending) (w' : World) : Prop :=
  ∃ u l a, e = .returned (.tuple #[u, .int .i64 ((a : Nat) : Int)]) ∧ ScanF b l a ∧ OwnRecs w' w.heap.size u l ∧ Same (fun _ => True) w w'
theorem rec_lt {w : World} {B : Nat} {vs : List Value} {l : List (List UInt8)} (hl : vs.length = l.length) (h2 : ∀ (i : Nat) (u : Value) (x : List UInt8), vs[i]? = some u → l[i]? = some x → OwnB w B u x) :
    ∀ (i : Nat) (u' : Value) (k : Nat), vs[i]? = some u' → u'.ownBlock = some k → k < w.heap.size := fun i u' k hi hk => by
  have hil : i < vs.length := by
    rcases Nat.lt_or_ge i vs.length with h | h
    · exact h
    · rw [List.getElem?_eq_none h] at hi; cases hi
  exact ((h2 i u' l[i] hi (List.getElem?_eq_getElem (by omega))).lt_ hk).2
set_option maxRecDepth 100000 in
set_option maxHeartbeats 1000000 in
theorem fscan_any (v : Value) (b : List UInt8) (S : Nat → Prop) (w : World) (hv : By w S v b) (hb : b.length ≤ 1000000) :
    Calls Try.prog 64 #[v] w (ScanPost b w) := by
  have hnext := fun W (hs : Same (fun _ => True) w W) a => fnext_any v b a S W (hv.keep (hs.mono fun _ _ _ => trivial)) hb
  obtain ⟨A, ca, rfl, -⟩ := hv
  have HN := Lib.hid hnext
  clear hnext
  have h0 : Hid (OwnRecs w w.heap.size (.slice none 0 0) []) := Lib.hid (OwnRecs.nil _ _)
  go_enter Try.func64, Try.ntmps64
  go_wp2
  go_loopw [2, 3] (fun u a wr => ∃ (l : List (List UInt8)) (n : Nat), a = .int .i64 n ∧ Hid (Reach b l n) ∧ Hid (OwnRecs wr w.heap.size u l) ∧ Hid (Same (fun _ => True) w wr)) (fun _ a _ => b.length - (intOf a).toNat)
  case atStart => exact ⟨[], 0, rfl, Lib.hid .nil, h0, Lib.hid (Same.refl _ _)⟩
  case round =>
    obtain ⟨l, n, rfl, hre, ho, hsm⟩ := hrel
    clear h0
    obtain ⟨A2, c2, rfl, -, -⟩ := ho.out.form
    have hle := hre.out.le
    have hnx := HN.out _ hsm.out (n : Int)
    obtain ⟨r, m, e, hx⟩ : ∃ r m e, nextF b n = (r, m, e) := ⟨_, _, _, rfl⟩
    rw [hx] at hnx
    have HX := Lib.hid hx
    clear hx
    by_cases he : e = 0
    · subst he
      obtain ⟨hm, hml⟩ := nextF_nat HX.out
      subst hm
      go_wp2_with (first | (go_at_call 77; refine hnx.mono ?_; rintro e w1 ⟨u1, rfl, hu1, hs1⟩; obtain ⟨A1, c1, rfl, -, -⟩ := hu1.form) | (at_builtin; refine stopAt ?_))
      unfold Hid
      obtain ⟨vs, h1, h2, h3⟩ := ho.out
      have hz := hsm.out.size
      have hz1 := hs1.size
      have hvl : vs.length = l.length := by have := h1.1; omega
      have hold := rec_lt hvl h2
      have hs2 : Same (fun _ => True) w1 (w1.alloc (.cells #[.slice A1 r.length c1] 24)) := (Same.refl _ _).alloc _
      have hs12 := hs1.trans hs2
      refine wpList_app TL _ rfl (.tmp 18) (.tmp 20) rfl w.heap.size _ l.length vs rfl (own_keepAll h1 hs12) (fun _ => True) (some ⟨w1.heap.size, 0, none⟩) 1 1 [.slice A1 r.length c1] rfl (sl_one _ _ _ _ trivial) (by simp [Value.oneCell']) (by simp only [maxLen]; omega) (by omega) (by simp; omega) ?_
      intro v3 w3 hown3 hs3 _
      have hfin : Hid (OwnRecs w3 w.heap.size v3 (l ++ [r])) := Lib.hid (OwnRecs.app (own_keepAll h1 hs12) (fun i u x a b => (h2 i u x a b).keepAll hs12) h3 (hu1.keepAll hs2) hz hold hown3 hs3)
      have hsm3 : Hid (Same (fun _ => True) w w3) := Lib.hid ((hsm.out.trans hs12).trans' hs3 fun k hk _ e => by have := (h1.lt k e.symm).1; omega)
      have hre3 : Hid (Reach b (l ++ [r]) (n + 8 + r.length)) := Lib.hid (.snoc hre.out HX.out)
      clear h1 h2 h3 hold hs2 hs12 hs3 hown3 hu1 hs1 hsm ho hre
      go_wp2
      go_roundw
      case rel => exact ⟨_, n + 8 + r.length, by go_num, hre3, hfin, hsm3⟩
      case measure => simp [intOf]; omega
    · go_wp2_with (go_at_call 77; refine hnx.mono ?_; rintro e w1 ⟨u1, rfl, hu1, hs1⟩)
      go_ret2
      exact ⟨_, l, n, rfl, ⟨hre.out, by rw [HX.out]; exact he⟩, ho.out.keepAll hs1, hsm.out.trans hs1⟩
end Go.Proofs.Ytpjinngngbifoaa
