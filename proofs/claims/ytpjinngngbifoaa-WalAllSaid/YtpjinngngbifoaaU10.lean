/-
  Words, plain models, laws and walks that the claims of this layer share (joined by shake.py). No condition.
-/
import Derived.BigQuiet
import Derived.Test.YtpjinngngbifoaaU1
import Derived.Test.YtpjinngngbifoaaU2
import Derived.Test.YtpjinngngbifoaaU3
import Derived.Test.YtpjinngngbifoaaU4
import Derived.Test.YtpjinngngbifoaaU5
import Derived.Test.YtpjinngngbifoaaU6
import Derived.Test.YtpjinngngbifoaaU7
import Derived.Test.YtpjinngngbifoaaU8
import Derived.Test.YtpjinngngbifoaaU9
set_option linter.unusedSimpArgs false
set_option linter.unusedVariables false
namespace Go.Proofs.Ytpjinngngbifoaa
open Go.RowKit
/-- Records l stand one behind the other from the front on, up to a place. -/
inductive Reach (b : List UInt8) : List (List UInt8) → Nat → Prop
  | nil : Reach b [] 0
  | snoc {l : List (List UInt8)} {a n : Nat} {r : List UInt8} : Reach b l a → nextF b a = (r, (n : Int), 0) → Reach b (l ++ [r]) n
/-- What a scan gives. -/
def ScanF (b : List UInt8) (l : List (List UInt8)) (a : Nat) : Prop := Reach b l a ∧ (nextF b a).2.2 ≠ 0
/-- A record that is there: where it lies. -/
theorem nextF_ok {b : List UInt8} {a : Int} {r : List UInt8} {n : Int} (h : nextF b a = (r, n, 0)) :
    0 ≤ a ∧ n = a + 8 + r.length ∧ n ≤ b.length ∧ r.length ≤ 1048576 ∧ getN ((b.drop a.toNat).take 4) = r.length ∧ r = ((b.drop a.toNat).drop 8).take r.length ∧
      (ofF [(b.drop a.toNat).take 4, r]).toNat = getN (((b.drop a.toNat).drop 4).take 4) := by
  unfold nextF at h
  split at h
  · simp at h
  rename_i h1
  split at h
  · simp at h
  rename_i h2
  split at h
  · simp at h
  rename_i h3
  split at h
  · simp at h
  rename_i h4
  split at h
  · simp at h
  rename_i h5
  simp only [Prod.mk.injEq, and_true] at h
  obtain ⟨h6, h7⟩ := h
  have hd : (b.drop a.toNat).length = b.length - a.toNat := List.length_drop
  have hl : r.length = getN ((b.drop a.toNat).take 4) := by rw [← h6, List.length_take, List.length_drop]; omega
  rw [← hl] at h6 h7 h3 h4 h5
  refine ⟨by omega, by omega, by omega, by omega, hl.symm, by rw [hl]; rw [hl] at h6; exact h6.symm, ?_⟩
  rw [h6] at h5
  exact Classical.byContradiction h5
theorem nextF_nat {b : List UInt8} {a : Nat} {r : List UInt8} {n : Int} (h : nextF b a = (r, n, 0)) : n = ((a + 8 + r.length : Nat) : Int) ∧ a + 8 + r.length ≤ b.length := by
  have h2 := nextF_ok h
  omega
theorem Reach.le {b : List UInt8} {l : List (List UInt8)} {a : Nat} (h : Reach b l a) : a ≤ b.length ∧ 8 * l.length ≤ a := by
  induction h with
  | nil => simp
  | snoc h1 h2 ih =>
    have := nextF_nat h2
    simp
    omega
/-- A scan's answer is one. -/
theorem Reach.next {b : List UInt8} {l m : List (List UInt8)} {a c : Nat} (h : Reach b l a) (h' : Reach b m c) : (∃ k, m = l ++ k) ∨ (∃ k, l = m ++ k) := by
  have key : ∀ (l : List (List UInt8)) (a : Nat), Reach b l a → ∀ (m : List (List UInt8)) (c : Nat), Reach b m c → l.length ≤ m.length → ∃ k, m = l ++ k := by
    intro l a h m c h'
    induction h' with
    | nil => intro hl; have : l = [] := List.eq_nil_of_length_eq_zero (by simpa using hl); exact ⟨[], by rw [this]; rfl⟩
    | @snoc m c n r h1 h2 ih =>
      intro hl
      rcases Nat.lt_or_ge m.length l.length with hlt | hge
      · -- l has as many as m ++ [r]
        have : ∀ (l : List (List UInt8)) (a : Nat), Reach b l a → ∀ (m : List (List UInt8)) (c : Nat), Reach b m c → l.length = m.length → l = m ∧ a = c := by
          intro l a h
          induction h with
          | nil => intro m c h' hl; cases h' with
            | nil => exact ⟨rfl, rfl⟩
            | snoc h1 h2 => simp at hl
          | snoc h1 h2 ih => intro m c h' hl; cases h' with
            | nil => simp at hl
            | snoc h3 h4 =>
              obtain ⟨rfl, rfl⟩ := ih _ _ h3 (by simpa using hl)
              rw [h2] at h4
              simp only [Prod.mk.injEq, and_true] at h4
              obtain ⟨rfl, h5⟩ := h4
              exact ⟨rfl, by omega⟩
        obtain ⟨rfl, -⟩ := this l a h (m ++ [r]) n (.snoc h1 h2) (by simp at hl ⊢; omega)
        exact ⟨[], by simp⟩
      · obtain ⟨k, rfl⟩ := ih hge
        exact ⟨k ++ [r], by simp⟩
  rcases Nat.le_total l.length m.length with hl | hl
  · exact .inl (key l a h m c h' hl)
  · exact .inr (key m c h' l a h hl)
theorem Reach.same {b : List UInt8} {l m : List (List UInt8)} {a c : Nat} (h : Reach b l a) (h' : Reach b m c) (hl : l.length = m.length) : l = m ∧ a = c := by
  induction h generalizing m c with
  | nil => cases h' with
    | nil => exact ⟨rfl, rfl⟩
    | snoc h1 h2 => simp at hl
  | snoc h1 h2 ih => cases h' with
    | nil => simp at hl
    | snoc h3 h4 =>
      obtain ⟨rfl, rfl⟩ := ih h3 (by simpa using hl)
      rw [h2] at h4
      simp only [Prod.mk.injEq, and_true] at h4
      obtain ⟨rfl, h5⟩ := h4
      exact ⟨rfl, by omega⟩
/-- The beginnings of what was reached were reached, each by the next record. -/
theorem Reach.front {b : List UInt8} {l : List (List UInt8)} {a : Nat} (h : Reach b l a) : ∀ i (hi : i < l.length), ∃ c n : Nat, Reach b (l.take i) c ∧ nextF b c = (l[i], (n : Int), 0) := by
  induction h with
  | nil => intro i hi; simp at hi
  | @snoc l a n r h1 h2 ih =>
    intro i hi
    by_cases hlt : i < l.length
    · obtain ⟨c, m, h3, h4⟩ := ih i hlt
      refine ⟨c, m, ?_, ?_⟩
      · rw [List.take_append_of_le_length (by omega)]; exact h3
      · rw [List.getElem_append_left hlt]; exact h4
    · have : i = l.length := by simp at hi; omega
      subst this
      exact ⟨a, n, by simpa using h1, by simpa using h2⟩
theorem ScanF.uniq {b : List UInt8} {l m : List (List UInt8)} {a c : Nat} (h : ScanF b l a) (h' : ScanF b m c) : l = m ∧ a = c := by
  have key : ∀ (l m : List (List UInt8)) (a c : Nat), ScanF b l a → ScanF b m c → m.length ≤ l.length := by
    intro l m a c h h'
    rcases Nat.lt_or_ge l.length m.length with hlt | hge
    · obtain ⟨d, n, h3, h4⟩ := h'.1.front l.length hlt
      obtain ⟨-, rfl⟩ := h.1.same h3 (by simp; omega)
      have := h.2
      rw [h4] at this
      simp at this
    · exact hge
  exact h.1.same h'.1 (Nat.le_antisymm (key m l c a h' h) (key l m a c h h'))
/-- A list of records that the call owns, each in a row of its own. -/
def OwnRecs (w : World) (B : Nat) (v : Value) (l : List (List UInt8)) : Prop :=
  ∃ vs, w.ownsRow B 24 1 v l.length vs ∧ (∀ (i : Nat) (u : Value) (x : List UInt8), vs[i]? = some u → l[i]? = some x → OwnB w B u x) ∧
    ∀ (i j : Nat) (u u' : Value), i < j → vs[i]? = some u → vs[j]? = some u' → ∀ k, u.ownBlock = some k → u'.ownBlock ≠ some k
theorem OwnRecs.nil (w : World) (B : Nat) : OwnRecs w B (.slice none 0 0) [] := ⟨[], World.ownsRow_nil _ _ _ _, by simp, by simp⟩
theorem OwnRecs.form {w : World} {B : Nat} {v : Value} {l : List (List UInt8)} (h : OwnRecs w B v l) : ∃ A c, v = .slice A l.length c ∧ l.length ≤ c ∧ c ≤ maxLen := by
  obtain ⟨vs, h1, -⟩ := h
  exact own_cap h1
theorem OwnRecs.keepAll {w w' : World} {B : Nat} {v : Value} {l : List (List UInt8)} (h : OwnRecs w B v l) (hs : Same (fun _ => True) w w') : OwnRecs w' B v l := by
  obtain ⟨vs, h1, h2, h3⟩ := h
  exact ⟨vs, own_keepAll h1 hs, fun i u x a b => (h2 i u x a b).keepAll hs, h3⟩
theorem OwnRecs.list {w : World} {B : Nat} {v : Value} {l : List (List UInt8)} (h : OwnRecs w B v l) : ByL w (fun k => B ≤ k) v l := by
  obtain ⟨vs, h1, h2, -⟩ := h
  obtain ⟨A, c, rfl, h4, h5⟩ := own_cap h1
  exact ⟨A, c, vs, rfl, h4, h5, (Sl.of_own h1).mono (fun k _ hk => own_ge h1 hk), fun i u x a b => (h2 i u x a b).by_⟩
theorem own_types {w : World} {B B' : Nat} {v u : Value} {n : Nat} {xs : List Value} {bs : List UInt8} (h : w.ownsRow B 24 1 v n xs) (h' : OwnB w B' u bs) {k : Nat} (hu : u.ownBlock = some k) : v.ownBlock ≠ some k := by
  intro hv
  rcases ownsRow_row h with ⟨rfl, -, -⟩ | ⟨g, cap, cur, rfl, _, hr, _⟩
  · cases hv
  rcases ownsRow_row h' with ⟨rfl, -, -⟩ | ⟨g', cap', cur', rfl, _, hr', _⟩
  · cases hu
  have hv : some g = some k := hv
  have hu : some g' = some k := hu
  injection hv with hv
  injection hu with hu
  subst hv
  exact hr.ne hr' (by decide) hu.symm
/-- One record more. -/
theorem OwnRecs.app {w w' : World} {B B2 : Nat} {v v' u : Value} {l : List (List UInt8)} {x : List UInt8} {vs : List Value}
    (h1 : w.ownsRow B 24 1 v l.length vs) (h2 : ∀ (i : Nat) (u : Value) (x : List UInt8), vs[i]? = some u → l[i]? = some x → OwnB w B u x)
    (h3 : ∀ (i j : Nat) (u u' : Value), i < j → vs[i]? = some u → vs[j]? = some u' → ∀ k, u.ownBlock = some k → u'.ownBlock ≠ some k)
    (hu : OwnB w B2 u x) (hB : B ≤ B2) (hold : ∀ (i : Nat) (u' : Value) (k : Nat), vs[i]? = some u' → u'.ownBlock = some k → k < B2) (hown' : w'.ownsRow B 24 1 v' (l.length + 1) (vs ++ [u])) (hs : Same (fun k => some k ≠ v.ownBlock) w w') :
    OwnRecs w' B v' (l ++ [x]) := by
  have hl : vs.length = l.length := by have := h1.1; omega
  have keepB : ∀ {u : Value} {y : List UInt8} {C : Nat}, OwnB w C u y → OwnB w' C u y := fun {u y C} h => own_keep h hs fun k hk => by
    intro e
    exact own_types h1 h hk e.symm
  refine ⟨vs ++ [u], by simpa using hown', fun i u' x' a b => ?_, fun i j a b hij ha hb k hk => ?_⟩
  · by_cases hi : i < l.length
    · rw [List.getElem?_append_left (by omega)] at a b
      exact keepB (h2 i u' x' a b)
    · rw [List.getElem?_append_right (by omega)] at a b
      rw [hl] at a
      cases hj : i - l.length with
      | zero =>
        rw [hj] at a b
        simp at a b
        subst a b
        exact (keepB hu).lower hB
      | succ j => rw [hj] at a; simp at a
  · by_cases hj : j < vs.length
    · rw [List.getElem?_append_left (by omega)] at ha
      rw [List.getElem?_append_left hj] at hb
      exact h3 i j a b hij ha hb k hk
    · rw [List.getElem?_append_right (by omega)] at hb
      cases hjj : j - vs.length with
      | zero =>
        rw [hjj] at hb
        simp at hb
        subst hb
        have hi : i < vs.length := by omega
        rw [List.getElem?_append_left hi] at ha
        intro e
        have h4 := hold i a k ha hk
        have h5 := (hu.lt_ e).1
        omega
      | succ m => rw [hjj] at hb; simp at hb
def ScanPost (b : List UInt8) (w : World) (e : Ending) (w' : World) : Prop :=
  ∃ u l a, e = .returned (.tuple #[u, .int .i64 ((a : Nat) : Int)]) ∧ ScanF b l a ∧ OwnRecs w' w.heap.size u l ∧ Same (fun _ => True) w w'
theorem rec_lt {w : World} {B : Nat} {vs : List Value} {l : List (List UInt8)} (hl : vs.length = l.length) (h2 : ∀ (i : Nat) (u : Value) (x : List UInt8), vs[i]? = some u → l[i]? = some x → OwnB w B u x) :
    ∀ (i : Nat) (u' : Value) (k : Nat), vs[i]? = some u' → u'.ownBlock = some k → k < w.heap.size := fun i u' k hi hk => by
  have hil : i < vs.length := by
    rcases Nat.lt_or_ge i vs.length with h | h
    · exact h
    · rw [List.getElem?_eq_none h] at hi; cases hi
  exact ((h2 i u' l[i] hi (List.getElem?_eq_getElem (by omega))).lt_ hk).2
set_option maxRecDepth 100000 in
set_option maxHeartbeats 1000000 in
theorem fscan_any (v : Value) (b : List UInt8) (S : Nat → Prop) (w : World) (hv : By w S v b) (hb : b.length ≤ 1000000) :
    Calls Try.prog 64 #[v] w (ScanPost b w) := by
  have hnext := fun W (hs : Same (fun _ => True) w W) a => fnext_any v b a S W (hv.keep (hs.mono fun _ _ _ => trivial)) hb
  obtain ⟨A, ca, rfl, -⟩ := hv
  have HN := Lib.hid hnext
  clear hnext
  have h0 : Hid (OwnRecs w w.heap.size (.slice none 0 0) []) := Lib.hid (OwnRecs.nil _ _)
  go_enter Try.func64, Try.ntmps64
  go_wp2
  go_loopw [2, 3] (fun u a wr => ∃ (l : List (List UInt8)) (n : Nat), a = .int .i64 n ∧ Hid (Reach b l n) ∧ Hid (OwnRecs wr w.heap.size u l) ∧ Hid (Same (fun _ => True) w wr)) (fun _ a _ => b.length - (intOf a).toNat)
  case atStart => exact ⟨[], 0, rfl, Lib.hid .nil, h0, Lib.hid (Same.refl _ _)⟩
  case round =>
    obtain ⟨l, n, rfl, hre, ho, hsm⟩ := hrel
    clear h0
    obtain ⟨A2, c2, rfl, -, -⟩ := ho.out.form
    have hle := hre.out.le
    have hnx := HN.out _ hsm.out (n : Int)
    obtain ⟨r, m, e, hx⟩ : ∃ r m e, nextF b n = (r, m, e) := ⟨_, _, _, rfl⟩
    rw [hx] at hnx
    have HX := Lib.hid hx
    clear hx
    by_cases he : e = 0
    · subst he
      obtain ⟨hm, hml⟩ := nextF_nat HX.out
      subst hm
      go_wp2_with (first | (go_at_call 77; refine hnx.mono ?_; rintro e w1 ⟨u1, rfl, hu1, hs1⟩; obtain ⟨A1, c1, rfl, -, -⟩ := hu1.form) | (at_builtin; refine stopAt ?_))
      unfold Hid
      obtain ⟨vs, h1, h2, h3⟩ := ho.out
      have hz := hsm.out.size
      have hz1 := hs1.size
      have hvl : vs.length = l.length := by have := h1.1; omega
      have hold := rec_lt hvl h2
      have hs2 : Same (fun _ => True) w1 (w1.alloc (.cells #[.slice A1 r.length c1] 24)) := (Same.refl _ _).alloc _
      have hs12 := hs1.trans hs2
      refine wpList_app TL _ rfl (.tmp 18) (.tmp 20) rfl w.heap.size _ l.length vs rfl (own_keepAll h1 hs12) (fun _ => True) (some ⟨w1.heap.size, 0, none⟩) 1 1 [.slice A1 r.length c1] rfl (sl_one _ _ _ _ trivial) (by simp [Value.oneCell']) (by simp only [maxLen]; omega) (by omega) (by simp; omega) ?_
      intro v3 w3 hown3 hs3 _
      have hfin : Hid (OwnRecs w3 w.heap.size v3 (l ++ [r])) := Lib.hid (OwnRecs.app (own_keepAll h1 hs12) (fun i u x a b => (h2 i u x a b).keepAll hs12) h3 (hu1.keepAll hs2) hz hold hown3 hs3)
      have hsm3 : Hid (Same (fun _ => True) w w3) := Lib.hid ((hsm.out.trans hs12).trans' hs3 fun k hk _ e => by have := (h1.lt k e.symm).1; omega)
      have hre3 : Hid (Reach b (l ++ [r]) (n + 8 + r.length)) := Lib.hid (.snoc hre.out HX.out)
      clear h1 h2 h3 hold hs2 hs12 hs3 hown3 hu1 hs1 hsm ho hre
      go_wp2
      go_roundw
      case rel => exact ⟨_, n + 8 + r.length, by go_num, hre3, hfin, hsm3⟩
      case measure => simp [intOf]; omega
    · go_wp2_with (go_at_call 77; refine hnx.mono ?_; rintro e w1 ⟨u1, rfl, hu1, hs1⟩)
      go_ret2
      exact ⟨_, l, n, rfl, ⟨hre.out, by rw [HX.out]; exact he⟩, ho.out.keepAll hs1, hsm.out.trans hs1⟩
end Go.Proofs.Ytpjinngngbifoaa
namespace Go.Proofs.Ytpjinngngbifoaa
open Go.RowKit
theorem getN_put_take (n v : Nat) (h : v < 256 ^ n) : ∀ j, j ≤ n → getN ((putN n v).take j) = v / 256 ^ (n - j)
  | 0, _ => by
    rw [List.take_zero]
    simp [getN, Nat.div_eq_of_lt h]
  | j + 1, hj => by
    rw [putN_take n v j (by omega), getN_snoc, getN_put_take n v h j (by omega), UInt8.toNat_ofNat']
    have e : n - j = (n - 1 - j) + 1 := by omega
    have e2 : n - (j + 1) = n - 1 - j := by omega
    rw [e, e2, Nat.pow_succ, ← Nat.div_div_eq_div_mul]
    omega
theorem getN_putN (n v : Nat) (h : v < 256 ^ n) : getN (putN n v) = v := by
  have := getN_put_take n v h n (Nat.le_refl _)
  rwa [List.take_of_length_le (by rw [putN_len]; omega), Nat.sub_self, Nat.pow_zero, Nat.div_one] at this
theorem nextF_rec (pre r post : List UInt8) (hr : r.length ≤ 1048576) : nextF (pre ++ (recF r ++ post)) pre.length = (r, ((pre.length + 8 + r.length : Nat) : Int), 0) := by
  have hd : (pre ++ (recF r ++ post)).drop ((pre.length : Int)).toNat = recF r ++ post := by rw [Int.toNat_natCast, List.drop_left]
  have hl : (recF r ++ post).length = 8 + r.length + post.length := by rw [List.length_append, recF_len]
  obtain ⟨c, hc⟩ : ∃ c, c = ofF [putN 4 r.length, r] := ⟨_, rfl⟩
  have hcl := c.toNat_lt
  have e0 : recF r ++ post = putN 4 r.length ++ (putN 4 c.toNat ++ (r ++ post)) := by simp [recF, ← hc]
  have p4 : ∀ v, (putN 4 v).length = 4 := putN_len 4
  have e1 : (recF r ++ post).take 4 = putN 4 r.length := by rw [e0, List.take_append_of_le_length (by rw [p4]; omega), List.take_of_length_le (by rw [p4]; omega)]
  have e2 : (recF r ++ post).drop 4 = putN 4 c.toNat ++ (r ++ post) := by rw [e0]; exact List.drop_left' (p4 _)
  have e3 : ((recF r ++ post).drop 4).take 4 = putN 4 c.toNat := by rw [e2, List.take_append_of_le_length (by rw [p4]; omega), List.take_of_length_le (by rw [p4]; omega)]
  have e4 : (recF r ++ post).drop 8 = r ++ post := by rw [show 8 = 4 + 4 from rfl, ← List.drop_drop, e2]; exact List.drop_left' (p4 _)
  have g1 : getN ((recF r ++ post).take 4) = r.length := by rw [e1]; exact getN_putN 4 _ (by omega)
  have g2 : getN (((recF r ++ post).drop 4).take 4) = c.toNat := by rw [e3]; exact getN_putN 4 _ (by omega)
  have e5 : ((recF r ++ post).drop 8).take r.length = r := by rw [e4, List.take_left]
  unfold nextF
  rw [hd, g1, g2, e5, e1, ← hc]
  rw [if_neg (by rw [List.length_append]; omega), if_neg (by omega), if_neg (by omega), if_neg (by omega), if_neg (by simp)]
  simp
theorem nextF_short (b : List UInt8) (a : Nat) (h : a ≤ b.length) (hl : b.length - a < 8) : nextF b a = ([], 0, 2) := by
  unfold nextF
  rw [if_neg (by omega), Int.toNat_natCast, if_pos (by rw [List.length_drop]; exact hl)]
/-- All bytes of records. -/
def recsF (l : List (List UInt8)) : List UInt8 := (l.map recF).flatten
theorem recsF_snoc (l : List (List UInt8)) (r : List UInt8) : recsF (l ++ [r]) = recsF l ++ recF r := by simp [recsF]
theorem recsF_take (l : List (List UInt8)) (k : Nat) (h : k < l.length) : recsF (l.take (k + 1)) = recsF (l.take k) ++ recF l[k] := by
  rw [List.take_succ_eq_append_getElem h, recsF_snoc]
theorem recsF_split (l : List (List UInt8)) (k : Nat) : recsF l = recsF (l.take k) ++ recsF (l.drop k) := by
  simp only [recsF]
  rw [← List.flatten_append, ← List.map_append, List.take_append_drop]
/-- What stands in front is reached. -/
theorem reach_recs (l : List (List UInt8)) (post : List UInt8) (hr : ∀ r ∈ l, r.length ≤ 1048576) : ∀ k, k ≤ l.length → Reach (recsF l ++ post) (l.take k) (recsF (l.take k)).length
  | 0, _ => by simpa [recsF] using Reach.nil
  | k + 1, hk => by
    have ih := reach_recs l post hr k (by omega)
    have hkl : k < l.length := by omega
    rw [List.take_succ_eq_append_getElem hkl, recsF_snoc]
    refine Reach.snoc ih ?_
    have e : recsF l ++ post = recsF (l.take k) ++ (recF l[k] ++ (recsF (l.drop (k + 1)) ++ post)) := by
      rw [recsF_split l (k + 1), recsF_take l k hkl]
      simp
    rw [e, nextF_rec _ _ _ (hr _ (List.getElem_mem hkl))]
    simp [recF_len]
    omega
end Go.Proofs.Ytpjinngngbifoaa
namespace Go.Proofs.Ytpjinngngbifoaa
open Go.RowKit
theorem putN_getN (l : List UInt8) (h : l.length = 4) : putN 4 (getN l) = l := by
  match l, h with
  | [a, b, c, d], _ =>
    have ha := a.toNat_lt
    have hb := b.toNat_lt
    have hc := c.toNat_lt
    have hd := d.toNat_lt
    have e : getN [a, b, c, d] = ((a.toNat * 256 + b.toNat) * 256 + c.toNat) * 256 + d.toNat := by simp [getN]
    rw [e]
    have p : ∀ v, putN 4 v = [UInt8.ofNat (v / 16777216), UInt8.ofNat (v / 65536), UInt8.ofNat (v / 256), UInt8.ofNat v] := fun v => by simp [putN, List.range_succ]
    rw [p]
    have q : ∀ (m : Nat) (x : UInt8), m % 256 = x.toNat → UInt8.ofNat m = x := fun m x hm => by
      apply UInt8.toNat_inj.1
      rw [UInt8.toNat_ofNat']
      exact hm
    rw [q _ a (by omega), q _ b (by omega), q _ c (by omega), q _ d (by omega)]
/-- The bytes of a record that is there. -/
theorem rec_at {b : List UInt8} {a : Nat} {r : List UInt8} {n : Int} (h : nextF b a = (r, n, 0)) : (b.drop a).take (8 + r.length) = recF r := by
  obtain ⟨-, h2, h3, h4, h5, h6, h7⟩ := nextF_ok h
  rw [Int.toNat_natCast] at h5 h6 h7
  have hl : (b.drop a).length = b.length - a := List.length_drop
  have l4 : ((b.drop a).take 4).length = 4 := by rw [List.length_take]; omega
  have l44 : (((b.drop a).drop 4).take 4).length = 4 := by rw [List.length_take, List.length_drop]; omega
  have e1 : putN 4 r.length = (b.drop a).take 4 := by rw [← h5]; exact putN_getN _ l4
  have e2 : putN 4 (ofF [putN 4 r.length, r]).toNat = ((b.drop a).drop 4).take 4 := by rw [e1, h7]; exact putN_getN _ l44
  unfold recF
  rw [e2, e1]
  generalize b.drop a = x at *
  have s1 : x.take (8 + r.length) = x.take 8 ++ (x.drop 8).take r.length := by rw [List.take_add]
  have s2 : x.take 8 = x.take 4 ++ (x.drop 4).take 4 := by rw [show 8 = 4 + 4 from rfl, List.take_add]
  rw [s1, s2, ← h6]
/-- What was reached, written anew, is what stood there. -/
theorem Reach.bytes {b : List UInt8} {l : List (List UInt8)} {a : Nat} (h : Reach b l a) : recsF l = b.take a := by
  induction h with
  | nil => simp [recsF]
  | @snoc l a n r h1 h2 ih =>
    have h3 := nextF_nat h2
    have h4 := rec_at h2
    have hn : n = a + (8 + r.length) := by omega
    rw [recsF_snoc, ih, ← h4, hn, ← List.take_add]
theorem Reach.small {b : List UInt8} {l : List (List UInt8)} {a : Nat} (h : Reach b l a) : ∀ r ∈ l, r.length ≤ b.length := by
  induction h with
  | nil => simp
  | @snoc l a n r h1 h2 ih =>
    intro x hx
    rcases List.mem_append.1 hx with h | h
    · exact ih x h
    · rw [List.mem_singleton.1 h]
      have := nextF_nat h2
      omega
end Go.Proofs.Ytpjinngngbifoaa
namespace Go.Proofs.Ytpjinngngbifoaa
open Go.RowKit
/-- A record that is cut off is none. -/
theorem nextF_cut (pre r more : List UInt8) (d : Nat) (hr : r.length ≤ 1048576) (hd : d < 8 + r.length) : (nextF (pre ++ (recF r ++ more).take d) pre.length).2.2 ≠ 0 := by
  obtain ⟨post, hpost⟩ : ∃ post, post = (recF r ++ more).take d := ⟨_, rfl⟩
  have hl : post.length = d := by rw [hpost, List.length_take, List.length_append, recF_len]; omega
  rw [← hpost]
  by_cases h8 : d < 8
  · rw [nextF_short _ _ (by simp) (by rw [List.length_append]; omega)]
    simp
  · have hdr : (pre ++ post).drop ((pre.length : Int)).toNat = post := by rw [Int.toNat_natCast, List.drop_left]
    have p4 : ∀ v, (putN 4 v).length = 4 := putN_len 4
    have e1 : post.take 4 = putN 4 r.length := by
      rw [hpost, List.take_take, Nat.min_eq_left (by omega)]
      simp only [recF, List.append_assoc]
      rw [List.take_append_of_le_length (by rw [p4]; omega), List.take_of_length_le (by rw [p4]; omega)]
    have g1 : getN (post.take 4) = r.length := by rw [e1]; exact getN_putN 4 _ (by omega)
    unfold nextF
    rw [hdr, g1, if_neg (by rw [List.length_append]; omega), if_neg (by omega), if_neg (by omega), if_pos (by omega)]
    simp
theorem cut_scan (l : List (List UInt8)) (hr : ∀ r ∈ l, r.length ≤ 1048576) (cut j : Nat) (hj : j ≤ l.length) (hcut : cut ≤ (recsF l).length) (h1 : (recsF (l.take j)).length ≤ cut)
    (h2 : ∀ h : j < l.length, cut < (recsF (l.take (j + 1))).length) : ScanF ((recsF l).take cut) (l.take j) (recsF (l.take j)).length := by
  obtain ⟨pre, hpre⟩ : ∃ pre, pre = recsF (l.take j) := ⟨_, rfl⟩
  have hs := recsF_split l j
  have e : (recsF l).take cut = pre ++ (recsF (l.drop j)).take (cut - pre.length) := by
    rw [hs, ← hpre, List.take_append, List.take_of_length_le (by rw [hpre]; exact h1)]
  rw [← hpre] at h1 ⊢
  rw [e]
  refine ⟨?_, ?_⟩
  · have := reach_recs (l.take j) ((recsF (l.drop j)).take (cut - pre.length)) (fun r h => hr r (List.mem_of_mem_take h)) j (by simp; omega)
    rw [List.take_take, Nat.min_self, ← hpre] at this
    exact this
  · rcases Nat.lt_or_ge j l.length with hlt | hge
    · have h3 := h2 hlt
      rw [recsF_take l j hlt, ← hpre, List.length_append, recF_len] at h3
      have hd : recsF (l.drop j) = recF l[j] ++ recsF (l.drop (j + 1)) := by
        rw [List.drop_eq_getElem_cons hlt]
        rfl
      rw [hd]
      exact nextF_cut pre l[j] _ _ (hr _ (List.getElem_mem hlt)) (by omega)
    · have hd : l.drop j = [] := List.drop_eq_nil_of_le hge
      rw [hd]
      rw [nextF_short _ _ (by simp) (by simp [recsF])]
      simp
end Go.Proofs.Ytpjinngngbifoaa
namespace Go.Proofs.Ytpjinngngbifoaa
open Go.RowKit
structure WalM where
  lives : Nat
  done : Bool
  f : Int
  gen : Nat
  count : Nat
  bytes : Nat
/-- A log in memory: its struct at p, over the disk at g. -/
def WalAt (w : World) (p g : Nat) (l : WalM) : Prop :=
  Row w p 66 [ptr g, .int .i64 l.lives, .bool l.done, .int .i64 l.f, .int .u64 l.gen, .int .i64 l.count, .int .i64 l.bytes]
theorem WalAt.keep {w w' : World} {p g : Nat} {S : Nat → Prop} {l : WalM} (h : WalAt w p g l) (hs : Same S w w') (hp : S p) : WalAt w' p g l := Row.keep h hs hp
theorem WalAt.keepAll {w w' : World} {p g : Nat} {l : WalM} (h : WalAt w p g l) (hs : Same (fun _ => True) w w') : WalAt w' p g l := h.keep hs trivial
theorem wnone_any (p g : Nat) (l : WalM) (w : World) (h : WalAt w p g l) :
    Calls Try.prog 41 #[ptr p] w fun e w' => e = .returned (.bool false) ∧ w = w' := by
  have c0 := h.cell 0
  simp at c0
  clear h
  go_enter Try.func41, Try.ntmps41
  go_wp2
  go_ret
  exact ⟨rfl, rfl⟩
def WalM.over (l : WalM) (d : DiskM) : Bool := l.done || decide (d.lives ≠ l.lives)
set_option maxRecDepth 100000 in
theorem wover_any (p g r : Nat) (F : Nat → Prop) (d : DiskM) (l : WalM) (w : World) (h : WalAt w p g l) (hd : DiskAt w g r F d) :
    Calls Try.prog 42 #[ptr p] w (GrowPost (.bool (l.over d)) w) := by
  have hl' := fun n => ((dlives_any g r F d (w.drewN n) (hd.keepAll ((Same.refl _ _).drewN n))).mono (fun e w' h => (⟨h.1, h.2.symm⟩ : e = .returned (.int .i64 d.lives) ∧ w' = w.drewN n)))
  have c0 := h.cell 0
  have c1 := h.cell 1
  have c2 := h.cell 2
  simp at c0 c1 c2
  obtain ⟨b, hb⟩ : ∃ b, b = l.done := ⟨_, rfl⟩
  rw [← hb] at c2
  unfold WalM.over
  rw [← hb]
  clear h hd hb
  cases b
  · go_enter Try.func42, Try.ntmps42
    go_wp2
    go_quiet ((go_at_call 38; exact Calls.quiet_of_same (hl' _)))
    go_wp2
    go_ret
    refine ⟨?_, (Same.refl _ _).drewN _⟩
    simp
    by_cases h : d.lives = l.lives
    · simp [h]
    · have h2 : (d.lives : Int) ≠ l.lives := by omega
      simp [h, h2]
  · go_enter Try.func42, Try.ntmps42
    go_wp2
    go_quiet (fail)
    go_wp2
    go_ret
    exact ⟨rfl, (Same.refl _ _).drewN _⟩
def WalM.fails (l : WalM) (e : Int) : WalM := { l with done := l.done || decide (e ≠ 0) }
theorem wfails_any (p g : Nat) (l : WalM) (x : Int) (w : World) (h : WalAt w p g l) :
    Calls Try.prog 44 #[ptr p, .int .i64 x] w fun e w' => e = .returned (.int .i64 x) ∧ WalAt w' p g (l.fails x) ∧ Same (fun k => k ≠ p) w w' := by
  have c2 := h.cell 2
  have z2 := h.frozen 2
  simp at c2
  have H := Lib.hid h
  clear h
  by_cases hx : x = 0
  · subst hx
    go_enter Try.func44, Try.ntmps44
    go_wp2
    go_ret
    exact ⟨rfl, by simpa [WalM.fails] using H.out, Same.refl _ _⟩
  · go_enter Try.func44, Try.ntmps44
    go_wp2
    go_ret
    refine ⟨rfl, ?_, (Same.refl _ _).setCell (fun _ h => h rfl) _⟩
    have h1 := Row.set_ H.out 2 (.bool true)
    have e : l.fails x = { l with done := true } := by simp [WalM.fails, hx]
    rw [e]
    exact h1
def walkL : List (List UInt8) → Bool → List (List UInt8) → Option (List (List UInt8) × Bool)
  | [], whole, acc => if whole then some (acc, false) else none
  | r :: rs, whole, acc => if r.head? = some 82 then walkL rs whole (acc ++ [r.tail]) else if whole then some (acc, true) else if r = [69] then walkL rs true acc else none
structure LookM where
  gen : Nat
  recs : List (List UInt8)
  spoil : Bool
def lookL (l : List (List UInt8)) (sp : Bool) : Option LookM :=
  match l with
  | [] => none
  | r :: rs => if r.length ≠ 9 ∨ r.head? ≠ some 71 then none else if getN (r.drop 1) = 0 ∨ 4611686018427387904 ≤ getN (r.drop 1) then none else
    (walkL rs false []).map fun x => ⟨getN (r.drop 1), x.1, sp || x.2⟩
/-- What a look at bytes gives. -/
def LookF (b : List UInt8) (m : Option LookM) : Prop := ∃ l a, ScanF b l a ∧ m = lookL l (decide (a < b.length))
theorem LookF.uniq {b : List UInt8} {m n : Option LookM} (h : LookF b m) (h' : LookF b n) : m = n := by
  obtain ⟨l, a, h1, rfl⟩ := h
  obtain ⟨l', a', h2, rfl⟩ := h'
  obtain ⟨rfl, rfl⟩ := h1.uniq h2
  rfl
end Go.Proofs.Ytpjinngngbifoaa
