/-
  The walks of antipodelaw0 that make lists: Twins, Joined, Cut, Spoil.
-/
import Derived.Test.YtpjinngngbifoaaBase
set_option linter.unusedSimpArgs false
set_option linter.unusedVariables false
namespace Go.Proofs.Ytpjinngngbifoaa
open Go.RowKit

/-- An own list of twins. -/
def OwnTwins (w : World) (B : Nat) (v : Value) (l : List (List UInt8)) : Prop :=
  ∃ vs, w.ownsRow B 24 1 v l.length vs ∧ ∀ (i : Nat) (u : Value) (x : List UInt8), vs[i]? = some u → l[i]? = some x → ∃ g, B ≤ g ∧ Twin w g u x

theorem own_cap {w : World} {B : Nat} {e : TypeId} {size : Nat} {v : Value} {n : Nat} {xs : List Value} (h : w.ownsRow B e size v n xs) : ∃ A c, v = .slice A n c ∧ n ≤ c ∧ c ≤ maxLen := by
  rcases h.2 with ⟨rfl, rfl⟩ | ⟨g, cap, cur, rfl, _, _, h1, h2, _⟩
  · exact ⟨none, 0, rfl, by omega, by simp [maxLen]⟩
  · exact ⟨_, _, rfl, h1, h2⟩
theorem own_ge {w : World} {B : Nat} {e : TypeId} {size : Nat} {v : Value} {n : Nat} {xs : List Value} (h : w.ownsRow B e size v n xs) {k : Nat} (hk : some k = v.ownBlock) : B ≤ k := (h.lt k hk.symm).1
theorem OwnTwins.list {w : World} {B : Nat} {v : Value} {l : List (List UInt8)} (h : OwnTwins w B v l) : TwinL w (B ≤ ·) v l := by
  obtain ⟨vs, hown, he⟩ := h
  obtain ⟨A, c, rfl, h1, h2⟩ := own_cap hown
  exact ⟨A, c, vs, rfl, h1, h2, (Sl.of_own hown).mono (fun k _ hk => own_ge hown hk), he⟩

theorem own_by {w : World} {B : Nat} {v : Value} {bs : List UInt8} {e : TypeId} (h : w.ownsRow B e 1 v bs.length (cs8 bs)) : By w (B ≤ ·) v bs := by
  obtain ⟨A, c, rfl, h1, h2⟩ := own_cap h
  exact ⟨A, c, rfl, h1, h2, (Sl.of_own h).mono fun k _ hk => own_ge h hk⟩

/-- A new element behind an own list of twins. -/
theorem OwnTwins.app {w w' : World} {B : Nat} {v v' u : Value} {l : List (List UInt8)} {x : List UInt8} {vs : List Value} {g : Nat}
    (hown : w.ownsRow B 24 1 v l.length vs) (he : ∀ (i : Nat) (u : Value) (x : List UInt8), vs[i]? = some u → l[i]? = some x → ∃ g, B ≤ g ∧ Twin w g u x)
    (hg : B ≤ g) (hu : Twin w g u x) (hown' : w'.ownsRow B 24 1 v' (l.length + 1) (vs ++ [u])) (hs : Same (fun k => some k ≠ v.ownBlock) w w') :
    OwnTwins w' B v' (l ++ [x]) := by
  have ne : ∀ {g u x}, Twin w g u x → some g ≠ v.ownBlock := by
    intro g u x ht e
    rcases ownsRow_row hown with ⟨rfl, _, _⟩ | ⟨g', cap, cur, rfl, _, hrow, _⟩
    · simp [Value.ownBlock] at e
    · simp [Value.ownBlock] at e
      exact Row.ne ht.2 hrow (by decide) e
  have hl : vs.length = l.length := by have := hown.1; omega
  refine ⟨vs ++ [u], by simpa using hown', fun i u' x' h1 h2 => ?_⟩
  by_cases hi : i < l.length
  · rw [List.getElem?_append_left (by omega)] at h1 h2
    obtain ⟨g', hg', ht⟩ := he i u' x' h1 h2
    exact ⟨g', hg', ht.keep hs (ne ht)⟩
  · rw [List.getElem?_append_right (by omega)] at h1 h2
    rw [hl] at h1
    cases hj : i - l.length with
    | zero =>
      rw [hj] at h1 h2
      simp at h1 h2
      subst h1 h2
      exact ⟨g, hg, hu.keep hs (ne hu)⟩
    | succ j => rw [hj] at h1; simp at h1

def TwinsPost (l : List (List UInt8)) (w : World) (e : Ending) (w' : World) : Prop := ∃ u, e = .returned u ∧ OwnTwins w' w.heap.size u l ∧ Same (fun _ => True) w w'

theorem sl_one (w : World) (S : Nat → Prop) (u : Value) (t : TypeId) (h : S w.heap.size) : Sl (w.alloc (.cells #[u] t)) S 1 (some ⟨w.heap.size, 0, none⟩) 1 [u] :=
  ⟨rfl, fun _ => ⟨_, rfl, h, cell_one_new w u t⟩⟩

set_option maxHeartbeats 400000 in
theorem twins_any (v : Value) (l : List (List UInt8)) (S : Nat → Prop) (w : World) (hv : ByL w S v l) (hn : l.length ≤ 20000) (hb : ∀ b ∈ l, b.length ≤ 20000) :
    Calls Try.prog 56 #[v] w (TwinsPost l w) := by
  obtain ⟨A, cap, vs, rfl, hc1, hm, hs, hel⟩ := hv
  unfold maxLen at hm
  have Hb := Lib.hid hb
  clear hb
  go_enter Try.func56, Try.ntmps56
  go_wp2
  go_loopw [3, 4] (fun o i wr => ∃ k : Nat, k ≤ l.length ∧ i = .int .i64 k ∧ OwnTwins wr w.heap.size o (l.take k) ∧ Same (fun _ => True) w wr) (fun _ i _ => l.length - (intOf i).toNat)
  case atStart => exact ⟨0, by omega, rfl, ⟨[], World.ownsRow_nil _ _ _ _, by simp⟩, Same.refl _ _⟩
  case round =>
    obtain ⟨k, hk, rfl, ⟨vo, hown, hall⟩, hsm⟩ := hrel
    obtain ⟨wo, rfl⟩ : ∃ wo : World, wo = wr := ⟨_, rfl⟩
    by_cases hlt : k < l.length
    · obtain ⟨ad, u, rfl, hS, hu, hcell⟩ := (hs.keep (hsm.mono fun _ _ _ => trivial)).at_ hlt
      have hbk := Hb.out l[k] (by simp)
      have hby := (hel k u l[k] hu (by simp [hlt])).keepAll hsm
      clear hs hel hu
      have hlk : (l.take k).length = k := by simp; omega
      rw [hlk] at hown
      have Hk := Lib.hid hlk
      have Ht := Lib.hid (List.take_succ_eq_append_getElem hlt)
      have hsz := hsm.size
      have Hsm := Lib.hid hsm
      have Hall := Lib.hid hall
      clear hlk hsm hall
      go_wp2_with (first | (go_at_call 51; refine (twin_any _ _ _ _ hby hbk).mono ?_; rintro e w1 ⟨tv, g, rfl, hg, ⟨rfl, hrow⟩, hs1⟩) | (at_builtin; refine stopAt ?_))
      unfold Hid
      have hz1 := hs1.size
      refine wpList_app TL _ rfl _ _ rfl w.heap.size u3 k vo rfl ((own_keepAll hown hs1).alloc _) (fun _ => True) _ 1 1 [_] rfl (sl_one _ _ _ _ trivial) (by simp [Value.oneCell']) (by simp only [maxLen]; omega) (by omega) (by simp; omega) ?_
      intro v2 w2 hown2 hs2 hat2
      go_wp2
      go_roundw
      case rel =>
        refine ⟨k + 1, by omega, by go_num, ?_, ?_⟩
        · rw [Ht.out]
          have h1 : (w1.alloc (.cells #[.slice (some ⟨g, 0, none⟩) l[k].length (l[k].length + 3)] 24)).ownsRow w.heap.size 24 1 u3 (l.take k).length vo := by rw [Hk.out]; exact (own_keepAll hown hs1).alloc _
          refine OwnTwins.app (g := g) h1 (fun i u x h2 h3 => ?_) (by omega) ⟨rfl, (hrow.keep ((Same.refl (fun _ => True) _).alloc _) trivial)⟩ (by rw [Hk.out]; exact hown2) hs2
          obtain ⟨g', hg', ht⟩ := Hall.out i u x h2 h3
          exact ⟨g', hg', (ht.keep hs1 trivial).keep ((Same.refl (fun _ => True) _).alloc _) trivial⟩
        · refine (((Hsm.out).trans hs1).alloc _).trans' hs2 (fun i hi _ => ?_)
          intro e
          have := own_ge hown e
          omega
      case measure => simp [intOf]; omega
    · obtain rfl : k = l.length := by omega
      go_wp2
      go_ret
      exact ⟨_, rfl, ⟨vo, by simpa using hown, by simpa using hall⟩, hsm⟩

/-- An own list of byte slices, their bytes in blocks of S. -/
def OwnL (w : World) (B : Nat) (S : Nat → Prop) (v : Value) (l : List (List UInt8)) : Prop :=
  ∃ vs, w.ownsRow B 24 1 v l.length vs ∧ ∀ (i : Nat) (u : Value) (x : List UInt8), vs[i]? = some u → l[i]? = some x → By w S u x
theorem OwnL.nil (w : World) (B : Nat) (S : Nat → Prop) : OwnL w B S (.slice none 0 0) [] := ⟨[], World.ownsRow_nil _ _ _ _, by simp⟩
theorem OwnL.list {w : World} {B : Nat} {S : Nat → Prop} {v : Value} {l : List (List UInt8)} (h : OwnL w B S v l) : ByL w (fun k => S k ∨ B ≤ k) v l := by
  obtain ⟨vs, hown, he⟩ := h
  obtain ⟨A, c, rfl, h1, h2⟩ := own_cap hown
  exact ⟨A, c, vs, rfl, h1, h2, (Sl.of_own hown).mono (fun k _ hk => .inr (own_ge hown hk)), fun i u x a b => (he i u x a b).mono fun _ _ h => .inl h⟩
theorem OwnL.keep {w w' : World} {B : Nat} {S : Nat → Prop} {v : Value} {l : List (List UInt8)} (h : OwnL w B S v l) (hs : Same (fun _ => True) w w') : OwnL w' B S v l := by
  obtain ⟨vs, hown, he⟩ := h
  exact ⟨vs, own_keepAll hown hs, fun i u x a b => (he i u x a b).keepAll hs⟩
/-- A new element behind an own list. -/
theorem OwnL.app {w w' : World} {B : Nat} {S : Nat → Prop} {v v' u : Value} {l : List (List UInt8)} {x : List UInt8} {vs : List Value}
    (hown : w.ownsRow B 24 1 v l.length vs) (he : ∀ (i : Nat) (u : Value) (x : List UInt8), vs[i]? = some u → l[i]? = some x → By w S u x)
    (hu : By w S u x) (hown' : w'.ownsRow B 24 1 v' (l.length + 1) (vs ++ [u])) (hs : Same (fun k => some k ≠ v.ownBlock) w w') (hd : ∀ k, S k → some k ≠ v.ownBlock) :
    OwnL w' B S v' (l ++ [x]) := by
  have hl : vs.length = l.length := by have := hown.1; omega
  have hs' : Same S w w' := hs.mono fun k _ h => hd k h
  refine ⟨vs ++ [u], by simpa using hown', fun i u' x' h1 h2 => ?_⟩
  by_cases hi : i < l.length
  · rw [List.getElem?_append_left (by omega)] at h1 h2
    exact (he i u' x' h1 h2).keep hs'
  · rw [List.getElem?_append_right (by omega)] at h1 h2
    rw [hl] at h1
    cases hj : i - l.length with
    | zero =>
      rw [hj] at h1 h2
      simp at h1 h2
      subst h1 h2
      exact hu.keep hs'
    | succ j => rw [hj] at h1; simp at h1

/-- A slice of ints that reads as these numbers. -/
def Ints (w : World) (S : Nat → Prop) (v : Value) (ns : List Int) : Prop :=
  ∃ A c, v = .slice A ns.length c ∧ ns.length ≤ c ∧ c ≤ maxLen ∧ Sl w S 1 A ns.length (ns.map (Value.int .i64)) ∧ ∀ n ∈ ns, -9223372036854775808 ≤ n ∧ n ≤ 9223372036854775807
theorem Ints.keep {w w' : World} {S : Nat → Prop} {v : Value} {ns : List Int} (h : Ints w S v ns) (hk : Same S w w') : Ints w' S v ns := by
  obtain ⟨A, c, rfl, hc, hm, hs, hb⟩ := h
  exact ⟨A, c, rfl, hc, hm, hs.keep hk, hb⟩

def JoinedPost (l : List (List UInt8)) (w : World) (e : Ending) (w' : World) : Prop :=
  ∃ u, e = .returned u ∧ w'.ownsRow w.heap.size 5 1 u l.flatten.length (cs8 l.flatten) ∧ Same (fun _ => True) w w'

theorem flat_take_le (l : List (List UInt8)) (k : Nat) : (l.take k).flatten.length ≤ l.flatten.length := by
  conv => rhs; rw [← List.take_append_drop k l, List.flatten_append, List.length_append]
  omega
theorem flat_take_succ (l : List (List UInt8)) (k : Nat) (h : k < l.length) : (l.take (k + 1)).flatten = (l.take k).flatten ++ l[k] := by
  rw [List.take_succ_eq_append_getElem h, List.flatten_append, List.flatten_singleton]

def SpoilPost (v : Value) (w : World) (e : Ending) (w' : World) : Prop := e = .returned (.tuple #[]) ∧ Same (fun k => some k ≠ v.ownBlock) w w'
set_option maxHeartbeats 400000 in
theorem spoil_any (v : Value) (n : Nat) (base : Nat) (xs : List Value) (w : World) (h : w.ownsRow base 5 1 v n xs) :
    Calls Try.prog 54 #[v] w (SpoilPost v w) := by
  rcases ownsRow_row h with ⟨rfl, rfl, rfl⟩ | ⟨g, cap, cur, rfl, hb, hrow, hnc, hcm, hcl, hx⟩
  · clear h
    go_enter Try.func54, Try.ntmps54
    go_wp2
    go_loop [3] (fun i => i = .int .i64 0) (fun i => 0)
    case atStart => rfl
    case round =>
      obtain rfl := hrel
      go_wp2
      go_end0
      exact ⟨rfl, Same.refl _ _⟩
  · clear h hx
    unfold maxLen at hcm
    rw [Nat.mul_one] at hcl
    have Hcl := Lib.hid hcl
    have Hrow := Lib.hid hrow
    clear hcl hrow
    go_enter Try.func54, Try.ntmps54
    go_wp2
    go_loopw [3] (fun i wr => ∃ (k : Nat) (ys : List Value), k ≤ cap ∧ i = .int .i64 k ∧ Hid (ys.length = cap) ∧ Row wr g 5 ys ∧ Same (fun k => k ≠ g) w wr) (fun i _ => cap - (intOf i).toNat)
    case atStart => exact ⟨0, cur, by omega, rfl, Hcl, Hrow, Same.refl _ _⟩
    case round =>
      obtain ⟨k, ys, hk, rfl, hy, hr, hsm⟩ := hrel
      by_cases hlt : k < cap
      · obtain ⟨u, hu⟩ : ∃ u, ys[k]? = some u := ⟨_, List.getElem?_eq_getElem (show k < ys.length by rw [hy.out]; exact hlt)⟩
        have hcell := hr.cell k
        rw [hu] at hcell
        clear hu
        have hfr := hr.frozen k
        go_wp2
        go_roundw
        case rel => exact ⟨k + 1, ys.set k (.int .u8 90), by omega, by go_num, by simpa [Hid] using hy, hr.set_ k _, hsm.setCell (by simp) _⟩
        case measure => simp [intOf]; omega
      · obtain rfl : k = cap := by omega
        go_wp2
        go_end0
        exact ⟨rfl, hsm.mono fun k _ h e => h (by rw [e]; rfl)⟩

/-! ### opening the arguments of a law -/
open Go.ChangeShapes Go.WideShapes Go.ChangeAt
set_option maxRecDepth 100000 in
theorem open_bytes {H : Type} {enc : TypeId × Value → H} {W : World} {base : Nat} {v : Value} {d : DataW H} {ps : List MemPlace} (hval : Value.okWide Try.prog W .any base 24 v)
    (h : DataW.Trod enc Try.prog W 0 (fun _ => true) true 24 v d ps) : ∃ bs, By W (· < W.heap.size) v bs := by
  obtain ⟨a0, len0, cap0, rfl⟩ := okWide_slice Try.underlying24 hval
  obtain ⟨fuel, hf⟩ := h
  obtain ⟨v, l, hv, hby⟩ := By.ofTrod Try.underlying24 Try.underlying5 (by kernel_rfl) hf
  simp [Value.cells] at hv
  subst hv
  exact ⟨l, hby⟩
set_option maxRecDepth 100000 in
theorem open_bytesl {H : Type} {enc : TypeId × Value → H} {W : World} {base : Nat} {v : Value} {d : DataW H} {ps : List MemPlace} (hval : Value.okWide Try.prog W .any base 22 v)
    (h : DataW.Trod enc Try.prog W 0 (fun _ => true) true 22 v d ps) : ∃ l, ByL W (· < W.heap.size) v l := by
  obtain ⟨a0, len0, cap0, rfl⟩ := okWide_slice Try.underlying22 hval
  obtain ⟨fuel, hf⟩ := h
  obtain ⟨v, l, hv, hby⟩ := ByL.ofTrod Try.underlying22 Try.underlying24 Try.underlying5 (by kernel_rfl) (by kernel_rfl) hf
  simp [Value.cells] at hv
  subst hv
  exact ⟨l, hby⟩
set_option maxRecDepth 100000 in
theorem open_intsl {H : Type} {enc : TypeId × Value → H} {W : World} {base : Nat} {v : Value} {d : DataW H} {ps : List MemPlace} (hval : Value.okWide Try.prog W .any base 48 v)
    (h : DataW.Trod enc Try.prog W 0 (fun _ => true) true 48 v d ps) : ∃ ns, Ints W (· < W.heap.size) v ns := by
  obtain ⟨a0, len0, cap0, rfl⟩ := okWide_slice Try.underlying48 hval
  obtain ⟨fuel, hf⟩ := h
  rcases open_ints Try.underlying48 Try.underlying3 (by kernel_rfl) hf with ⟨hcs, _⟩ | ⟨a, len, cap, zs, hcs, _, hl, hm, hz, _, hcell, hwz⟩
  · simp [Value.cells] at hcs
    obtain ⟨rfl, rfl, rfl⟩ := hcs
    exact ⟨[], none, 0, rfl, by simp, by simp [maxLen], Sl.nil _ _ _ _, by simp⟩
  · simp [Value.cells] at hcs
    obtain ⟨rfl, rfl, rfl⟩ := hcs
    simp only [if_true] at hz
    have e : (zs.take len0).length = len0 := by simp; omega
    refine ⟨zs.take len0, _, cap0, by rw [e], by rw [e]; exact hl, hm, ⟨by simp, fun hn => ⟨_, rfl, ?_, fun j u hu => ?_⟩⟩, fun n hn => i64_of_wf (hwz n (List.mem_of_mem_take hn))⟩
    · have hb := World.block_lt_of_cell? W _ (hcell 0 (by rw [e] at hn; omega))
      rw [block_of_add] at hb
      exact hb
    · simp only [List.getElem?_map, List.getElem?_take] at hu
      split at hu
      · have hj' : j < zs.length := by omega
        rw [List.getElem?_eq_getElem hj'] at hu
        simp at hu
        subst hu
        rw [hcell j hj']
        simp [List.getD, List.getElem?_eq_getElem hj']
      · simp at hu
end Go.Proofs.Ytpjinngngbifoaa
