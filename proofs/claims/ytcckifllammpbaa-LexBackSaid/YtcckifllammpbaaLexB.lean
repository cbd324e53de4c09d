/-
  LexBack: tokens that are written with a blank behind each are read as they were.
-/
import Derived.Test.YtcckifllammpbaaVal1
import Derived.Test.YtcckifllammpbaaCod
import Derived.StillTailTactics
import Derived.Deep.RegionHeld3
set_option linter.unusedSimpArgs false
set_option linter.unusedVariables false
namespace Go.Proofs.Ytcckifllammpbaa
open Go.RowKit Go.ChangeShapes Go.WideShapes Go.ChangeAt

structure ATok where
  kind : Int
  place : Int
  s : List UInt8
  n : Int
def cI : Codec Try.prog 3 Int := cInt .i64 Try.underlying3 (by kernel_rfl)
def cI64 : Codec Try.prog 2 Int := cInt .i64 Try.underlying2 (by kernel_rfl)
def cS : Codec Try.prog 9 (List UInt8) := cStr Try.underlying9 (by kernel_rfl)
set_option maxRecDepth 100000 in
def cTok : Codec Try.prog 28 ATok :=
  cStruct (fcons 0 1 cI (fcons 1 1 cI (fcons 2 1 cS (fcons 3 1 cI64 fnil)))) (fun x => ⟨x.1, x.2.1, x.2.2.1, x.2.2.2.1⟩) Try.underlying28
theorem cTok_cells : Try.prog.cellsOf 28 = 4 := by kernel_rfl
set_option maxRecDepth 100000 in
/-- The cells of one token. -/
theorem tok_at {w : World} {S : Nat → Prop} {A : Option Addr} {n c i : Nat} {ts : List ATok} (h : SlOf cTok w S (.slice A n c) ts) (hi : i < ts.length) :
    ∃ ad, A = some ad ∧ S ad.block ∧ w.cell? (ad.add (i * 4)) = some (.int .i64 ts[i].kind) ∧ w.cell? ⟨(ad.add (i * 4)).block, (ad.add (i * 4)).off + 2, none⟩ = some (.string (str ts[i].s)) ∧ w.cell? ⟨(ad.add (i * 4)).block, (ad.add (i * 4)).off + 3, none⟩ = some (.int .i64 ts[i].n) ∧
      (-9223372036854775808 ≤ ts[i].kind ∧ ts[i].kind ≤ 9223372036854775807) ∧ (-9223372036854775808 ≤ ts[i].n ∧ ts[i].n ≤ 9223372036854775807) ∧ ts[i].s.length ≤ maxLen := by
  obtain ⟨A', c', hv, _, _, he⟩ := h
  injection hv with hA
  subst hA
  obtain ⟨ad, us, rfl, hS, hc, hlen, ⟨x0, x1, x2, x3, x4⟩, hx, h0, h1, h2, h3, -⟩ := he i ts[i] (List.getElem?_eq_getElem hi)
  rw [hx]
  rw [cTok_cells] at hlen hc
  match us, hlen with
  | [a0, a1, a2, a3], _ =>
    obtain ⟨b0, w0⟩ := h0
    obtain ⟨b1, w1⟩ := h1
    obtain ⟨b2, w2⟩ := h2
    obtain ⟨b3, w3⟩ := h3
    obtain rfl := (List.cons.inj b0).1
    obtain rfl := (List.cons.inj b1).1
    obtain rfl := (List.cons.inj b2).1
    obtain rfl := (List.cons.inj b3).1
    exact ⟨ad, rfl, hS, hc 0 _ rfl, (by have := hc 2 _ rfl; rwa [← add_of_add] at this), (by have := hc 3 _ rfl; rwa [← add_of_add] at this), i64_of_wf w0, i64_of_wf w3, w2⟩
set_option maxRecDepth 100000 in
theorem open_toks {H : Type} {enc : TypeId × Value → H} {W : World} {base : Nat} {v : Value} {d : DataW H} {ps : List MemPlace} (hval : Value.okWide Try.prog W .any base 23 v)
    (h : DataW.Trod enc Try.prog W 0 (fun _ => true) true 23 v d ps) : ∃ ts, SlOf cTok W (· < W.heap.size) v ts := by
  obtain ⟨a0, len0, cap0, rfl⟩ := okWide_slice Try.underlying23 hval
  obtain ⟨fuel, hf⟩ := h
  obtain ⟨v, l, hv, hby⟩ := SlOf.opens (C := cTok) Try.underlying23 (by rw [cTok_cells]; omega) hf
  simp [Value.cells] at hv
  subst hv
  exact ⟨l, hby⟩
set_option maxHeartbeats 1000000 in
theorem lexword_all (s : ByteArray) (w : World) (hm : Mx w) {b : Bool} (hb : wordF (bl s) = b) :
    Calls Try.prog 17 #[.string s] w fun e w' => e = .returned (.bool b) ∧ Same (fun _ => True) w w' := by
  subst hb
  by_cases h16 : s.size ≤ 16
  · exact lexword_any s w (by omega) hm
  · have hbl := bl_len s
    obtain ⟨e1, e2⟩ := isEmpty_of s (by omega)
    have K : wordF (bl s) = false := by unfold wordF; rw [decide_eq_false (by omega)]; rfl
    have HK := Lib.hid K
    have d1 : decide ((16 : Int) < s.size) = true := decide_eq_true (by omega)
    clear K hbl
    go_enter Try.func17, Try.ntmps17
    go_wp2
    go_ret
    exact ⟨by rw [HK.out]; rfl, Same.refl _ _⟩
theorem back_snoc (tab : Bool) (xs : List (List UInt8 × Tok)) (x : List UInt8 × Tok) : backS tab (xs ++ [x]) = backS tab xs ++ (x.1 ++ sepL tab) := by simp [backS]
theorem backW_snoc (tab : Bool) (x : List UInt8 × Tok) : ∀ (xs : List (List UInt8 × Tok)) (i : Nat), backW tab i (xs ++ [x]) = backW tab i xs ++ [(i + (backS tab xs).length, x.2)]
  | [], i => by simp [backW, backS]
  | y :: xs, i => by
    simp only [List.cons_append, backW, backW_snoc tab x xs]
    congr 4
    simp [backS]
    omega
theorem backW_len (tab : Bool) : ∀ (xs : List (List UInt8 × Tok)) (i : Nat), (backW tab i xs).length = xs.length
  | [], _ => rfl
  | _ :: xs, _ => by simp [backW, backW_len tab xs]
theorem word_of {l : List UInt8} (h : wordF (bl (str l)) = true) : l.length ≤ 140 ∧ Good (l, ⟨1, l, 0⟩) := by
  rw [bl_str] at h
  unfold wordF at h
  simp only [Bool.and_eq_true, decide_eq_true_eq] at h
  refine ⟨by omega, ?_, by simp, fun r => tok_word l h.1.2 r⟩
  intro e
  subst e
  simp [wordOk] at h
theorem back_adds (p y : List UInt8) (hp : p.length ≤ 100000) (hy : y.length ≤ 1000) :
    (∀ w, (Op.stringOp .add (str p) (str y)).run Try.prog w = .ok (.string (str (p ++ y))) w) ∧ (∀ w, (Op.stringOp .add (str (p ++ y)) ⟨#[32]⟩).run Try.prog w = .ok (.string (str (p ++ (y ++ [32])))) w) ∧
    (∀ w, (Op.stringOp .add (str (p ++ (y ++ [32]))) ⟨#[9, 10]⟩).run Try.prog w = .ok (.string (str (p ++ (y ++ [32, 9, 10])))) w) := by
  refine ⟨fun w => add_strs p y (by omega) (by omega) w, fun w => ?_, fun w => ?_⟩
  · have := add_strs (p ++ y) [32] (by simp; omega) (by simp) w
    rw [List.append_assoc] at this
    exact this
  · have := add_strs (p ++ (y ++ [32])) [9, 10] (by simp; omega) (by simp) w
    rw [List.append_assoc, List.append_assoc] at this
    exact this
/-- What the loop holds. -/
def BackRel (tab : Bool) (k : Nat) (xs : List (List UInt8 × Tok)) (want : Value) (w wr : World) : Prop :=
  xs.length = k ∧ (backS tab xs).length ≤ 200 * k ∧ (∀ x ∈ xs, Good x) ∧ OwnT wr w.heap.size want (backW tab 0 xs) ∧ Same (fun _ => True) w wr
set_option maxRecDepth 100000 in
set_option maxHeartbeats 2000000 in
theorem lexback_walk (v : Value) (ts : List ATok) (tab : Bool) (S : Nat → Prop) (w : World) (hv : SlOf cTok w S v ts) (hm : Mx w) : Calls Try.prog 5 #[v, .bool tab] w (TrueP w) := by
  have Hv := Lib.hid hv
  obtain ⟨A, c, rfl, hc, hmx, -⟩ := hv
  unfold maxLen at hmx
  by_cases hlong : 100 < ts.length
  · have d1 : decide ((100 : Int) < ts.length) = true := decide_eq_true (by omega)
    go_enter Try.func5, Try.ntmps5
    go_wp2_with (go_at_call 14; refine (lexbegun_any _ hm).mono ?_; rintro e w1 ⟨rfl, hS1⟩)
    go_ret
    exact ⟨rfl, hS1⟩
  · have d1 : decide ((100 : Int) < ts.length) = false := decide_eq_false (by omega)
    go_enter Try.func5, Try.ntmps5
    go_wp2_with (go_at_call 14; refine (lexbegun_any _ hm).mono ?_; rintro e w1 ⟨rfl, hS1⟩)
    go_loopw [5, 6, 7, 8, 9] (fun t u i _ _ wr => ∃ (k : Nat) (xs : List (List UInt8 × Tok)), k ≤ ts.length ∧ i = .int .i64 k ∧ t = .string (str (backS tab xs)) ∧ BackRel tab k xs u w wr) (fun _ _ i _ _ _ => ts.length - (intOf i).toNat)
    case atStart => exact ⟨0, [], Nat.zero_le _, rfl, rfl, rfl, by simp [backS], by simp, OwnT.nil _ _, hS1⟩
    case round =>
      obtain ⟨k, xs, hk, rfl, rfl, hxl, hbl, hgood, hown, hS⟩ := hrel
      clear hS1
      have HS := Lib.hid hS
      have Hown := Lib.hid hown
      have Hgood := Lib.hid hgood
      have Hxl := Lib.hid hxl
      obtain ⟨A2, c2, rfl, b1, b2⟩ := hown.form
      rw [backW_len, hxl] at b1
      have hsz := hS.size
      unfold maxLen at b2
      by_cases hlt : k < ts.length
      · obtain ⟨ad, rfl, hSa, c0, cs, cn, kb, nb, sb⟩ := tok_at (Hv.out.keep (hS.mono fun _ _ _ => trivial)) hlt
        have hab : (ad.add (k * 4)).block < wr.heap.size := World.block_lt_of_cell? wr _ c0
        have hm2 := hm.keep hS
        clear hown hS hgood hxl hSa
        generalize ts[k] = tk at *
        generalize hadd : ad.add (k * 4) = a4 at *
        by_cases k1 : tk.kind = 1
        · rw [k1] at c0
          clear k1 kb
          cases hw : wordF (bl (str tk.s))
          · have g := fun W (h : Mx W) => lexword_all (str tk.s) W h hw
            clear hw
            go_wp2_with (go_at_call 17; refine (g _ (hm2.keep ((Same.refl _ _).alloc _))).mono ?_; rintro e w2 ⟨rfl, hS2⟩)
            go_ret
            exact ⟨rfl, (HS.out.alloc _).trans hS2⟩
          · have g := fun W (h : Mx W) => lexword_all (str tk.s) W h hw
            have HW := Lib.hid hw
            clear hw
            go_wp2_with (go_at_call 17; refine stopAt ?_)
            unfold Hid
            refine (g _ (hm2.keep ((Same.refl _ _).alloc _))).mono ?_
            rintro e w2 ⟨rfl, hS2⟩
            have hrow := (Row.new wr 28 [.int .i64 1, .int .i64 0, .string ⟨#[]⟩, .int .i64 0]).keep hS2 trivial
            have hS2' := ((Same.refl (fun _ => True) wr).alloc _).trans hS2
            have hcs := hS2'.cell (p := ⟨a4.block, a4.off + 2, none⟩) trivial cs
            have h0 := hrow.cell 0
            have h1 := hrow.cell 1
            have h2 := hrow.cell 2
            have h3 := hrow.cell 3
            have f0 := hrow.frozen 0
            have f1 := hrow.frozen 1
            have f2 := hrow.frozen 2
            have f3 := hrow.frozen 3
            simp at h0 h1 h2 h3
            have hlt2 : wr.heap.size < w2.heap.size := hrow.lt
            have HS2 := Lib.hid hS2'
            have Hrow := Lib.hid hrow
            clear hS2 hS2' hrow
            go_wp2
            go_still_tail 12, (by kernel_rfl)
            have h0' : w2.drew.cell? ⟨wr.heap.size, 0, none⟩ = some (.int .i64 1) := h0
            have h1' : w2.drew.cell? ⟨wr.heap.size, 1, none⟩ = some (.int .i64 0) := h1
            have h2' : w2.drew.cell? ⟨wr.heap.size, 2, none⟩ = some (.string ⟨#[]⟩) := h2
            have h3' : w2.drew.cell? ⟨wr.heap.size, 3, none⟩ = some (.int .i64 0) := h3
            have f0' : w2.drew.frozen? ⟨wr.heap.size, 0, none⟩ = false := f0
            have f1' : w2.drew.frozen? ⟨wr.heap.size, 1, none⟩ = false := f1
            have f2' : w2.drew.frozen? ⟨wr.heap.size, 2, none⟩ = false := f2
            have f3' : w2.drew.frozen? ⟨wr.heap.size, 3, none⟩ = false := f3
            have hlt3 : wr.heap.size < w2.drew.heap.size := hlt2
            have HS3 := Lib.hid (HS2.out.drew)
            change wpList _ _ _ _ _ w2.drew
            generalize w2.drew = w3 at *
            clear h0 h1 h2 h3 f0 f1 f2 f3 hcs Hrow HS2 hlt2 c0 cs cn
            have hy1 := (word_of HW.out).1
            have Hx : Hid (Good (tk.s, ⟨1, tk.s, 0⟩)) := Lib.hid (word_of HW.out).2
            clear HW g
            obtain ⟨y, hy⟩ : ∃ y, tk.s = y := ⟨_, rfl⟩
            rw [hy] at hy1 Hx ⊢
            clear hy
            have es := str_size (backS tab xs)
            go_wp2_with (at_builtin; refine stopAt ?_)
            unfold Hid
            have hk4 : Same (fun i => i < wr.heap.size) wr ((w3.setCell ⟨wr.heap.size, 2, none⟩ (.string (str y))).setCell ⟨wr.heap.size, 1, none⟩ (.int .i64 ((backS tab xs).length : Int))) := ((HS3.out.mono fun _ _ _ => trivial).setCell (fun h => absurd h (Nat.lt_irrefl _)) _).setCell (fun h => absurd h (Nat.lt_irrefl _)) _
            have hk5 : Same (fun _ => True) w ((w3.setCell ⟨wr.heap.size, 2, none⟩ (.string (str y))).setCell ⟨wr.heap.size, 1, none⟩ (.int .i64 ((backS tab xs).length : Int))) := ((HS.out.trans HS3.out).setCell (fun h => absurd h (by simp; omega)) _).setCell (fun h => absurd h (by simp; omega)) _
            refine wpList_appT1 (c := ((backS tab xs).length, ⟨1, y, 0⟩)) rfl (.tmp 100) (.tmp 102) rfl rfl rfl (by simp) (Hown.out.keep hk4 fun i _ h => h) (by have := hk5.size; exact this) (by rw [backW_len, Hxl.out]; omega) ?_
            intro v' w5 hown5 hS5
            have Hown5 := Lib.hid hown5
            have HS5 := Lib.hid (hk5.trans' hS5 (fun i hi _ => hi))
            clear hown5 hS5 hk4 hk5 es h0' h1' h2' h3' f0' f1' f2' f3' hlt3 HS3
            obtain ⟨a1, a2, a3⟩ := back_adds (backS tab xs) y (by omega) (by omega)
            cases tab
            · go_wp2
              go_roundw
              case rel =>
                refine ⟨k + 1, xs ++ [(y, ⟨1, y, 0⟩)], by omega, by go_num, by rw [back_snoc]; rfl, by rw [List.length_append, Hxl.out]; rfl, ?_, ?_, ?_, HS5.out⟩
                · rw [back_snoc]; simp [sepL]; omega
                · intro x hx
                  rcases List.mem_append.1 hx with h | h
                  · exact Hgood.out x h
                  · rw [List.mem_singleton.1 h]; exact Hx.out
                · rw [backW_snoc, Nat.zero_add]; exact Hown5.out
              case measure => simp [intOf]; omega
            · go_wp2
              go_roundw
              case rel =>
                refine ⟨k + 1, xs ++ [(y, ⟨1, y, 0⟩)], by omega, by go_num, by rw [back_snoc]; rfl, by rw [List.length_append, Hxl.out]; rfl, ?_, ?_, ?_, HS5.out⟩
                · rw [back_snoc]; simp [sepL]; omega
                · intro x hx
                  rcases List.mem_append.1 hx with h | h
                  · exact Hgood.out x h
                  · rw [List.mem_singleton.1 h]; exact Hx.out
                · rw [backW_snoc, Nat.zero_add]; exact Hown5.out
              case measure => simp [intOf]; omega
        · by_cases k2 : tk.kind = 2
          · rw [k2] at c0
            clear k1 k2 kb
            by_cases hneg : tk.n < 0
            · go_wp2
              go_ret
              exact ⟨rfl, HS.out.alloc _⟩
            · obtain ⟨n, hn⟩ : ∃ n : Nat, tk.n = (n : Int) := ⟨tk.n.toNat, by omega⟩
              rw [hn] at cn nb
              have hn0 : ¬ (n : Int) < 0 := by omega
              have g := fun W => refdigits_any n W nb.2
              clear hn hneg
              go_wp2
              go_region_held3 (fun w' => w'.cell? ⟨a4.block, a4.off + 3, none⟩ = some (.int .i64 (n : Int))) (go_keep) ((go_at_call 19; refine (g _).mono ?_; rintro e w' ⟨rfl, rfl⟩))
              have es := str_size (backS tab xs)
              have hy1 : (digL n).length ≤ 140 := by have := digL_len 19 n (by omega) (by omega); omega
              have Hx : Hid (Good (digL n, ⟨2, [], n⟩)) := Lib.hid ⟨digL_ne n, by simp, fun r => tok_dig n (by unfold maxI; omega) r⟩
              generalize digL n = y at *
              clear g
              go_wp2_with (at_builtin; refine stopAt ?_)
              unfold Hid
              have hk4 : Same (fun i => i < wr.heap.size) wr ((wr.alloc (.cells #[.int .i64 2, .int .i64 ((backS tab xs).length : Int), .string ⟨#[]⟩, .int .i64 (n : Int)] 28)).drew) := ((Same.refl _ _).alloc _).drew
              have hk5 : Same (fun _ => True) w ((wr.alloc (.cells #[.int .i64 2, .int .i64 ((backS tab xs).length : Int), .string ⟨#[]⟩, .int .i64 (n : Int)] 28)).drew) := (HS.out.alloc _).drew
              refine wpList_appT1 (w := ((wr.alloc (.cells #[.int .i64 2, .int .i64 ((backS tab xs).length : Int), .string ⟨#[]⟩, .int .i64 (n : Int)] 28)).drew)) (c := ((backS tab xs).length, ⟨2, [], n⟩)) rfl (.tmp 100) (.tmp 102) rfl rfl rfl (by simp) (Hown.out.keep hk4 fun i _ h => h) (by have := hk5.size; exact this) (by rw [backW_len, Hxl.out]; omega) ?_
              intro v' w5 hown5 hS5
              have Hown5 := Lib.hid hown5
              have HS5 := Lib.hid (hk5.trans' hS5 (fun i hi _ => hi))
              clear hown5 hS5 hk4 hk5 es
              obtain ⟨a1, a2, a3⟩ := back_adds (backS tab xs) y (by omega) (by omega)
              cases tab
              · go_wp2
                go_roundw
                case rel =>
                  refine ⟨k + 1, xs ++ [(y, ⟨2, [], n⟩)], by omega, by go_num, by rw [back_snoc]; rfl, by rw [List.length_append, Hxl.out]; rfl, ?_, ?_, ?_, HS5.out⟩
                  · rw [back_snoc]; simp [sepL]; omega
                  · intro x hx
                    rcases List.mem_append.1 hx with h | h
                    · exact Hgood.out x h
                    · rw [List.mem_singleton.1 h]; exact Hx.out
                  · rw [backW_snoc, Nat.zero_add]; exact Hown5.out
                case measure => simp [intOf]; omega
              · go_wp2
                go_roundw
                case rel =>
                  refine ⟨k + 1, xs ++ [(y, ⟨2, [], n⟩)], by omega, by go_num, by rw [back_snoc]; rfl, by rw [List.length_append, Hxl.out]; rfl, ?_, ?_, ?_, HS5.out⟩
                  · rw [back_snoc]; simp [sepL]; omega
                  · intro x hx
                    rcases List.mem_append.1 hx with h | h
                    · exact Hgood.out x h
                    · rw [List.mem_singleton.1 h]; exact Hx.out
                  · rw [backW_snoc, Nat.zero_add]; exact Hown5.out
                case measure => simp [intOf]; omega
          · by_cases k3 : tk.kind = 3
            · rw [k3] at c0
              clear k1 k2 k3 kb
              have es3 := str_size tk.s
              by_cases h64 : 64 < tk.s.length
              · go_wp2
                go_ret
                exact ⟨rfl, HS.out.alloc _⟩
              · have es := str_size (backS tab xs)
                have hy1 : (39 :: dbl tk.s ++ [39]).length ≤ 140 := by have := dbl_len tk.s; simp; omega
                have Hx : Hid (Good (39 :: dbl tk.s ++ [39], ⟨3, tk.s, 0⟩)) := Lib.hid ⟨by simp, by simp, fun r => tok_text tk.s (by omega) r⟩
                have g := fun W => refshow_text (str tk.s) W (by rw [es3]; omega)
                rw [bl_str] at g
                have hrow := Row.new wr 28 [.int .i64 3, .int .i64 0, .string ⟨#[]⟩, .int .i64 0]
                have hkeep : ∀ W3, Same (fun _ => True) (wr.alloc (.cells #[.int .i64 3, .int .i64 0, .string ⟨#[]⟩, .int .i64 0] 28)) W3 →
                    W3.cell? ⟨a4.block, a4.off + 2, none⟩ = some (.string (str tk.s)) ∧ W3.cell? ⟨wr.heap.size, 0, none⟩ = some (.int .i64 3) ∧ W3.cell? ⟨wr.heap.size, 1, none⟩ = some (.int .i64 0) ∧ W3.cell? ⟨wr.heap.size, 2, none⟩ = some (.string ⟨#[]⟩) ∧ W3.cell? ⟨wr.heap.size, 3, none⟩ = some (.int .i64 0) ∧
                    W3.frozen? ⟨wr.heap.size, 1, none⟩ = false ∧ W3.frozen? ⟨wr.heap.size, 2, none⟩ = false ∧ wr.heap.size < W3.heap.size := fun W3 h =>
                  ⟨(((Same.refl (fun _ => True) wr).alloc _).trans h).cell (p := ⟨a4.block, a4.off + 2, none⟩) trivial cs, (hrow.keep h trivial).cell 0, (hrow.keep h trivial).cell 1, (hrow.keep h trivial).cell 2, (hrow.keep h trivial).cell 3, (hrow.keep h trivial).frozen 1, (hrow.keep h trivial).frozen 2, (hrow.keep h trivial).lt⟩
                have Hkeep := Lib.hid hkeep
                clear hkeep hrow cn
                generalize (39 :: dbl tk.s ++ [39]) = y at *
                go_wp2
                have k0 : ∀ W3, Same (fun _ => True) (wr.alloc (.cells #[.int .i64 3, .int .i64 0, .string ⟨#[]⟩, .int .i64 0] 28)).drew W3 → Same (fun _ => True) (wr.alloc (.cells #[.int .i64 3, .int .i64 0, .string ⟨#[]⟩, .int .i64 0] 28)) W3 := fun W3 h => ((Same.refl (fun _ => True) _).drew).trans h
                have hne : ¬ a4.block = wr.heap.size := by omega
                go_region_held3 (fun w' => w'.cell? ⟨a4.block, a4.off + 2, none⟩ = some (.string (str tk.s))) (first | assumption | go_keep | (exact ((Same.refl (fun i => i ≠ wr.heap.size) _).setCell (fun _ h => h rfl) _).cell (p := ⟨a4.block, a4.off + 2, none⟩) hne (by assumption))) ((go_at_call 20; refine (g _).mono ?_; rintro e w3 ⟨rfl, hS3⟩; obtain ⟨z0, z1, z2, z3, z4, z5, z6, z7⟩ := Hkeep.out w3 (k0 _ hS3)))
                clear z0
                have HS3 : Hid (Same (fun _ => True) wr w3) := Lib.hid (((Same.refl (fun _ => True) wr).alloc _).trans (k0 _ hS3))
                clear k0 hS3 g Hkeep
                rename_i hHeld
                clear hHeld
                go_wp2_with (at_builtin; refine stopAt ?_)
                unfold Hid
                have hk4 : Same (fun i => i < wr.heap.size) wr ((w3.setCell ⟨wr.heap.size, 2, none⟩ (.string (str tk.s))).setCell ⟨wr.heap.size, 1, none⟩ (.int .i64 ((backS tab xs).length : Int))) := ((HS3.out.mono fun _ _ _ => trivial).setCell (fun h => absurd h (Nat.lt_irrefl _)) _).setCell (fun h => absurd h (Nat.lt_irrefl _)) _
                have hk5 : Same (fun _ => True) w ((w3.setCell ⟨wr.heap.size, 2, none⟩ (.string (str tk.s))).setCell ⟨wr.heap.size, 1, none⟩ (.int .i64 ((backS tab xs).length : Int))) := ((HS.out.trans HS3.out).setCell (fun h => absurd h (by simp; omega)) _).setCell (fun h => absurd h (by simp; omega)) _
                refine wpList_appT1 (c := ((backS tab xs).length, ⟨3, tk.s, 0⟩)) rfl (.tmp 100) (.tmp 102) rfl rfl rfl (by simp) (Hown.out.keep hk4 fun i _ h => h) (by have := hk5.size; exact this) (by rw [backW_len, Hxl.out]; omega) ?_
                intro v' w5 hown5 hS5
                have Hown5 := Lib.hid hown5
                have HS5 := Lib.hid (hk5.trans' hS5 (fun i hi _ => hi))
                clear hown5 hS5 hk4 hk5 es z1 z2 z3 z4 z5 z6 z7 HS3 cs
                obtain ⟨a1, a2, a3⟩ := back_adds (backS tab xs) y (by omega) (by omega)
                cases tab
                · go_wp2
                  go_roundw
                  case rel =>
                    refine ⟨k + 1, xs ++ [(y, ⟨3, tk.s, 0⟩)], by omega, by go_num, by rw [back_snoc]; rfl, by rw [List.length_append, Hxl.out]; rfl, ?_, ?_, ?_, HS5.out⟩
                    · rw [back_snoc]; simp [sepL]; omega
                    · intro x hx
                      rcases List.mem_append.1 hx with h | h
                      · exact Hgood.out x h
                      · rw [List.mem_singleton.1 h]; exact Hx.out
                    · rw [backW_snoc, Nat.zero_add]; exact Hown5.out
                  case measure => simp [intOf]; omega
                · go_wp2
                  go_roundw
                  case rel =>
                    refine ⟨k + 1, xs ++ [(y, ⟨3, tk.s, 0⟩)], by omega, by go_num, by rw [back_snoc]; rfl, by rw [List.length_append, Hxl.out]; rfl, ?_, ?_, ?_, HS5.out⟩
                    · rw [back_snoc]; simp [sepL]; omega
                    · intro x hx
                      rcases List.mem_append.1 hx with h | h
                      · exact Hgood.out x h
                      · rw [List.mem_singleton.1 h]; exact Hx.out
                    · rw [backW_snoc, Nat.zero_add]; exact Hown5.out
                  case measure => simp [intOf]; omega
            · have e1 : (tk.kind == 1) = false := by simpa using k1
              have e2 : (tk.kind == 2) = false := by simpa using k2
              have e3 : (tk.kind == 3) = false := by simpa using k3
              clear k1 k2 k3
              go_wp2
              go_ret
              exact ⟨rfl, HS.out.alloc _⟩
      · obtain rfl : k = ts.length := by omega
        have Hgood' := lex_back tab xs 0 Hgood.out
        obtain ⟨P, hP⟩ : ∃ P, backS tab xs = P := ⟨_, rfl⟩
        obtain ⟨L, hL⟩ : ∃ L, backW tab 0 xs = L := ⟨_, rfl⟩
        have hLl : L.length = ts.length := by rw [← hL, backW_len, hxl]
        rw [hP, hL] at Hgood'
        rw [hP] at hbl ⊢
        rw [hL] at Hown hown ⊢
        have b1' : L.length ≤ c2 := by omega
        have es := str_size P
        have g := fun W => lexlex_any (str P) W (by rw [es]; omega)
        rw [bl_str] at g
        have HL := Lib.hid hLl
        have hl1 : L.length ≤ 100 := by omega
        clear hown hS hgood hxl hP hL hLl hlt
        by_cases h2000 : 2000 < P.length
        · have K : lexF P = (3, []) := by unfold lexF; rw [if_pos h2000]
          rw [K] at g
          clear K Hgood'
          go_wp2_with (go_at_call 15; refine (g _).mono ?_; rintro e w2 ⟨v1, rfl, hown1, hS1⟩)
          go_ret
          exact ⟨rfl, HS.out.trans hS1⟩
        · have K : lexF P = (0, L ++ [(P.length, ⟨0, [], 0⟩)]) := by unfold lexF; rw [if_neg h2000, Hgood']; rfl
          rw [K] at g
          clear K Hgood'
          go_wp2_with (go_at_call 15; refine stopAt ?_)
          unfold Hid
          refine (g _).mono ?_
          rintro e w2 ⟨v1, rfl, hown1, hS1⟩
          obtain ⟨gm, cm, rfl, b5, b6, b7, b8, t1⟩ := hown1.from_ (by simp)
          unfold maxLen at b8
          have T1 := Lib.hid t1
          have HSq := Lib.hid (HS.out.trans hS1)
          have Hown2 := Lib.hid (Hown.out.keepAll hS1)
          obtain ⟨p0, p1, p2, p3⟩ := t1.cells L.length (by simp) (Nat.zero_le _)
          simp only [List.getElem_append_right (Nat.le_refl _), Nat.sub_self, List.getElem_cons_zero] at p0 p1 p2 p3
          clear t1 hown1 hS1 g
          simp only [List.length_append, List.length_cons, List.length_nil, Nat.zero_add] at b7 ⊢
          have p0' : w2.cell? ⟨gm, L.length * 4, none⟩ = some (.int .i64 0) := p0
          have p2' : w2.cell? ⟨gm, L.length * 4 + 2, none⟩ = some (.string ⟨#[]⟩) := p2
          have p3' : w2.cell? ⟨gm, L.length * 4 + 3, none⟩ = some (.int .i64 0) := p3
          clear p0 p2 p3
          by_cases hn : L.length = 0
          · have hL0 : L = [] := List.eq_nil_of_length_eq_zero hn
            subst hL0
            simp only [List.length_nil, Nat.zero_mul, Nat.zero_add] at p0' p1 p2' p3' b7 b1' ⊢
            go_wp2
            go_loopw [12] (fun i wq => i = .int .i64 0 ∧ Same (fun _ => True) w wq) (fun _ _ => 0)
            case atStart => exact ⟨rfl, HSq.out⟩
            case round =>
              obtain ⟨rfl, hSr⟩ := hrel
              have HSr := Lib.hid hSr
              clear hSr
              go_wp2
              go_ret
              exact ⟨rfl, HSr.out⟩
          · obtain ⟨gw, cw, ew, b9, b10, b11, b12, t2⟩ := Hown2.out.from_ (by omega)
            injection ew with ew1 ew2 ew3
            subst ew1 ew3
            have T2 := Lib.hid t2
            clear t2 b12
            go_wp2
            go_loopw [12] (fun i wq => ∃ j : Nat, j ≤ L.length ∧ i = .int .i64 j ∧ Same (fun _ => True) w2 wq) (fun i _ => L.length - (intOf i).toNat)
            case atStart => exact ⟨0, Nat.zero_le _, rfl, Same.refl _ _⟩
            case round =>
              obtain ⟨j, hj, rfl, hSr⟩ := hrel
              have HSr := Lib.hid hSr
              clear hSr
              by_cases hlt : j < L.length
              · have x1 : (0 : Int) ≤ j := by omega
                have x2 : (j : Int) < L.length := by omega
                have x3 : (j : Int) < (L.length : Int) + 1 := by omega
                obtain ⟨y0, y1, y2, y3⟩ := (T1.out.keep HSr.out trivial).cells j (by simp; omega) (Nat.zero_le _)
                obtain ⟨z0, z1, z2, z3⟩ := (T2.out.keep HSr.out trivial).cells j hlt (Nat.zero_le _)
                rw [List.getElem_append_left hlt] at y0 y1 y2 y3
                clear p0' p1 p2' p3'
                go_wp2
                go_quiet (fail)
                go_wp2
                exact ⟨⟨j + 1, by omega, by go_num, HSr.out.drewN _⟩, by simp [intOf]; omega⟩
              · obtain rfl : j = L.length := by omega
                go_wp2
                go_ret
                exact ⟨rfl, HSq.out.trans HSr.out⟩
end Go.Proofs.Ytcckifllammpbaa
