/-
  The words, plain models and short walks of mvcc that the claims share (written by bundle.py out of: MvS). No condition.
-/
import Derived.Test.YtoldelocfmpccaaMvKH
set_option linter.unusedSimpArgs false
set_option linter.unusedVariables false
namespace Go.Proofs.Ytoldelocfmpccaa
open Go.RowKit

theorem own_cap {w : World} {B : Nat} {e : TypeId} {size : Nat} {v : Value} {n : Nat} {xs : List Value} (h : w.ownsRow B e size v n xs) : ∃ A c, v = .slice A n c ∧ n ≤ c ∧ c ≤ maxLen := by
  rcases h.2 with ⟨rfl, rfl⟩ | ⟨g, cap, cur, rfl, _, _, h1, h2, _⟩
  · exact ⟨none, 0, rfl, by omega, by simp [maxLen]⟩
  · exact ⟨_, _, rfl, h1, h2⟩
theorem own_ge {w : World} {B : Nat} {e : TypeId} {size : Nat} {v : Value} {n : Nat} {xs : List Value} (h : w.ownsRow B e size v n xs) {k : Nat} (hk : some k = v.ownBlock) : B ≤ k := (h.lt k hk.symm).1
theorem own_lower {w : World} {B B' : Nat} {e : TypeId} {size : Nat} {v : Value} {n : Nat} {xs : List Value} (h : w.ownsRow B e size v n xs) (hb : B' ≤ B) : w.ownsRow B' e size v n xs :=
  ⟨h.1, h.2.imp id fun ⟨g, c, cu, h1, h2, h3⟩ => ⟨g, c, cu, h1, Nat.le_trans hb h2, h3⟩⟩
/-- A row of structs that the call owns. -/
def OwnR {α : Type} (f : α → List Value) (n : Nat) (e : TypeId) (w : World) (B : Nat) (v : Value) (l : List α) : Prop := w.ownsRow B e n v l.length (l.flatMap f)
section
variable {α : Type} {f : α → List Value} {n : Nat} {e : TypeId} {w w' : World} {B : Nat} {v : Value} {l : List α}
theorem OwnR.nil (w : World) (B : Nat) : OwnR f n e w B (.slice none 0 0) [] := World.ownsRow_nil _ _ _ _
theorem OwnR.keepAll (h : OwnR f n e w B v l) (hs : Same (fun _ => True) w w') : OwnR f n e w' B v l := own_keepAll h hs
theorem OwnR.keep {S : Nat → Prop} (h : OwnR f n e w B v l) (hs : Same S w w') (hS : ∀ k, B ≤ k → k < w.heap.size → S k) : OwnR f n e w' B v l :=
  own_keep h (hs.mono (S' := fun k => S k) fun _ _ h => h) fun k hk => hS k (own_ge h hk.symm) (h.lt k hk).2
theorem OwnR.form (h : OwnR f n e w B v l) : ∃ A c, v = .slice A l.length c ∧ l.length ≤ c ∧ c ≤ maxLen := own_cap h
theorem OwnR.lt_ (h : OwnR f n e w B v l) {k : Nat} (hk : v.ownBlock = some k) : B ≤ k ∧ k < w.heap.size := h.lt k hk
/-- One struct behind a row that the call owns: its cells were laid into a block of their own. -/
theorem wpList_appR1 {P : Program} {t : TypeId} {bytes : Nat} {z : Value} (T : SlT P t e n bytes z) (hf : ∀ x, (f x).length = n) (h1 : ∀ x, ∀ u ∈ f x, u.oneCell' = true) {w : World} {ops : Array Oper} {rest : List Oper} {o : Oper} {a : Act} {Q : Exit → Act → World → Prop} (hgd : o.guard = none) (s x : Operand)
    (ho : o.op = .call { callee := .builtin .append, args := #[s, x], argTypes := #[t, t] }) {B : Nat} {v : Value} {l : List α} {c : α}
    (hs : a.eval s = v) {g : Nat} (hx : a.eval x = .slice (some ⟨g, 0, none⟩) 1 1) (hg : g = w.heap.size) (hown : OwnR f n e w B v l) (hB : B ≤ w.heap.size) (hlen : l.length + 1 ≤ maxLen) (hbytes : (l.length + 1) * bytes ≤ 140737488355328)
    (hK : ∀ v' w', OwnR f n e w' B v' (l ++ [c]) → Same (fun k => k < B) w w' → wpList P ops Q rest (a.put o.dst v') w') : wpList P ops Q (o :: rest) a (w.alloc (.cells (f c).toArray e)) := by
  subst hg
  have hs1 : Same (fun _ => True) w (w.alloc (.cells (f c).toArray e)) := (Same.refl _ _).alloc _
  have hrow := Row.new w e (f c)
  have hsl := hrow.sl (size := n) (off := 0) (n := 1) (by rw [hf]; omega)
  rw [List.drop_zero, List.take_of_length_le (by rw [hf]; omega)] at hsl
  refine wpList_app T _ hgd s x ho B v l.length (l.flatMap f) hs (hown.keepAll hs1) _ _ 1 1 (f c) hx hsl (h1 c) hlen hbytes (by simp; omega) ?_
  intro v' w' h2 h3 h4
  refine hK v' w' ?_ ((hs1.mono fun _ _ _ => trivial).trans (h3.mono fun k _ hk e' => by have := (hown.keepAll hs1).lt_ e'.symm; omega))
  unfold OwnR
  rw [List.length_append, List.flatMap_append]
  simpa using h2
end
def pairCs (p : List UInt8 × List UInt8) : List Value := [.string (str p.1), .string (str p.2)]
theorem pairCs_one (p : List UInt8 × List UInt8) : ∀ u ∈ pairCs p, u.oneCell' = true := by
  intro u hu
  simp only [pairCs, List.mem_cons, List.not_mem_nil, or_false] at hu
  rcases hu with rfl | rfl <;> rfl
theorem TP : SlT Try.prog 55 60 2 32 (.agg #[.string ⟨#[]⟩, .string ⟨#[]⟩]) := ⟨by kernel_rfl, by kernel_rfl, rfl, by omega⟩
abbrev OwnP (w : World) (B : Nat) (v : Value) (l : List (List UInt8 × List UInt8)) : Prop := OwnR pairCs 2 60 w B v l
/-- What cells tell, key by key. -/
def pairF (a : St) (c : Cel) : List (List UInt8 × List UInt8) := if (tellsF c.vers a).2 then [(c.key, (tellsF c.vers a).1)] else []
def pairsF (a : St) (l : List Cel) : List (List UInt8 × List UInt8) := l.flatMap (pairF a)
def scanF (cs : List Cel) (lo hi : List UInt8) (a : St) (most : Int) : List (List UInt8 × List UInt8) × Int :=
  if max most 0 < ((pairsF a (withinF cs lo hi)).length : Int) then ([], 3) else (pairsF a (withinF cs lo hi), 0)
def ScanP (r : List (List UInt8 × List UInt8) × Int) (w : World) (e : Ending) (w' : World) : Prop :=
  ∃ v, e = .returned (.tuple #[v, .int .i64 r.2]) ∧ OwnP w' w.heap.size v r.1 ∧ Same (fun _ => True) w w'
theorem pairs_take {a : St} {l : List Cel} {k : Nat} (h : k < l.length) : pairsF a (l.take (k + 1)) = pairsF a (l.take k) ++ pairF a l[k] := by
  unfold pairsF
  rw [List.take_succ_eq_append_getElem h, List.flatMap_append]
  simp
theorem pairs_le (a : St) (l : List Cel) (k : Nat) : (pairsF a (l.take k)).length ≤ (pairsF a l).length := by
  have : pairsF a l = pairsF a (l.take k) ++ pairsF a (l.drop k) := by
    unfold pairsF
    rw [← List.flatMap_append, List.take_append_drop]
  rw [this, List.length_append]
  omega
theorem pairs_len (a : St) : ∀ l : List Cel, (pairsF a l).length ≤ l.length
  | [] => by simp [pairsF]
  | c :: l => by
    have := pairs_len a l
    have e : pairsF a (c :: l) = pairF a c ++ pairsF a l := by simp [pairsF]
    rw [e, List.length_append, List.length_cons]
    unfold pairF
    split <;> simp <;> omega
/-- What Scan's loop holds. -/
def ScanRel (a : St) (L : List Cel) (most : Int) (k q : Nat) (l : Value) (w w2 wr : World) : Prop :=
  k ≤ L.length ∧ ((pairsF a (L.take k)).length : Int) ≤ max most 0 ∧ OwnP wr w2.heap.size l (pairsF a (L.take k)) ∧ Row wr q 28 (stCs a) ∧ Same (fun _ => True) w2 wr ∧ Same (fun _ => True) w wr
set_option maxHeartbeats 2000000 in
theorem mvscan_any (v : Value) (cs : List Cel) (lo hi : List UInt8) (a : St) (most : Int) (S : Nat → Prop) (w : World) (hv : CelR w S v cs) (hS : ∀ k, S k → k < w.heap.size) (hso : Sorted cs) (hn : cs.length ≤ 1000000) :
    Calls Try.prog 33 #[v, .agg #[.string (str lo), .string (str hi)], stV a, .int .i64 most] w (ScanP (scanF cs lo hi a most) w) := by
  obtain ⟨A, cp, rfl, hc, hm⟩ := hv.form
  have Hv := Lib.hid hv
  unfold maxLen at hm
  obtain ⟨L, hL⟩ : ∃ L, withinF cs lo hi = L := ⟨_, rfl⟩
  have hLn : L.length ≤ 1000000 := by
    have : (withinF cs lo hi).length ≤ cs.length := List.length_filter_le _ _
    rw [hL] at this
    omega
  have K : scanF cs lo hi a most = if max most 0 < ((pairsF a L).length : Int) then ([], 3) else (pairsF a L, 0) := by unfold scanF; rw [hL]
  have HK := Lib.hid K
  have g := fun W h => within_any (.slice A cs.length cp) cs lo hi S W h hso hn
  rw [hL] at g
  obtain ⟨W0, hW0⟩ : ∃ W0, W0 = (w.alloc (.cells #[.string (str lo), .string (str hi)] 53)).alloc (.cells (stCs a).toArray 28) := ⟨_, rfl⟩
  have hS0 : Same (fun _ => True) w W0 := by rw [hW0]; exact ((Same.refl _ _).alloc _).alloc _
  have hr1 : Row W0 (w.heap.size + 1) 28 (stCs a) := by
    have := Row.new (w.alloc (.cells #[.string (str lo), .string (str hi)] 53)) 28 (stCs a)
    rw [World.size_alloc] at this
    rw [hW0]; exact this
  have HS0 := Lib.hid hS0
  have Hr1 := Lib.hid hr1
  have HW0 := Lib.hid hW0
  clear K hL hv hso hW0 hS0 hr1
  go_enter Try.func33, Try.ntmps33
  go_wp2_with (go_at_call 73; refine stopAt ?_)
  unfold Hid
  have e0 := HW0.out
  simp only [stCs] at e0
  rw [← e0]
  clear e0
  refine (g _ (Hv.out.keepAll HS0.out)).mono ?_
  rintro e w2 ⟨⟨v', rfl, hcr⟩, hS2⟩
  obtain ⟨A2, cp2, rfl, hc2, hm2⟩ := hcr.form
  unfold maxLen at hm2
  have Hcr := Lib.hid hcr
  have hq2 : w.heap.size + 1 < w2.heap.size := by
    have := Hr1.out.lt
    have := hS2.size
    omega
  have Hq2 := Lib.hid hq2
  have HS2 := Lib.hid hS2
  clear hq2
  clear hcr hS2 g
  go_wp2
  go_loopw [10, 12, 13, 14, 19] (fun l _ _ _ i wr => ∃ k : Nat, i = .int .i64 k ∧ ScanRel a L most k (w.heap.size + 1) l w w2 wr) (fun _ _ _ _ i _ => L.length - (intOf i).toNat)
  case atStart => exact ⟨0, rfl, Nat.zero_le _, by simp [pairsF]; omega, by rw [List.take_zero]; exact OwnR.nil _ _, Hr1.out.keep HS2.out trivial, Same.refl _ _, HS0.out.trans HS2.out⟩
  case round =>
    obtain ⟨k, rfl, hk, hle, hown, hr1, hS3, hS4⟩ := hrel
    have Hr1 := Lib.hid hr1
    have HS3 := Lib.hid hS3
    have HS4 := Lib.hid hS4
    have Hown := Lib.hid hown
    obtain ⟨Al, cl, rfl, hl1, hl2⟩ := hown.form
    unfold maxLen at hl2
    have s0 : wr.cell? ⟨w.heap.size + 1, 0, none⟩ = some (.int .i64 a.wall) := hr1.cell 0
    have s1 : wr.cell? ⟨w.heap.size + 1, 1, none⟩ = some (.int .i64 a.tie) := hr1.cell 1
    have z1 := hr1.lt
    have hpl := pairs_len a (L.take k)
    have hpl2 : (L.take k).length ≤ k := List.length_take_le _ _
    by_cases hlt : k < L.length
    · obtain ⟨ad, u, rfl, -, hvr, c0, c1, c2, c3, c4, c5, c6, c7, c8, c9, c10, c11⟩ := CelR.cells12 (Hcr.out.keepAll hS3) hlt
      obtain ⟨Au, cu, rfl, -, -⟩ := hvr.form
      have x1 : (0 : Int) ≤ (k : Int) := by omega
      have x2 : (k : Int) < (L.length : Int) := by omega
      have hab := World.block_lt_of_cell? wr _ c0
      have hpt := pairs_take (a := a) hlt
      have hple := pairs_le a L (k + 1)
      have Hvr := Lib.hid hvr
      clear hvr
      generalize L[k] = c at *
      have gt := fun W hv' => mvtells_any (.slice Au c.vers.length cu) c a S W hv'
      have hrow := Row.new wr 64 (celCs (.slice Au c.vers.length cu, c))
      have Hrow := Lib.hid hrow
      clear hr1 hS3 hS4 hrow hown
      obtain ⟨tb, td, htd⟩ : ∃ tb td, tellsF c.vers a = (td, tb) := ⟨_, _, rfl⟩
      rw [htd] at gt
      have hpf : pairF a c = if tb then [(c.key, td)] else [] := by unfold pairF; rw [htd]
      rw [hpf] at hpt
      clear htd hpf
      go_wp2_with (go_at_call 70; refine stopAt ?_)
      unfold Hid
      refine (gt _ (RowR.keepAll Hvr.out ((Same.refl _ _).alloc _))).mono ?_
      rintro e w5 ⟨rfl, hS5⟩
      have hrow5 := Hrow.out.keep hS5 trivial
      have y0 : w5.cell? ⟨wr.heap.size, 0, none⟩ = some (.string (str c.key)) := hrow5.cell 0
      have hS6 := ((Same.refl (fun _ => True) wr).alloc (.cells (celCs (.slice Au c.vers.length cu, c)).toArray 64)).trans hS5
      have HS6 := Lib.hid hS6
      clear hS5 hS6 hrow5 gt s0 s1 c0 c1 c2 c3 c4 c5 c6 c7 c8 c9 c10 c11
      cases tb
      · have Hpt := Lib.hid hpt
        clear hpt y0
        go_wp2
        go_roundw
        case rel =>
          refine ⟨k + 1, by go_num, by omega, ?_, ?_, Hr1.out.keep HS6.out trivial, HS3.out.trans HS6.out, HS4.out.trans HS6.out⟩
          · rw [Hpt.out]; simpa using hle
          · rw [Hpt.out]
            have := Hown.out.keepAll HS6.out
            simpa using this
        case measure => simp [intOf]; omega
      · by_cases hmost : most ≤ ((pairsF a (L.take k)).length : Int)
        · have hbig : max most 0 < ((pairsF a L).length : Int) := by
            rw [hpt] at hple
            simp at hple
            omega
          have Hbig := Lib.hid hbig
          clear hpt hbig y0
          go_wp2
          go_ret2
          rw [HK.out, if_pos Hbig.out]
          exact ⟨_, rfl, OwnR.nil _ _, HS4.out.trans HS6.out⟩
        · have Hpt := Lib.hid hpt
          clear hpt
          go_wp2_with (at_builtin; refine stopAt ?_)
          unfold Hid
          refine wpList_appR1 TP (fun _ => rfl) pairCs_one (c := (c.key, td)) rfl (.tmp 35) (.tmp 40) rfl rfl rfl rfl (Hown.out.keepAll HS6.out) (by have := HS3.out.size; have := HS6.out.size; omega) (by simp only [maxLen]; omega) (by omega) ?_
          intro v' w7 hown7 hS7
          have Hown7 := Lib.hid hown7
          have HS7 := Lib.hid hS7
          clear hown7 hS7 y0
          go_wp2
          go_roundw
          case rel =>
            have t1 := HS2.out.size
            have t2 := HS0.out.size
            have t3 := Hr1.out.lt
            have t4 := HS3.out.trans HS6.out
            have t5 := t4.trans' HS7.out fun _ h _ => h
            refine ⟨k + 1, by go_num, by omega, ?_, ?_, (Hr1.out.keep HS6.out trivial).keep HS7.out Hq2.out, t5, (HS0.out.trans HS2.out).trans t5⟩
            · rw [Hpt.out]; simp; omega
            · rw [Hpt.out]; exact Hown7.out
          case measure => simp [intOf]; omega
    · obtain rfl : k = L.length := by omega
      have x1 : ¬ (L.length : Int) < (L.length : Int) := by omega
      have hk2 : pairsF a (L.take L.length) = pairsF a L := by rw [List.take_length]
      rw [hk2] at hown hle
      go_wp2
      go_ret2
      rw [HK.out, if_neg (by omega)]
      exact ⟨_, rfl, own_lower hown (by have := Hq2.out; omega), HS4.out⟩
end Go.Proofs.Ytoldelocfmpccaa
