/-
  Words, plain models, laws and walks that the claims of this layer share (joined by shake.py). No condition.
-/
import Derived.Test.YtdfojghhpdkpfaaGreatDoorA9
import Derived.Test.YtdfojghhpdkpfaaGreatDoorA8
import Derived.Test.YtdfojghhpdkpfaaGreatDoorA7
import Derived.Test.YtdfojghhpdkpfaaGreatDoorA6
import Derived.Test.YtdfojghhpdkpfaaGreatDoorA5
import Derived.Test.YtdfojghhpdkpfaaGreatDoorA4
import Derived.Test.YtdfojghhpdkpfaaGreatDoorA3
import Derived.Test.YtdfojghhpdkpfaaGreatDoorA2
import Derived.Test.YtdfojghhpdkpfaaGreatDoorA12
import Derived.Test.YtdfojghhpdkpfaaGreatDoorA11
import Derived.Test.YtdfojghhpdkpfaaGreatDoorA10
import Derived.Test.YtdfojghhpdkpfaaGreatDoorA1
import Derived.Test.YtdfojghhpdkpfaaGreatDoorB1
set_option linter.unusedSimpArgs false
set_option linter.unusedVariables false
namespace Go.Proofs.YtdfojghhpdkpfaaGreatDoor
open Go.RowKit
set_option maxRecDepth 100000 in
set_option maxHeartbeats 4000000 in
theorem eqf_It (f : Itm → Itm → Bool) (l l' : List Itm) (v v' : Value) (w : World) (h : LsR itCs 7 itOk w (fun _ => True) v l) (h' : LsR itCs 7 itOk w (fun _ => True) v' l')
    (hcall : ∀ (i : Nat) (hi : i < l.length) (hi' : i < l'.length) (u u' : Value) (W : World), itOk W (fun _ => True) u l[i] → itOk W (fun _ => True) u' l'[i] → Calls Tryz.prog 67 #[itV u l[i], itV u' l'[i]] W (BoolP (f l[i] l'[i]) W)) :
    Calls Tryz.prog 72 #[v, v', .func (.func 67) #[] #[]] w (BoolP (sameBy f l l') w) := by
  obtain ⟨A, c, rfl, hc1, hc2⟩ := h.form
  obtain ⟨A', c', rfl, hc1', hc2'⟩ := h'.form
  unfold maxLen at hc2 hc2'
  obtain ⟨X, hX⟩ : ∃ X, X = sameBy f l l' := ⟨_, rfl⟩
  rw [← hX]
  have HX := Lib.hid hX
  have HL := Lib.hid h
  have HL' := Lib.hid h'
  have HC := Lib.hid hcall
  clear hX h h' hcall
  by_cases hlen : l.length = l'.length
  · have en : ((l.length : Int) != (l'.length : Int)) = false := by rw [hlen]; simp
    have HLE := Lib.hid hlen
    clear hlen
    go_enter Tryz.func72, Tryz.ntmps72
    go_wp2
    go_loopw [17] (fun i wr => ∃ q : Nat, i = .int .i64 (q : Int) ∧ q ≤ l.length ∧ X = sameBy f (l.drop q) (l'.drop q) ∧ Same (fun _ => True) w wr) (fun i _ => l.length - (intOf i).toNat)
    case atStart => exact ⟨0, rfl, Nat.zero_le _, HX.out, Same.refl _ _⟩
    case round =>
      obtain ⟨q, rfl, hq, hx, hS⟩ := hrel
      have x1 : (0 : Int) ≤ (q : Int) := by omega
      have HS := Lib.hid hS
      by_cases hql : q < l.length
      · have hql' : q < l'.length := by rw [← HLE.out]; exact hql
        have x2 : (q : Int) < (l.length : Int) := by omega
        have x3 : (q : Int) < (l'.length : Int) := by omega
        obtain ⟨ad, u, rfl, hok, hcl⟩ := LsR.at_ (HL.out.keepAll itK hS) itCs_len hql
        obtain ⟨ad', u', rfl, hok', hcl'⟩ := LsR.at_ (HL'.out.keepAll itK hS) itCs_len hql'
        obtain ⟨A_u, c_u, rfl, -, -⟩ := (show ExR _ _ u l[q].e from hok).toL.form
        obtain ⟨A_u', c_u', rfl, -, -⟩ := (show ExR _ _ u' l'[q].e from hok').toL.form
        have d0 := hcl 0 (by omega)
        rw [add_zero] at d0
        have d1 := hcl 1 (by omega)
        rw [addr_add _ _ (by omega)] at d1
        have d2 := hcl 2 (by omega)
        rw [addr_add _ _ (by omega)] at d2
        have d3 := hcl 3 (by omega)
        rw [addr_add _ _ (by omega)] at d3
        have d4 := hcl 4 (by omega)
        rw [addr_add _ _ (by omega)] at d4
        have d5 := hcl 5 (by omega)
        rw [addr_add _ _ (by omega)] at d5
        have d6 := hcl 6 (by omega)
        rw [addr_add _ _ (by omega)] at d6
        simp only [itCs, exCs, List.getElem?_cons_zero, List.getElem?_cons_succ] at d0 d1 d2 d3 d4 d5 d6
        have g0 := hcl' 0 (by omega)
        rw [add_zero] at g0
        have g1 := hcl' 1 (by omega)
        rw [addr_add _ _ (by omega)] at g1
        have g2 := hcl' 2 (by omega)
        rw [addr_add _ _ (by omega)] at g2
        have g3 := hcl' 3 (by omega)
        rw [addr_add _ _ (by omega)] at g3
        have g4 := hcl' 4 (by omega)
        rw [addr_add _ _ (by omega)] at g4
        have g5 := hcl' 5 (by omega)
        rw [addr_add _ _ (by omega)] at g5
        have g6 := hcl' 6 (by omega)
        rw [addr_add _ _ (by omega)] at g6
        simp only [itCs, exCs, List.getElem?_cons_zero, List.getElem?_cons_succ] at g0 g1 g2 g3 g4 g5 g6
        have hA1 := (Same.refl (fun _ => True) wr).alloc (.cells #[.int .i64 l[q].kind, .int .i64 l[q].e.kind, .string (str l[q].e.s), .int .i64 l[q].e.v.kind, .int .i64 l[q].e.v.n, .string (str l[q].e.v.s), .slice A_u l[q].e.args.length c_u] 63)
        have k0 := hA1.cell (p := ad'.add (q * 7)) trivial g0
        have k1 := hA1.cell (p := ⟨(ad'.add (q * 7)).block, (ad'.add (q * 7)).off + 1, none⟩) trivial g1
        have k2 := hA1.cell (p := ⟨(ad'.add (q * 7)).block, (ad'.add (q * 7)).off + 2, none⟩) trivial g2
        have k3 := hA1.cell (p := ⟨(ad'.add (q * 7)).block, (ad'.add (q * 7)).off + 3, none⟩) trivial g3
        have k4 := hA1.cell (p := ⟨(ad'.add (q * 7)).block, (ad'.add (q * 7)).off + 4, none⟩) trivial g4
        have k5 := hA1.cell (p := ⟨(ad'.add (q * 7)).block, (ad'.add (q * 7)).off + 5, none⟩) trivial g5
        have k6 := hA1.cell (p := ⟨(ad'.add (q * 7)).block, (ad'.add (q * 7)).off + 6, none⟩) trivial g6
        clear hA1
        have HOK := Lib.hid hok
        have HOK' := Lib.hid hok'
        have hd : l.drop q = l[q] :: l.drop (q + 1) := List.drop_eq_getElem_cons hql
        have hd' : l'.drop q = l'[q] :: l'.drop (q + 1) := List.drop_eq_getElem_cons hql'
        rw [hd, hd', sameBy_cons] at hx
        have HXq := Lib.hid hx
        have hS0 : Same (fun _ => True) wr wr := Same.refl _ _
        clear hx hd hd' hok hok' hS hcl hcl'
        go_wp2_with (go_at_call 67; refine stopAt ?_)
        unfold Hid
        refine (HC.out q hql hql' _ _ _ (itK.keep HOK.out (((Same.refl (fun _ => True) wr).alloc _).alloc _)) (itK.keep HOK'.out (((Same.refl (fun _ => True) wr).alloc _).alloc _))).mono ?_
        rintro e w5 ⟨rfl, hS⟩
        have HS5 := Lib.hid ((HS.out.trans (((Same.refl (fun _ => True) wr).alloc _).alloc _)).trans hS)
        clear hS hS0
        cases hb : f l[q] l'[q]
        · have HB : Hid (false = X) := Lib.hid (by rw [HXq.out, hb]; rfl)
          clear hb
          go_wp2
          go_ret
          exact ⟨ret_bool HB.out, HS5.out⟩
        · have HXn : Hid (X = sameBy f (l.drop (q + 1)) (l'.drop (q + 1))) := Lib.hid (by rw [HXq.out, hb]; rfl)
          clear hb
          go_wp2
          go_roundw
          case rel => exact ⟨q + 1, by go_num, by omega, HXn.out, HS5.out⟩
          case measure => simp [intOf]; omega
      · obtain rfl : q = l.length := by omega
        rw [List.drop_length, HLE.out, List.drop_length] at hx
        have HB : Hid (true = X) := Lib.hid (by rw [hx]; rfl)
        clear hx hS
        go_wp2
        go_ret
        exact ⟨ret_bool HB.out, HS.out⟩
  · have en : ((l.length : Int) != (l'.length : Int)) = true := by simpa using fun h : (l.length : Int) = l'.length => hlen (by omega)
    have HB : Hid (false = X) := Lib.hid (by rw [HX.out, sameBy_len hlen])
    clear hlen
    go_enter Tryz.func72, Tryz.ntmps72
    go_wp2
    go_ret
    exact ⟨ret_bool HB.out, Same.refl _ _⟩
set_option maxRecDepth 100000 in
set_option maxHeartbeats 4000000 in
theorem eqf_Rw (f : (List Ex) → (List Ex) → Bool) (l l' : List (List Ex)) (v v' : Value) (w : World) (h : LsR rwCs 1 rwOk w (fun _ => True) v l) (h' : LsR rwCs 1 rwOk w (fun _ => True) v' l')
    (hcall : ∀ (i : Nat) (hi : i < l.length) (hi' : i < l'.length) (u u' : Value) (W : World), rwOk W (fun _ => True) u l[i] → rwOk W (fun _ => True) u' l'[i] → Calls Tryz.prog 69 #[u, u'] W (BoolP (f l[i] l'[i]) W)) :
    Calls Tryz.prog 73 #[v, v', .func (.func 69) #[] #[]] w (BoolP (sameBy f l l') w) := by
  obtain ⟨A, c, rfl, hc1, hc2⟩ := h.form
  obtain ⟨A', c', rfl, hc1', hc2'⟩ := h'.form
  unfold maxLen at hc2 hc2'
  obtain ⟨X, hX⟩ : ∃ X, X = sameBy f l l' := ⟨_, rfl⟩
  rw [← hX]
  have HX := Lib.hid hX
  have HL := Lib.hid h
  have HL' := Lib.hid h'
  have HC := Lib.hid hcall
  clear hX h h' hcall
  by_cases hlen : l.length = l'.length
  · have en : ((l.length : Int) != (l'.length : Int)) = false := by rw [hlen]; simp
    have HLE := Lib.hid hlen
    clear hlen
    go_enter Tryz.func73, Tryz.ntmps73
    go_wp2
    go_loopw [17] (fun i wr => ∃ q : Nat, i = .int .i64 (q : Int) ∧ q ≤ l.length ∧ X = sameBy f (l.drop q) (l'.drop q) ∧ Same (fun _ => True) w wr) (fun i _ => l.length - (intOf i).toNat)
    case atStart => exact ⟨0, rfl, Nat.zero_le _, HX.out, Same.refl _ _⟩
    case round =>
      obtain ⟨q, rfl, hq, hx, hS⟩ := hrel
      have x1 : (0 : Int) ≤ (q : Int) := by omega
      have HS := Lib.hid hS
      by_cases hql : q < l.length
      · have hql' : q < l'.length := by rw [← HLE.out]; exact hql
        have x2 : (q : Int) < (l.length : Int) := by omega
        have x3 : (q : Int) < (l'.length : Int) := by omega
        obtain ⟨ad, u, rfl, hok, hcl⟩ := LsR.at_ (HL.out.keepAll rwK hS) rwCs_len hql
        obtain ⟨ad', u', rfl, hok', hcl'⟩ := LsR.at_ (HL'.out.keepAll rwK hS) rwCs_len hql'
        obtain ⟨A_u, c_u, rfl, -, -⟩ := (show ExL _ _ u l[q] from hok).form
        obtain ⟨A_u', c_u', rfl, -, -⟩ := (show ExL _ _ u' l'[q] from hok').form
        have d0 := hcl 0 (by omega)
        rw [add_zero, Nat.mul_one] at d0
        simp only [rwCs, List.getElem?_cons_zero, List.getElem?_cons_succ] at d0
        have g0 := hcl' 0 (by omega)
        rw [add_zero, Nat.mul_one] at g0
        simp only [rwCs, List.getElem?_cons_zero, List.getElem?_cons_succ] at g0
        have HOK := Lib.hid hok
        have HOK' := Lib.hid hok'
        have hd : l.drop q = l[q] :: l.drop (q + 1) := List.drop_eq_getElem_cons hql
        have hd' : l'.drop q = l'[q] :: l'.drop (q + 1) := List.drop_eq_getElem_cons hql'
        rw [hd, hd', sameBy_cons] at hx
        have HXq := Lib.hid hx
        have hS0 : Same (fun _ => True) wr wr := Same.refl _ _
        clear hx hd hd' hok hok' hS hcl hcl'
        go_wp2_with (go_at_call 69; refine stopAt ?_)
        unfold Hid
        refine (HC.out q hql hql' _ _ _ (rwK.keep HOK.out (hS0)) (rwK.keep HOK'.out (hS0))).mono ?_
        rintro e w5 ⟨rfl, hS⟩
        have HS5 := Lib.hid ((HS.out.trans (hS0)).trans hS)
        clear hS hS0
        cases hb : f l[q] l'[q]
        · have HB : Hid (false = X) := Lib.hid (by rw [HXq.out, hb]; rfl)
          clear hb
          go_wp2
          go_ret
          exact ⟨ret_bool HB.out, HS5.out⟩
        · have HXn : Hid (X = sameBy f (l.drop (q + 1)) (l'.drop (q + 1))) := Lib.hid (by rw [HXq.out, hb]; rfl)
          clear hb
          go_wp2
          go_roundw
          case rel => exact ⟨q + 1, by go_num, by omega, HXn.out, HS5.out⟩
          case measure => simp [intOf]; omega
      · obtain rfl : q = l.length := by omega
        rw [List.drop_length, HLE.out, List.drop_length] at hx
        have HB : Hid (true = X) := Lib.hid (by rw [hx]; rfl)
        clear hx hS
        go_wp2
        go_ret
        exact ⟨ret_bool HB.out, HS.out⟩
  · have en : ((l.length : Int) != (l'.length : Int)) = true := by simpa using fun h : (l.length : Int) = l'.length => hlen (by omega)
    have HB : Hid (false = X) := Lib.hid (by rw [HX.out, sameBy_len hlen])
    clear hlen
    go_enter Tryz.func73, Tryz.ntmps73
    go_wp2
    go_ret
    exact ⟨ret_bool HB.out, Same.refl _ _⟩
set_option maxRecDepth 100000 in
set_option maxHeartbeats 4000000 in
theorem eqf_As (f : Asn → Asn → Bool) (l l' : List Asn) (v v' : Value) (w : World) (h : LsR asCs 7 asOk w (fun _ => True) v l) (h' : LsR asCs 7 asOk w (fun _ => True) v' l')
    (hcall : ∀ (i : Nat) (hi : i < l.length) (hi' : i < l'.length) (u u' : Value) (W : World), asOk W (fun _ => True) u l[i] → asOk W (fun _ => True) u' l'[i] → Calls Tryz.prog 71 #[asV u l[i], asV u' l'[i]] W (BoolP (f l[i] l'[i]) W)) :
    Calls Tryz.prog 74 #[v, v', .func (.func 71) #[] #[]] w (BoolP (sameBy f l l') w) := by
  obtain ⟨A, c, rfl, hc1, hc2⟩ := h.form
  obtain ⟨A', c', rfl, hc1', hc2'⟩ := h'.form
  unfold maxLen at hc2 hc2'
  obtain ⟨X, hX⟩ : ∃ X, X = sameBy f l l' := ⟨_, rfl⟩
  rw [← hX]
  have HX := Lib.hid hX
  have HL := Lib.hid h
  have HL' := Lib.hid h'
  have HC := Lib.hid hcall
  clear hX h h' hcall
  by_cases hlen : l.length = l'.length
  · have en : ((l.length : Int) != (l'.length : Int)) = false := by rw [hlen]; simp
    have HLE := Lib.hid hlen
    clear hlen
    go_enter Tryz.func74, Tryz.ntmps74
    go_wp2
    go_loopw [17] (fun i wr => ∃ q : Nat, i = .int .i64 (q : Int) ∧ q ≤ l.length ∧ X = sameBy f (l.drop q) (l'.drop q) ∧ Same (fun _ => True) w wr) (fun i _ => l.length - (intOf i).toNat)
    case atStart => exact ⟨0, rfl, Nat.zero_le _, HX.out, Same.refl _ _⟩
    case round =>
      obtain ⟨q, rfl, hq, hx, hS⟩ := hrel
      have x1 : (0 : Int) ≤ (q : Int) := by omega
      have HS := Lib.hid hS
      by_cases hql : q < l.length
      · have hql' : q < l'.length := by rw [← HLE.out]; exact hql
        have x2 : (q : Int) < (l.length : Int) := by omega
        have x3 : (q : Int) < (l'.length : Int) := by omega
        obtain ⟨ad, u, rfl, hok, hcl⟩ := LsR.at_ (HL.out.keepAll asK hS) asCs_len hql
        obtain ⟨ad', u', rfl, hok', hcl'⟩ := LsR.at_ (HL'.out.keepAll asK hS) asCs_len hql'
        obtain ⟨A_u, c_u, rfl, -, -⟩ := (show ExR _ _ u l[q].e from hok).toL.form
        obtain ⟨A_u', c_u', rfl, -, -⟩ := (show ExR _ _ u' l'[q].e from hok').toL.form
        have d0 := hcl 0 (by omega)
        rw [add_zero] at d0
        have d1 := hcl 1 (by omega)
        rw [addr_add _ _ (by omega)] at d1
        have d2 := hcl 2 (by omega)
        rw [addr_add _ _ (by omega)] at d2
        have d3 := hcl 3 (by omega)
        rw [addr_add _ _ (by omega)] at d3
        have d4 := hcl 4 (by omega)
        rw [addr_add _ _ (by omega)] at d4
        have d5 := hcl 5 (by omega)
        rw [addr_add _ _ (by omega)] at d5
        have d6 := hcl 6 (by omega)
        rw [addr_add _ _ (by omega)] at d6
        simp only [asCs, exCs, List.getElem?_cons_zero, List.getElem?_cons_succ] at d0 d1 d2 d3 d4 d5 d6
        have g0 := hcl' 0 (by omega)
        rw [add_zero] at g0
        have g1 := hcl' 1 (by omega)
        rw [addr_add _ _ (by omega)] at g1
        have g2 := hcl' 2 (by omega)
        rw [addr_add _ _ (by omega)] at g2
        have g3 := hcl' 3 (by omega)
        rw [addr_add _ _ (by omega)] at g3
        have g4 := hcl' 4 (by omega)
        rw [addr_add _ _ (by omega)] at g4
        have g5 := hcl' 5 (by omega)
        rw [addr_add _ _ (by omega)] at g5
        have g6 := hcl' 6 (by omega)
        rw [addr_add _ _ (by omega)] at g6
        simp only [asCs, exCs, List.getElem?_cons_zero, List.getElem?_cons_succ] at g0 g1 g2 g3 g4 g5 g6
        have hA1 := (Same.refl (fun _ => True) wr).alloc (.cells #[.string (str l[q].name), .int .i64 l[q].e.kind, .string (str l[q].e.s), .int .i64 l[q].e.v.kind, .int .i64 l[q].e.v.n, .string (str l[q].e.v.s), .slice A_u l[q].e.args.length c_u] 65)
        have k0 := hA1.cell (p := ad'.add (q * 7)) trivial g0
        have k1 := hA1.cell (p := ⟨(ad'.add (q * 7)).block, (ad'.add (q * 7)).off + 1, none⟩) trivial g1
        have k2 := hA1.cell (p := ⟨(ad'.add (q * 7)).block, (ad'.add (q * 7)).off + 2, none⟩) trivial g2
        have k3 := hA1.cell (p := ⟨(ad'.add (q * 7)).block, (ad'.add (q * 7)).off + 3, none⟩) trivial g3
        have k4 := hA1.cell (p := ⟨(ad'.add (q * 7)).block, (ad'.add (q * 7)).off + 4, none⟩) trivial g4
        have k5 := hA1.cell (p := ⟨(ad'.add (q * 7)).block, (ad'.add (q * 7)).off + 5, none⟩) trivial g5
        have k6 := hA1.cell (p := ⟨(ad'.add (q * 7)).block, (ad'.add (q * 7)).off + 6, none⟩) trivial g6
        clear hA1
        have HOK := Lib.hid hok
        have HOK' := Lib.hid hok'
        have hd : l.drop q = l[q] :: l.drop (q + 1) := List.drop_eq_getElem_cons hql
        have hd' : l'.drop q = l'[q] :: l'.drop (q + 1) := List.drop_eq_getElem_cons hql'
        rw [hd, hd', sameBy_cons] at hx
        have HXq := Lib.hid hx
        have hS0 : Same (fun _ => True) wr wr := Same.refl _ _
        clear hx hd hd' hok hok' hS hcl hcl'
        go_wp2_with (go_at_call 71; refine stopAt ?_)
        unfold Hid
        refine (HC.out q hql hql' _ _ _ (asK.keep HOK.out (((Same.refl (fun _ => True) wr).alloc _).alloc _)) (asK.keep HOK'.out (((Same.refl (fun _ => True) wr).alloc _).alloc _))).mono ?_
        rintro e w5 ⟨rfl, hS⟩
        have HS5 := Lib.hid ((HS.out.trans (((Same.refl (fun _ => True) wr).alloc _).alloc _)).trans hS)
        clear hS hS0
        cases hb : f l[q] l'[q]
        · have HB : Hid (false = X) := Lib.hid (by rw [HXq.out, hb]; rfl)
          clear hb
          go_wp2
          go_ret
          exact ⟨ret_bool HB.out, HS5.out⟩
        · have HXn : Hid (X = sameBy f (l.drop (q + 1)) (l'.drop (q + 1))) := Lib.hid (by rw [HXq.out, hb]; rfl)
          clear hb
          go_wp2
          go_roundw
          case rel => exact ⟨q + 1, by go_num, by omega, HXn.out, HS5.out⟩
          case measure => simp [intOf]; omega
      · obtain rfl : q = l.length := by omega
        rw [List.drop_length, HLE.out, List.drop_length] at hx
        have HB : Hid (true = X) := Lib.hid (by rw [hx]; rfl)
        clear hx hS
        go_wp2
        go_ret
        exact ⟨ret_bool HB.out, HS.out⟩
  · have en : ((l.length : Int) != (l'.length : Int)) = true := by simpa using fun h : (l.length : Int) = l'.length => hlen (by omega)
    have HB : Hid (false = X) := Lib.hid (by rw [HX.out, sameBy_len hlen])
    clear hlen
    go_enter Tryz.func74, Tryz.ntmps74
    go_wp2
    go_ret
    exact ⟨ret_bool HB.out, Same.refl _ _⟩
set_option maxRecDepth 100000 in
set_option maxHeartbeats 4000000 in
theorem eqf_St (f : Stm → Stm → Bool) (l l' : List Stm) (v v' : Value) (w : World) (h : LsR stCsP 15 StR w (fun _ => True) v l) (h' : LsR stCsP 15 StR w (fun _ => True) v' l')
    (hcall : ∀ (i : Nat) (hi : i < l.length) (hi' : i < l'.length) (u u' : SU) (W : World), StR W (fun _ => True) u l[i] → StR W (fun _ => True) u' l'[i] → Calls Tryz.prog 33 #[stV u l[i], stV u' l'[i]] W (BoolP (f l[i] l'[i]) W)) :
    Calls Tryz.prog 32 #[v, v', .func (.func 33) #[] #[]] w (BoolP (sameBy f l l') w) := by
  obtain ⟨A, c, rfl, hc1, hc2⟩ := h.form
  obtain ⟨A', c', rfl, hc1', hc2'⟩ := h'.form
  unfold maxLen at hc2 hc2'
  obtain ⟨X, hX⟩ : ∃ X, X = sameBy f l l' := ⟨_, rfl⟩
  rw [← hX]
  have HX := Lib.hid hX
  have HL := Lib.hid h
  have HL' := Lib.hid h'
  have HC := Lib.hid hcall
  clear hX h h' hcall
  by_cases hlen : l.length = l'.length
  · have en : ((l.length : Int) != (l'.length : Int)) = false := by rw [hlen]; simp
    have HLE := Lib.hid hlen
    clear hlen
    go_enter Tryz.func32, Tryz.ntmps32
    go_wp2
    go_loopw [17] (fun i wr => ∃ q : Nat, i = .int .i64 (q : Int) ∧ q ≤ l.length ∧ X = sameBy f (l.drop q) (l'.drop q) ∧ Same (fun _ => True) w wr) (fun i _ => l.length - (intOf i).toNat)
    case atStart => exact ⟨0, rfl, Nat.zero_le _, HX.out, Same.refl _ _⟩
    case round =>
      obtain ⟨q, rfl, hq, hx, hS⟩ := hrel
      have x1 : (0 : Int) ≤ (q : Int) := by omega
      have HS := Lib.hid hS
      by_cases hql : q < l.length
      · have hql' : q < l'.length := by rw [← HLE.out]; exact hql
        have x2 : (q : Int) < (l.length : Int) := by omega
        have x3 : (q : Int) < (l'.length : Int) := by omega
        obtain ⟨ad, u, rfl, hok, hcl⟩ := LsR.at_ (HL.out.keepAll stK hS) stCsP_len hql
        obtain ⟨ad', u', rfl, hok', hcl'⟩ := LsR.at_ (HL'.out.keepAll stK hS) stCsP_len hql'
        obtain ⟨ui, ur, us, uc⟩ := u
        obtain ⟨A_u1, c_u1, q1, -⟩ := LsR.form (show LsR itCs 7 itOk _ _ ui l[q].items from hok.1)
        subst q1
        obtain ⟨A_u2, c_u2, q2, -⟩ := LsR.form (show LsR rwCs 1 rwOk _ _ ur l[q].rows from hok.2.1)
        subst q2
        obtain ⟨A_u3, c_u3, q3, -⟩ := LsR.form (show LsR asCs 7 asOk _ _ us l[q].sets from hok.2.2.1)
        subst q3
        obtain ⟨A_u4, c_u4, q4, -⟩ := (show ExR _ _ uc l[q].cond from hok.2.2.2).toL.form
        subst q4
        obtain ⟨u'i, u'r, u's, u'c⟩ := u'
        obtain ⟨A_u'1, c_u'1, q1, -⟩ := LsR.form (show LsR itCs 7 itOk _ _ u'i l'[q].items from hok'.1)
        subst q1
        obtain ⟨A_u'2, c_u'2, q2, -⟩ := LsR.form (show LsR rwCs 1 rwOk _ _ u'r l'[q].rows from hok'.2.1)
        subst q2
        obtain ⟨A_u'3, c_u'3, q3, -⟩ := LsR.form (show LsR asCs 7 asOk _ _ u's l'[q].sets from hok'.2.2.1)
        subst q3
        obtain ⟨A_u'4, c_u'4, q4, -⟩ := (show ExR _ _ u'c l'[q].cond from hok'.2.2.2).toL.form
        subst q4
        have d0 := hcl 0 (by omega)
        rw [add_zero] at d0
        have d1 := hcl 1 (by omega)
        rw [addr_add _ _ (by omega)] at d1
        have d2 := hcl 2 (by omega)
        rw [addr_add _ _ (by omega)] at d2
        have d3 := hcl 3 (by omega)
        rw [addr_add _ _ (by omega)] at d3
        have d4 := hcl 4 (by omega)
        rw [addr_add _ _ (by omega)] at d4
        have d5 := hcl 5 (by omega)
        rw [addr_add _ _ (by omega)] at d5
        have d6 := hcl 6 (by omega)
        rw [addr_add _ _ (by omega)] at d6
        have d7 := hcl 7 (by omega)
        rw [addr_add _ _ (by omega)] at d7
        have d8 := hcl 8 (by omega)
        rw [addr_add _ _ (by omega)] at d8
        have d9 := hcl 9 (by omega)
        rw [addr_add _ _ (by omega)] at d9
        have d10 := hcl 10 (by omega)
        rw [addr_add _ _ (by omega)] at d10
        have d11 := hcl 11 (by omega)
        rw [addr_add _ _ (by omega)] at d11
        have d12 := hcl 12 (by omega)
        rw [addr_add _ _ (by omega)] at d12
        have d13 := hcl 13 (by omega)
        rw [addr_add _ _ (by omega)] at d13
        have d14 := hcl 14 (by omega)
        rw [addr_add _ _ (by omega)] at d14
        simp only [stCsP, stCs, List.getElem?_cons_zero, List.getElem?_cons_succ] at d0 d1 d2 d3 d4 d5 d6 d7 d8 d9 d10 d11 d12 d13 d14
        have g0 := hcl' 0 (by omega)
        rw [add_zero] at g0
        have g1 := hcl' 1 (by omega)
        rw [addr_add _ _ (by omega)] at g1
        have g2 := hcl' 2 (by omega)
        rw [addr_add _ _ (by omega)] at g2
        have g3 := hcl' 3 (by omega)
        rw [addr_add _ _ (by omega)] at g3
        have g4 := hcl' 4 (by omega)
        rw [addr_add _ _ (by omega)] at g4
        have g5 := hcl' 5 (by omega)
        rw [addr_add _ _ (by omega)] at g5
        have g6 := hcl' 6 (by omega)
        rw [addr_add _ _ (by omega)] at g6
        have g7 := hcl' 7 (by omega)
        rw [addr_add _ _ (by omega)] at g7
        have g8 := hcl' 8 (by omega)
        rw [addr_add _ _ (by omega)] at g8
        have g9 := hcl' 9 (by omega)
        rw [addr_add _ _ (by omega)] at g9
        have g10 := hcl' 10 (by omega)
        rw [addr_add _ _ (by omega)] at g10
        have g11 := hcl' 11 (by omega)
        rw [addr_add _ _ (by omega)] at g11
        have g12 := hcl' 12 (by omega)
        rw [addr_add _ _ (by omega)] at g12
        have g13 := hcl' 13 (by omega)
        rw [addr_add _ _ (by omega)] at g13
        have g14 := hcl' 14 (by omega)
        rw [addr_add _ _ (by omega)] at g14
        simp only [stCsP, stCs, List.getElem?_cons_zero, List.getElem?_cons_succ] at g0 g1 g2 g3 g4 g5 g6 g7 g8 g9 g10 g11 g12 g13 g14
        have hA1 := (Same.refl (fun _ => True) wr).alloc (.cells #[.int .i64 l[q].kind, .string (str l[q].table), .slice A_u1 l[q].items.length c_u1, .slice A_u2 l[q].rows.length c_u2, .slice A_u3 l[q].sets.length c_u3, .bool l[q].filt, .int .i64 l[q].cond.kind, .string (str l[q].cond.s), .int .i64 l[q].cond.v.kind, .int .i64 l[q].cond.v.n, .string (str l[q].cond.v.s), .slice A_u4 l[q].cond.args.length c_u4, .string (str l[q].order), .bool l[q].down, .int .i64 l[q].limit] 44)
        have k0 := hA1.cell (p := ad'.add (q * 15)) trivial g0
        have k1 := hA1.cell (p := ⟨(ad'.add (q * 15)).block, (ad'.add (q * 15)).off + 1, none⟩) trivial g1
        have k2 := hA1.cell (p := ⟨(ad'.add (q * 15)).block, (ad'.add (q * 15)).off + 2, none⟩) trivial g2
        have k3 := hA1.cell (p := ⟨(ad'.add (q * 15)).block, (ad'.add (q * 15)).off + 3, none⟩) trivial g3
        have k4 := hA1.cell (p := ⟨(ad'.add (q * 15)).block, (ad'.add (q * 15)).off + 4, none⟩) trivial g4
        have k5 := hA1.cell (p := ⟨(ad'.add (q * 15)).block, (ad'.add (q * 15)).off + 5, none⟩) trivial g5
        have k6 := hA1.cell (p := ⟨(ad'.add (q * 15)).block, (ad'.add (q * 15)).off + 6, none⟩) trivial g6
        have k7 := hA1.cell (p := ⟨(ad'.add (q * 15)).block, (ad'.add (q * 15)).off + 7, none⟩) trivial g7
        have k8 := hA1.cell (p := ⟨(ad'.add (q * 15)).block, (ad'.add (q * 15)).off + 8, none⟩) trivial g8
        have k9 := hA1.cell (p := ⟨(ad'.add (q * 15)).block, (ad'.add (q * 15)).off + 9, none⟩) trivial g9
        have k10 := hA1.cell (p := ⟨(ad'.add (q * 15)).block, (ad'.add (q * 15)).off + 10, none⟩) trivial g10
        have k11 := hA1.cell (p := ⟨(ad'.add (q * 15)).block, (ad'.add (q * 15)).off + 11, none⟩) trivial g11
        have k12 := hA1.cell (p := ⟨(ad'.add (q * 15)).block, (ad'.add (q * 15)).off + 12, none⟩) trivial g12
        have k13 := hA1.cell (p := ⟨(ad'.add (q * 15)).block, (ad'.add (q * 15)).off + 13, none⟩) trivial g13
        have k14 := hA1.cell (p := ⟨(ad'.add (q * 15)).block, (ad'.add (q * 15)).off + 14, none⟩) trivial g14
        clear hA1
        have HOK := Lib.hid hok
        have HOK' := Lib.hid hok'
        have hd : l.drop q = l[q] :: l.drop (q + 1) := List.drop_eq_getElem_cons hql
        have hd' : l'.drop q = l'[q] :: l'.drop (q + 1) := List.drop_eq_getElem_cons hql'
        rw [hd, hd', sameBy_cons] at hx
        have HXq := Lib.hid hx
        have hS0 : Same (fun _ => True) wr wr := Same.refl _ _
        clear hx hd hd' hok hok' hS hcl hcl'
        go_wp2_with (go_at_call 33; refine stopAt ?_)
        unfold Hid
        refine (HC.out q hql hql' _ _ _ (stK.keep HOK.out (((Same.refl (fun _ => True) wr).alloc _).alloc _)) (stK.keep HOK'.out (((Same.refl (fun _ => True) wr).alloc _).alloc _))).mono ?_
        rintro e w5 ⟨rfl, hS⟩
        have HS5 := Lib.hid ((HS.out.trans (((Same.refl (fun _ => True) wr).alloc _).alloc _)).trans hS)
        clear hS hS0
        cases hb : f l[q] l'[q]
        · have HB : Hid (false = X) := Lib.hid (by rw [HXq.out, hb]; rfl)
          clear hb
          go_wp2
          go_ret
          exact ⟨ret_bool HB.out, HS5.out⟩
        · have HXn : Hid (X = sameBy f (l.drop (q + 1)) (l'.drop (q + 1))) := Lib.hid (by rw [HXq.out, hb]; rfl)
          clear hb
          go_wp2
          go_roundw
          case rel => exact ⟨q + 1, by go_num, by omega, HXn.out, HS5.out⟩
          case measure => simp [intOf]; omega
      · obtain rfl : q = l.length := by omega
        rw [List.drop_length, HLE.out, List.drop_length] at hx
        have HB : Hid (true = X) := Lib.hid (by rw [hx]; rfl)
        clear hx hS
        go_wp2
        go_ret
        exact ⟨ret_bool HB.out, HS.out⟩
  · have en : ((l.length : Int) != (l'.length : Int)) = true := by simpa using fun h : (l.length : Int) = l'.length => hlen (by omega)
    have HB : Hid (false = X) := Lib.hid (by rw [HX.out, sameBy_len hlen])
    clear hlen
    go_enter Tryz.func32, Tryz.ntmps32
    go_wp2
    go_ret
    exact ⟨ret_bool HB.out, Same.refl _ _⟩
theorem bool_eq_f {a b : Bool} (h : ¬ a = b) : (a == b) = false := by cases a <;> cases b <;> simp_all
set_option maxRecDepth 100000 in
set_option maxHeartbeats 4000000 in
theorem samei_any (x y : Itm) (u v : Value) (w : World) (h : ExR w (fun _ => True) u x.e) (h' : ExR w (fun _ => True) v y.e) : Calls Tryz.prog 67 #[itV u x, itV v y] w (BoolP (sameI x y) w) := by
  obtain ⟨A_u, c_u, rfl, -, -⟩ := h.toL.form
  obtain ⟨A_v, c_v, rfl, -, -⟩ := h'.toL.form
  obtain ⟨X, hX⟩ : ∃ X, X = sameI x y := ⟨_, rfl⟩
  rw [← hX]
  have HX : Hid (X = (decide (x.kind = y.kind) && sameE x.e y.e)) := Lib.hid hX
  clear hX
  have hA := (Same.refl (fun _ => True) w).alloc (.cells #[.int .i64 x.kind, .int .i64 x.e.kind, .string (str x.e.s), .int .i64 x.e.v.kind, .int .i64 x.e.v.n, .string (str x.e.v.s), .slice A_u x.e.args.length c_u] 63)
  have hA' := (Same.refl (fun _ => True) (w.alloc (.cells #[.int .i64 x.kind, .int .i64 x.e.kind, .string (str x.e.s), .int .i64 x.e.v.kind, .int .i64 x.e.v.n, .string (str x.e.v.s), .slice A_u x.e.args.length c_u] 63))).alloc (.cells #[.int .i64 y.kind, .int .i64 y.e.kind, .string (str y.e.s), .int .i64 y.e.v.kind, .int .i64 y.e.v.n, .string (str y.e.v.s), .slice A_v y.e.args.length c_v] 63)
  have hrow := (Row.new w 63 [.int .i64 x.kind, .int .i64 x.e.kind, .string (str x.e.s), .int .i64 x.e.v.kind, .int .i64 x.e.v.n, .string (str x.e.v.s), .slice A_u x.e.args.length c_u]).keep hA' trivial
  have hrow' := Row.new (w.alloc (.cells #[.int .i64 x.kind, .int .i64 x.e.kind, .string (str x.e.s), .int .i64 x.e.v.kind, .int .i64 x.e.v.n, .string (str x.e.v.s), .slice A_u x.e.args.length c_u] 63)) 63 [.int .i64 y.kind, .int .i64 y.e.kind, .string (str y.e.s), .int .i64 y.e.v.kind, .int .i64 y.e.v.n, .string (str y.e.v.s), .slice A_v y.e.args.length c_v]
  have hz : (w.alloc (.cells #[.int .i64 x.kind, .int .i64 x.e.kind, .string (str x.e.s), .int .i64 x.e.v.kind, .int .i64 x.e.v.n, .string (str x.e.v.s), .slice A_u x.e.args.length c_u] 63)).heap.size = w.heap.size + 1 := by simp
  rw [hz] at hrow'
  have hs := hA.trans hA'
  have h1 := h.keepAll hs
  have h1' := h'.keepAll hs
  clear h h'
  clear hz hA hA'
  go_enter Tryz.func67, Tryz.ntmps67
  go_upto_region 1 with (fail)
  revert hrow hrow' hs h1 h1'
  generalize (w.alloc _).alloc _ = w1
  intro hrow hrow' hs h1 h1'
  have HL := Lib.hid h1
  have HL' := Lib.hid h1'
  have HS := Lib.hid hs
  have HROW := Lib.hid hrow
  have HROW' := Lib.hid hrow'
  have c0 := hrow.cell 0
  have c1 := hrow.cell 1
  have c2 := hrow.cell 2
  have c3 := hrow.cell 3
  have c4 := hrow.cell 4
  have c5 := hrow.cell 5
  have c6 := hrow.cell 6
  have g0 := hrow'.cell 0
  have g1 := hrow'.cell 1
  have g2 := hrow'.cell 2
  have g3 := hrow'.cell 3
  have g4 := hrow'.cell 4
  have g5 := hrow'.cell 5
  have g6 := hrow'.cell 6
  simp only [List.getElem?_cons_zero, List.getElem?_cons_succ] at c0 g0 c1 g1 c2 g2 c3 g3 c4 g4 c5 g5 c6 g6
  clear hs h1 h1' hrow hrow'
  by_cases hc : x.kind = y.kind
  · have ec := int_eq_t hc
    have HB : Hid (sameE x.e y.e = X) := Lib.hid (by rw [HX.out, decide_eq_true hc]; rfl)
    rw [hc] at c0
    have ec2 : (y.kind == y.kind) = true := by simp
    clear hc ec
    go_wp2_with (go_at_call 68; refine stopAt ?_)
    unfold Hid
    refine (samex_any x.e y.e _ _ _ HL.out HL'.out).mono ?_
    rintro e w2 ⟨rfl, hS⟩
    have HS := Lib.hid (HS.out.trans hS)
    clear hS
    go_wp2
    go_ret
    exact ⟨ret_bool HB.out, HS.out⟩
  · have ec := int_eq_f hc
    have HB : Hid (false = X) := Lib.hid (by rw [HX.out, decide_eq_false hc]; rfl)
    clear hc
    go_wp2
    go_ret
    exact ⟨ret_bool HB.out, HS.out⟩
set_option maxRecDepth 100000 in
set_option maxHeartbeats 4000000 in
theorem samea_any (x y : Asn) (u v : Value) (w : World) (h : ExR w (fun _ => True) u x.e) (h' : ExR w (fun _ => True) v y.e) : Calls Tryz.prog 71 #[asV u x, asV v y] w (BoolP (sameA x y) w) := by
  obtain ⟨A_u, c_u, rfl, -, -⟩ := h.toL.form
  obtain ⟨A_v, c_v, rfl, -, -⟩ := h'.toL.form
  obtain ⟨X, hX⟩ : ∃ X, X = sameA x y := ⟨_, rfl⟩
  rw [← hX]
  have HX : Hid (X = (decide (x.name = y.name) && sameE x.e y.e)) := Lib.hid hX
  clear hX
  have hA := (Same.refl (fun _ => True) w).alloc (.cells #[.string (str x.name), .int .i64 x.e.kind, .string (str x.e.s), .int .i64 x.e.v.kind, .int .i64 x.e.v.n, .string (str x.e.v.s), .slice A_u x.e.args.length c_u] 65)
  have hA' := (Same.refl (fun _ => True) (w.alloc (.cells #[.string (str x.name), .int .i64 x.e.kind, .string (str x.e.s), .int .i64 x.e.v.kind, .int .i64 x.e.v.n, .string (str x.e.v.s), .slice A_u x.e.args.length c_u] 65))).alloc (.cells #[.string (str y.name), .int .i64 y.e.kind, .string (str y.e.s), .int .i64 y.e.v.kind, .int .i64 y.e.v.n, .string (str y.e.v.s), .slice A_v y.e.args.length c_v] 65)
  have hrow := (Row.new w 65 [.string (str x.name), .int .i64 x.e.kind, .string (str x.e.s), .int .i64 x.e.v.kind, .int .i64 x.e.v.n, .string (str x.e.v.s), .slice A_u x.e.args.length c_u]).keep hA' trivial
  have hrow' := Row.new (w.alloc (.cells #[.string (str x.name), .int .i64 x.e.kind, .string (str x.e.s), .int .i64 x.e.v.kind, .int .i64 x.e.v.n, .string (str x.e.v.s), .slice A_u x.e.args.length c_u] 65)) 65 [.string (str y.name), .int .i64 y.e.kind, .string (str y.e.s), .int .i64 y.e.v.kind, .int .i64 y.e.v.n, .string (str y.e.v.s), .slice A_v y.e.args.length c_v]
  have hz : (w.alloc (.cells #[.string (str x.name), .int .i64 x.e.kind, .string (str x.e.s), .int .i64 x.e.v.kind, .int .i64 x.e.v.n, .string (str x.e.v.s), .slice A_u x.e.args.length c_u] 65)).heap.size = w.heap.size + 1 := by simp
  rw [hz] at hrow'
  have hs := hA.trans hA'
  have h1 := h.keepAll hs
  have h1' := h'.keepAll hs
  clear h h'
  clear hz hA hA'
  go_enter Tryz.func71, Tryz.ntmps71
  go_upto_region 1 with (fail)
  revert hrow hrow' hs h1 h1'
  generalize (w.alloc _).alloc _ = w1
  intro hrow hrow' hs h1 h1'
  have HL := Lib.hid h1
  have HL' := Lib.hid h1'
  have HS := Lib.hid hs
  have HROW := Lib.hid hrow
  have HROW' := Lib.hid hrow'
  have c0 := hrow.cell 0
  have c1 := hrow.cell 1
  have c2 := hrow.cell 2
  have c3 := hrow.cell 3
  have c4 := hrow.cell 4
  have c5 := hrow.cell 5
  have c6 := hrow.cell 6
  have g0 := hrow'.cell 0
  have g1 := hrow'.cell 1
  have g2 := hrow'.cell 2
  have g3 := hrow'.cell 3
  have g4 := hrow'.cell 4
  have g5 := hrow'.cell 5
  have g6 := hrow'.cell 6
  simp only [List.getElem?_cons_zero, List.getElem?_cons_succ] at c0 g0 c1 g1 c2 g2 c3 g3 c4 g4 c5 g5 c6 g6
  clear hs h1 h1' hrow hrow'
  by_cases hc : x.name = y.name
  · have ec := str_eq_t hc
    have HB : Hid (sameE x.e y.e = X) := Lib.hid (by rw [HX.out, decide_eq_true hc]; rfl)
    rw [hc] at c0
    have ec2 : (y.name == y.name) = true := by simp
    clear hc ec
    go_wp2_with (go_at_call 68; refine stopAt ?_)
    unfold Hid
    refine (samex_any x.e y.e _ _ _ HL.out HL'.out).mono ?_
    rintro e w2 ⟨rfl, hS⟩
    have HS := Lib.hid (HS.out.trans hS)
    clear hS
    go_wp2
    go_ret
    exact ⟨ret_bool HB.out, HS.out⟩
  · have ec := str_eq_f hc
    have HB : Hid (false = X) := Lib.hid (by rw [HX.out, decide_eq_false hc]; rfl)
    go_wp2
    go_ret
    exact ⟨ret_bool HB.out, HS.out⟩
set_option maxHeartbeats 1000000 in
theorem samer_any (x y : List Ex) (u v : Value) (w : World) (h : ExL w (fun _ => True) u x) (h' : ExL w (fun _ => True) v y) : Calls Tryz.prog 69 #[u, v] w (BoolP (sameEs x y) w) := by
  rw [sameEs_by]
  have H := Lib.hid (eqf_Ex sameE x y u v w (ls_exL.2 h) (ls_exL.2 h') fun i hi hi' u u' W hu hu' => samex_any x[i] y[i] u u' W hu hu')
  obtain ⟨A, c, rfl, -, -⟩ := h.form
  obtain ⟨A', c', rfl, -, -⟩ := h'.form
  clear h h'
  go_enter Tryz.func69, Tryz.ntmps69
  go_wp2_with (go_at_call 70; refine stopAt ?_)
  unfold Hid
  refine (show Calls _ _ _ _ _ from H.out).mono ?_
  rintro e w2 ⟨rfl, hS⟩
  go_wp2
  go_ret
  exact ⟨rfl, hS⟩
theorem KK {s : Stm} {u : SU} {w w' : World} (h : StR w (fun _ => True) u s) (hs : Same (fun _ => True) w w') : StR w' (fun _ => True) u s := stK.keep h hs
set_option maxRecDepth 100000 in
set_option maxHeartbeats 8000000 in
theorem samest_any (s s' : Stm) (u u' : SU) (w : World) (h : StR w (fun _ => True) u s) (h' : StR w (fun _ => True) u' s') : Calls Tryz.prog 33 #[stV u s, stV u' s'] w (BoolP (sameS s s') w) := by
  obtain ⟨kd, tb, its, rws, sts, ft, cd, od, dn, lm⟩ := s
  obtain ⟨kd', tb', its', rws', sts', ft', cd', od', dn', lm'⟩ := s'
  obtain ⟨u1, u2, u3, u4⟩ := u
  obtain ⟨A_1, c_1, q1, -⟩ := LsR.form (show LsR itCs 7 itOk _ _ u1 its from h.1)
  subst q1
  obtain ⟨A_2, c_2, q2, -⟩ := LsR.form (show LsR rwCs 1 rwOk _ _ u2 rws from h.2.1)
  subst q2
  obtain ⟨A_3, c_3, q3, -⟩ := LsR.form (show LsR asCs 7 asOk _ _ u3 sts from h.2.2.1)
  subst q3
  obtain ⟨A_4, c_4, q4, -⟩ := (show ExR _ _ u4 cd from h.2.2.2).toL.form
  subst q4
  obtain ⟨u1', u2', u3', u4'⟩ := u'
  obtain ⟨A_1', c_1', q1, -⟩ := LsR.form (show LsR itCs 7 itOk _ _ u1' its' from h'.1)
  subst q1
  obtain ⟨A_2', c_2', q2, -⟩ := LsR.form (show LsR rwCs 1 rwOk _ _ u2' rws' from h'.2.1)
  subst q2
  obtain ⟨A_3', c_3', q3, -⟩ := LsR.form (show LsR asCs 7 asOk _ _ u3' sts' from h'.2.2.1)
  subst q3
  obtain ⟨A_4', c_4', q4, -⟩ := (show ExR _ _ u4' cd' from h'.2.2.2).toL.form
  subst q4
  obtain ⟨X, hX⟩ : ∃ X, X = sameS (⟨kd, tb, its, rws, sts, ft, cd, od, dn, lm⟩ : Stm) (⟨kd', tb', its', rws', sts', ft', cd', od', dn', lm'⟩ : Stm) := ⟨_, rfl⟩
  rw [← hX]
  have HX : Hid (X = (decide (kd = kd') && decide (tb = tb') && decide (ft = ft') && decide (od = od') && decide (dn = dn') && decide (lm = lm') && sameE cd cd' && sameBy sameI its its' && sameBy sameEs rws rws' && sameBy sameA sts sts')) := Lib.hid hX
  clear hX
  show Calls Tryz.prog 33 #[.agg #[.int .i64 kd, .string (str tb), .slice A_1 its.length c_1, .slice A_2 rws.length c_2, .slice A_3 sts.length c_3, .bool ft, .int .i64 cd.kind, .string (str cd.s), .int .i64 cd.v.kind, .int .i64 cd.v.n, .string (str cd.v.s), .slice A_4 cd.args.length c_4, .string (str od), .bool dn, .int .i64 lm], .agg #[.int .i64 kd', .string (str tb'), .slice A_1' its'.length c_1', .slice A_2' rws'.length c_2', .slice A_3' sts'.length c_3', .bool ft', .int .i64 cd'.kind, .string (str cd'.s), .int .i64 cd'.v.kind, .int .i64 cd'.v.n, .string (str cd'.v.s), .slice A_4' cd'.args.length c_4', .string (str od'), .bool dn', .int .i64 lm']] w (BoolP X w)
  have hA := (Same.refl (fun _ => True) w).alloc (.cells #[.int .i64 kd, .string (str tb), .slice A_1 its.length c_1, .slice A_2 rws.length c_2, .slice A_3 sts.length c_3, .bool ft, .int .i64 cd.kind, .string (str cd.s), .int .i64 cd.v.kind, .int .i64 cd.v.n, .string (str cd.v.s), .slice A_4 cd.args.length c_4, .string (str od), .bool dn, .int .i64 lm] 44)
  have hA' := (Same.refl (fun _ => True) (w.alloc (.cells #[.int .i64 kd, .string (str tb), .slice A_1 its.length c_1, .slice A_2 rws.length c_2, .slice A_3 sts.length c_3, .bool ft, .int .i64 cd.kind, .string (str cd.s), .int .i64 cd.v.kind, .int .i64 cd.v.n, .string (str cd.v.s), .slice A_4 cd.args.length c_4, .string (str od), .bool dn, .int .i64 lm] 44))).alloc (.cells #[.int .i64 kd', .string (str tb'), .slice A_1' its'.length c_1', .slice A_2' rws'.length c_2', .slice A_3' sts'.length c_3', .bool ft', .int .i64 cd'.kind, .string (str cd'.s), .int .i64 cd'.v.kind, .int .i64 cd'.v.n, .string (str cd'.v.s), .slice A_4' cd'.args.length c_4', .string (str od'), .bool dn', .int .i64 lm'] 44)
  have hrow := (Row.new w 44 [.int .i64 kd, .string (str tb), .slice A_1 its.length c_1, .slice A_2 rws.length c_2, .slice A_3 sts.length c_3, .bool ft, .int .i64 cd.kind, .string (str cd.s), .int .i64 cd.v.kind, .int .i64 cd.v.n, .string (str cd.v.s), .slice A_4 cd.args.length c_4, .string (str od), .bool dn, .int .i64 lm]).keep hA' trivial
  have hrow' := Row.new (w.alloc (.cells #[.int .i64 kd, .string (str tb), .slice A_1 its.length c_1, .slice A_2 rws.length c_2, .slice A_3 sts.length c_3, .bool ft, .int .i64 cd.kind, .string (str cd.s), .int .i64 cd.v.kind, .int .i64 cd.v.n, .string (str cd.v.s), .slice A_4 cd.args.length c_4, .string (str od), .bool dn, .int .i64 lm] 44)) 44 [.int .i64 kd', .string (str tb'), .slice A_1' its'.length c_1', .slice A_2' rws'.length c_2', .slice A_3' sts'.length c_3', .bool ft', .int .i64 cd'.kind, .string (str cd'.s), .int .i64 cd'.v.kind, .int .i64 cd'.v.n, .string (str cd'.v.s), .slice A_4' cd'.args.length c_4', .string (str od'), .bool dn', .int .i64 lm']
  have hz : (w.alloc (.cells #[.int .i64 kd, .string (str tb), .slice A_1 its.length c_1, .slice A_2 rws.length c_2, .slice A_3 sts.length c_3, .bool ft, .int .i64 cd.kind, .string (str cd.s), .int .i64 cd.v.kind, .int .i64 cd.v.n, .string (str cd.v.s), .slice A_4 cd.args.length c_4, .string (str od), .bool dn, .int .i64 lm] 44)).heap.size = w.heap.size + 1 := by simp
  rw [hz] at hrow'
  have hs := hA.trans hA'
  have h1 : StR _ (fun _ => True) (⟨.slice A_1 its.length c_1, .slice A_2 rws.length c_2, .slice A_3 sts.length c_3, .slice A_4 cd.args.length c_4⟩ : SU) (⟨kd, tb, its, rws, sts, ft, cd, od, dn, lm⟩ : Stm) := KK h hs
  have h1' : StR _ (fun _ => True) (⟨.slice A_1' its'.length c_1', .slice A_2' rws'.length c_2', .slice A_3' sts'.length c_3', .slice A_4' cd'.args.length c_4'⟩ : SU) (⟨kd', tb', its', rws', sts', ft', cd', od', dn', lm'⟩ : Stm) := KK h' hs
  clear h h'
  clear hz hA hA'
  go_enter Tryz.func33, Tryz.ntmps33
  go_upto_region 3 with (fail)
  revert hrow hrow' hs h1 h1'
  generalize (w.alloc _).alloc _ = w1
  intro hrow hrow' hs h1 h1'
  have HL := Lib.hid h1
  have HL' := Lib.hid h1'
  have HS := Lib.hid hs
  have HROW := Lib.hid hrow
  have HROW' := Lib.hid hrow'
  have c0 := hrow.cell 0
  have c1 := hrow.cell 1
  have c2 := hrow.cell 2
  have c3 := hrow.cell 3
  have c4 := hrow.cell 4
  have c5 := hrow.cell 5
  have c6 := hrow.cell 6
  have c7 := hrow.cell 7
  have c8 := hrow.cell 8
  have c9 := hrow.cell 9
  have c10 := hrow.cell 10
  have c11 := hrow.cell 11
  have c12 := hrow.cell 12
  have c13 := hrow.cell 13
  have c14 := hrow.cell 14
  have g0 := hrow'.cell 0
  have g1 := hrow'.cell 1
  have g2 := hrow'.cell 2
  have g3 := hrow'.cell 3
  have g4 := hrow'.cell 4
  have g5 := hrow'.cell 5
  have g6 := hrow'.cell 6
  have g7 := hrow'.cell 7
  have g8 := hrow'.cell 8
  have g9 := hrow'.cell 9
  have g10 := hrow'.cell 10
  have g11 := hrow'.cell 11
  have g12 := hrow'.cell 12
  have g13 := hrow'.cell 13
  have g14 := hrow'.cell 14
  simp only [List.getElem?_cons_zero, List.getElem?_cons_succ] at c0 g0 c1 g1 c2 g2 c3 g3 c4 g4 c5 g5 c6 g6 c7 g7 c8 g8 c9 g9 c10 g10 c11 g11 c12 g12 c13 g13 c14 g14
  clear hs h1 h1' hrow hrow'
  by_cases hc0 : kd = kd'
  · subst hc0
    by_cases hc1 : tb = tb'
    · subst hc1
      by_cases hc2 : ft = ft'
      · subst hc2
        by_cases hc3 : od = od'
        · subst hc3
          by_cases hc4 : dn = dn'
          · subst hc4
            by_cases hc5 : lm = lm'
            · subst hc5
              have HX1 : Hid (X = (sameE cd cd' && (sameBy sameI its its' && (sameBy sameEs rws rws' && sameBy sameA sts sts')))) := Lib.hid (by rw [HX.out]; simp [Bool.and_assoc])
              go_wp2_with (go_at_call 68; refine stopAt ?_)
              unfold Hid
              refine (samex_any cd cd' _ _ _ HL.out.2.2.2 HL'.out.2.2.2).mono ?_
              rintro e w2 ⟨rfl, hS⟩
              have HROW := Lib.hid (HROW.out.keep hS trivial)
              have HROW' := Lib.hid (HROW'.out.keep hS trivial)
              have HL := Lib.hid (KK HL.out hS)
              have HL' := Lib.hid (KK HL'.out hS)
              have c0 := HROW.out.cell 0
              have c1 := HROW.out.cell 1
              have c2 := HROW.out.cell 2
              have c3 := HROW.out.cell 3
              have c4 := HROW.out.cell 4
              have c5 := HROW.out.cell 5
              have c6 := HROW.out.cell 6
              have c7 := HROW.out.cell 7
              have c8 := HROW.out.cell 8
              have c9 := HROW.out.cell 9
              have c10 := HROW.out.cell 10
              have c11 := HROW.out.cell 11
              have c12 := HROW.out.cell 12
              have c13 := HROW.out.cell 13
              have c14 := HROW.out.cell 14
              have g0 := HROW'.out.cell 0
              have g1 := HROW'.out.cell 1
              have g2 := HROW'.out.cell 2
              have g3 := HROW'.out.cell 3
              have g4 := HROW'.out.cell 4
              have g5 := HROW'.out.cell 5
              have g6 := HROW'.out.cell 6
              have g7 := HROW'.out.cell 7
              have g8 := HROW'.out.cell 8
              have g9 := HROW'.out.cell 9
              have g10 := HROW'.out.cell 10
              have g11 := HROW'.out.cell 11
              have g12 := HROW'.out.cell 12
              have g13 := HROW'.out.cell 13
              have g14 := HROW'.out.cell 14
              simp only [List.getElem?_cons_zero, List.getElem?_cons_succ] at c0 g0 c1 g1 c2 g2 c3 g3 c4 g4 c5 g5 c6 g6 c7 g7 c8 g8 c9 g9 c10 g10 c11 g11 c12 g12 c13 g13 c14 g14
              have HS := Lib.hid (HS.out.trans hS)
              clear hS
              cases hb : sameE cd cd'
              · have Hb := Lib.hid hb
                clear hb
                have HB : Hid (false = X) := Lib.hid (by rw [HX1.out, Hb.out]; rfl)
                go_wp2
                go_ret
                exact ⟨ret_bool HB.out, HS.out⟩
              · have Hb := Lib.hid hb
                clear hb
                have HX2 : Hid (X = (sameBy sameI its its' && (sameBy sameEs rws rws' && sameBy sameA sts sts'))) := Lib.hid (by rw [HX1.out, Hb.out]; rfl)
                go_wp2_with (go_at_call 72; refine stopAt ?_)
                unfold Hid
                refine (eqf_It sameI its its' _ _ _ HL.out.1 HL'.out.1 fun i hi hi' u u' W hu hu' => samei_any its[i] its'[i] u u' W hu hu').mono ?_
                rintro e w2 ⟨rfl, hS⟩
                have HROW := Lib.hid (HROW.out.keep hS trivial)
                have HROW' := Lib.hid (HROW'.out.keep hS trivial)
                have HL := Lib.hid (KK HL.out hS)
                have HL' := Lib.hid (KK HL'.out hS)
                have c0 := HROW.out.cell 0
                have c1 := HROW.out.cell 1
                have c2 := HROW.out.cell 2
                have c3 := HROW.out.cell 3
                have c4 := HROW.out.cell 4
                have c5 := HROW.out.cell 5
                have c6 := HROW.out.cell 6
                have c7 := HROW.out.cell 7
                have c8 := HROW.out.cell 8
                have c9 := HROW.out.cell 9
                have c10 := HROW.out.cell 10
                have c11 := HROW.out.cell 11
                have c12 := HROW.out.cell 12
                have c13 := HROW.out.cell 13
                have c14 := HROW.out.cell 14
                have g0 := HROW'.out.cell 0
                have g1 := HROW'.out.cell 1
                have g2 := HROW'.out.cell 2
                have g3 := HROW'.out.cell 3
                have g4 := HROW'.out.cell 4
                have g5 := HROW'.out.cell 5
                have g6 := HROW'.out.cell 6
                have g7 := HROW'.out.cell 7
                have g8 := HROW'.out.cell 8
                have g9 := HROW'.out.cell 9
                have g10 := HROW'.out.cell 10
                have g11 := HROW'.out.cell 11
                have g12 := HROW'.out.cell 12
                have g13 := HROW'.out.cell 13
                have g14 := HROW'.out.cell 14
                simp only [List.getElem?_cons_zero, List.getElem?_cons_succ] at c0 g0 c1 g1 c2 g2 c3 g3 c4 g4 c5 g5 c6 g6 c7 g7 c8 g8 c9 g9 c10 g10 c11 g11 c12 g12 c13 g13 c14 g14
                have HS := Lib.hid (HS.out.trans hS)
                clear hS
                cases hb : sameBy sameI its its'
                · have Hb := Lib.hid hb
                  clear hb
                  have HB : Hid (false = X) := Lib.hid (by rw [HX2.out, Hb.out]; rfl)
                  go_wp2
                  go_ret
                  exact ⟨ret_bool HB.out, HS.out⟩
                · have Hb := Lib.hid hb
                  clear hb
                  have HX3 : Hid (X = (sameBy sameEs rws rws' && sameBy sameA sts sts')) := Lib.hid (by rw [HX2.out, Hb.out]; rfl)
                  go_wp2_with (go_at_call 73; refine stopAt ?_)
                  unfold Hid
                  refine (eqf_Rw sameEs rws rws' _ _ _ HL.out.2.1 HL'.out.2.1 fun i hi hi' u u' W hu hu' => samer_any rws[i] rws'[i] u u' W hu hu').mono ?_
                  rintro e w2 ⟨rfl, hS⟩
                  have HROW := Lib.hid (HROW.out.keep hS trivial)
                  have HROW' := Lib.hid (HROW'.out.keep hS trivial)
                  have HL := Lib.hid (KK HL.out hS)
                  have HL' := Lib.hid (KK HL'.out hS)
                  have c0 := HROW.out.cell 0
                  have c1 := HROW.out.cell 1
                  have c2 := HROW.out.cell 2
                  have c3 := HROW.out.cell 3
                  have c4 := HROW.out.cell 4
                  have c5 := HROW.out.cell 5
                  have c6 := HROW.out.cell 6
                  have c7 := HROW.out.cell 7
                  have c8 := HROW.out.cell 8
                  have c9 := HROW.out.cell 9
                  have c10 := HROW.out.cell 10
                  have c11 := HROW.out.cell 11
                  have c12 := HROW.out.cell 12
                  have c13 := HROW.out.cell 13
                  have c14 := HROW.out.cell 14
                  have g0 := HROW'.out.cell 0
                  have g1 := HROW'.out.cell 1
                  have g2 := HROW'.out.cell 2
                  have g3 := HROW'.out.cell 3
                  have g4 := HROW'.out.cell 4
                  have g5 := HROW'.out.cell 5
                  have g6 := HROW'.out.cell 6
                  have g7 := HROW'.out.cell 7
                  have g8 := HROW'.out.cell 8
                  have g9 := HROW'.out.cell 9
                  have g10 := HROW'.out.cell 10
                  have g11 := HROW'.out.cell 11
                  have g12 := HROW'.out.cell 12
                  have g13 := HROW'.out.cell 13
                  have g14 := HROW'.out.cell 14
                  simp only [List.getElem?_cons_zero, List.getElem?_cons_succ] at c0 g0 c1 g1 c2 g2 c3 g3 c4 g4 c5 g5 c6 g6 c7 g7 c8 g8 c9 g9 c10 g10 c11 g11 c12 g12 c13 g13 c14 g14
                  have HS := Lib.hid (HS.out.trans hS)
                  clear hS
                  cases hb : sameBy sameEs rws rws'
                  · have Hb := Lib.hid hb
                    clear hb
                    have HB : Hid (false = X) := Lib.hid (by rw [HX3.out, Hb.out]; rfl)
                    go_wp2
                    go_ret
                    exact ⟨ret_bool HB.out, HS.out⟩
                  · have Hb := Lib.hid hb
                    clear hb
                    have HB : Hid (sameBy sameA sts sts' = X) := Lib.hid (by rw [HX3.out, Hb.out]; rfl)
                    go_wp2_with (go_at_call 74; refine stopAt ?_)
                    unfold Hid
                    refine (eqf_As sameA sts sts' _ _ _ HL.out.2.2.1 HL'.out.2.2.1 fun i hi hi' u u' W hu hu' => samea_any sts[i] sts'[i] u u' W hu hu').mono ?_
                    rintro e w2 ⟨rfl, hS⟩
                    have HS := Lib.hid (HS.out.trans hS)
                    clear hS
                    go_wp2
                    go_ret
                    exact ⟨ret_bool HB.out, HS.out⟩
            · have ec5 := int_eq_f hc5
              have HB : Hid (false = X) := Lib.hid (by rw [HX.out, decide_eq_false hc5]; simp)
              clear hc5
              go_wp2
              go_ret
              exact ⟨ret_bool HB.out, HS.out⟩
          · have ec4 := bool_eq_f hc4
            have HB : Hid (false = X) := Lib.hid (by rw [HX.out, decide_eq_false hc4]; simp)
            clear hc4
            go_wp2
            go_ret
            exact ⟨ret_bool HB.out, HS.out⟩
        · have ec3 := str_eq_f hc3
          have HB : Hid (false = X) := Lib.hid (by rw [HX.out, decide_eq_false hc3]; simp)
          go_wp2
          go_ret
          exact ⟨ret_bool HB.out, HS.out⟩
      · have ec2 := bool_eq_f hc2
        have HB : Hid (false = X) := Lib.hid (by rw [HX.out, decide_eq_false hc2]; simp)
        clear hc2
        go_wp2
        go_ret
        exact ⟨ret_bool HB.out, HS.out⟩
    · have ec1 := str_eq_f hc1
      have HB : Hid (false = X) := Lib.hid (by rw [HX.out, decide_eq_false hc1]; simp)
      go_wp2
      go_ret
      exact ⟨ret_bool HB.out, HS.out⟩
  · have ec0 := int_eq_f hc0
    have HB : Hid (false = X) := Lib.hid (by rw [HX.out, decide_eq_false hc0]; simp)
    clear hc0
    go_wp2
    go_ret
    exact ⟨ret_bool HB.out, HS.out⟩
theorem KL {l : LotM} {u : Value} {w w' : World} (h : LtR w (fun _ => True) u l) (hs : Same (fun _ => True) w w') : LtR w' (fun _ => True) u l := LsR.keepAll stK h hs
set_option maxRecDepth 100000 in
set_option maxHeartbeats 4000000 in
theorem same_any (l l' : LotM) (u u' : Value) (w : World) (h : LtR w (fun _ => True) u l) (h' : LtR w (fun _ => True) u' l') : Calls Tryz.prog 20 #[ltV u l, ltV u' l'] w (BoolP (sameLot l l') w) := by
  obtain ⟨md, nn, ss⟩ := l
  obtain ⟨md', nn', ss'⟩ := l'
  obtain ⟨A, c, rfl, -, -⟩ := (show LsR stCsP 15 StR _ _ u ss from h).form
  obtain ⟨A', c', rfl, -, -⟩ := (show LsR stCsP 15 StR _ _ u' ss' from h').form
  obtain ⟨X, hX⟩ : ∃ X, X = sameLot ⟨md, nn, ss⟩ ⟨md', nn', ss'⟩ := ⟨_, rfl⟩
  rw [← hX]
  have HX : Hid (X = (decide (md = md') && decide (nn = nn') && sameBy sameS ss ss')) := Lib.hid hX
  clear hX
  show Calls Tryz.prog 20 #[.agg #[.int .i64 md, .int .i64 nn, .slice A ss.length c], .agg #[.int .i64 md', .int .i64 nn', .slice A' ss'.length c']] w (BoolP X w)
  have hA := (Same.refl (fun _ => True) w).alloc (.cells #[.int .i64 md, .int .i64 nn, .slice A ss.length c] 25)
  have hA' := (Same.refl (fun _ => True) (w.alloc (.cells #[.int .i64 md, .int .i64 nn, .slice A ss.length c] 25))).alloc (.cells #[.int .i64 md', .int .i64 nn', .slice A' ss'.length c'] 25)
  have hrow := (Row.new w 25 [.int .i64 md, .int .i64 nn, .slice A ss.length c]).keep hA' trivial
  have hrow' := Row.new (w.alloc (.cells #[.int .i64 md, .int .i64 nn, .slice A ss.length c] 25)) 25 [.int .i64 md', .int .i64 nn', .slice A' ss'.length c']
  have hz : (w.alloc (.cells #[.int .i64 md, .int .i64 nn, .slice A ss.length c] 25)).heap.size = w.heap.size + 1 := by simp
  rw [hz] at hrow'
  have hs := hA.trans hA'
  have h1 : LtR _ (fun _ => True) (.slice A ss.length c) ⟨md, nn, ss⟩ := KL h hs
  have h1' : LtR _ (fun _ => True) (.slice A' ss'.length c') ⟨md', nn', ss'⟩ := KL h' hs
  clear h h'
  clear hz hA hA'
  go_enter Tryz.func20, Tryz.ntmps20
  go_upto_region 1 with (fail)
  revert hrow hrow' hs h1 h1'
  generalize (w.alloc _).alloc _ = w1
  intro hrow hrow' hs h1 h1'
  have HL := Lib.hid h1
  have HL' := Lib.hid h1'
  have HS := Lib.hid hs
  have HROW := Lib.hid hrow
  have HROW' := Lib.hid hrow'
  have c0 := hrow.cell 0
  have c1 := hrow.cell 1
  have c2 := hrow.cell 2
  have g0 := hrow'.cell 0
  have g1 := hrow'.cell 1
  have g2 := hrow'.cell 2
  simp only [List.getElem?_cons_zero, List.getElem?_cons_succ] at c0 g0 c1 g1 c2 g2
  clear hs h1 h1' hrow hrow'
  by_cases hc0 : md = md'
  · subst hc0
    by_cases hc1 : nn = nn'
    · subst hc1
      have HB : Hid (sameBy sameS ss ss' = X) := Lib.hid (by rw [HX.out]; simp)
      go_wp2_with (go_at_call 32; refine stopAt ?_)
      unfold Hid
      refine (eqf_St sameS ss ss' _ _ _ HL.out HL'.out fun i hi hi' u u' W hu hu' => samest_any ss[i] ss'[i] u u' W hu hu').mono ?_
      rintro e w2 ⟨rfl, hS⟩
      have HS := Lib.hid (HS.out.trans hS)
      clear hS
      go_wp2
      go_ret
      exact ⟨ret_bool HB.out, HS.out⟩
    · have ec1 := int_eq_f hc1
      have HB : Hid (false = X) := Lib.hid (by rw [HX.out, decide_eq_false hc1]; simp)
      clear hc1
      go_wp2
      go_ret
      exact ⟨ret_bool HB.out, HS.out⟩
  · have ec0 := int_eq_f hc0
    have HB : Hid (false = X) := Lib.hid (by rw [HX.out, decide_eq_false hc0]; simp)
    clear hc0
    go_wp2
    go_ret
    exact ⟨ret_bool HB.out, HS.out⟩
def TokB (t : Tok) : Prop := (t.kind = 2 → t.n ≤ maxI) ∧ (t.kind = 3 → t.s.length ≤ 64)
def TksB (l : List PT) : Prop := ∀ p ∈ l, TokB p.2
theorem tokB_E : TokB tE := ⟨fun h => by simp [tE] at h, fun h => by simp [tE] at h⟩
theorem TksB.tail {l : List PT} (h : TksB l) : TksB l.tail := fun p hp => h p (List.mem_of_mem_tail hp)
theorem TksB.hd {l : List PT} (h : TksB l) : TokB (hdT l).2 := by
  cases l with
  | nil => exact tokB_E
  | cons a r => exact h a (by simp)
theorem numGo_le : ∀ (l : List UInt8) (v n : Nat), v ≤ maxI → numGo v l = some n → n ≤ maxI
  | [], v, n, hv, h => by simp only [numGo, Option.some.injEq] at h; omega
  | c :: l, v, n, hv, h => by
    unfold numGo at h
    split at h
    · cases h
    · exact numGo_le l _ n (by omega) h
theorem textGo_B : ∀ (k : Nat) (acc : List UInt8) (i : Nat) (l : List UInt8), l.length ≤ k → TokB (textGo acc i l).t := by
  intro k
  induction k with
  | zero =>
    intro acc i l hl
    obtain rfl : l = [] := List.eq_nil_of_length_eq_zero (by omega)
    unfold textGo
    exact tokB_E
  | succ k ih =>
    intro acc i l hl
    cases l with
    | nil => unfold textGo; exact tokB_E
    | cons c l =>
      simp only [List.length_cons] at hl
      unfold textGo
      split
      · split
        · exact ih _ _ _ (by simp only [List.length_cons] at hl; omega)
        · split
          · exact tokB_E
          · rename_i h64; exact ⟨fun h => by simp at h, fun _ => by simpa using h64⟩
      · exact ih _ _ _ (by omega)
theorem numF_B (s : List UInt8) : TokB (numF s).t := by
  unfold numF
  split
  · exact tokB_E
  · rename_i v hv
    have := numGo_le _ _ _ (by simp [maxI]) hv
    split
    · split
      · exact tokB_E
      · exact ⟨fun _ => this, fun h => by simp at h⟩
    · exact ⟨fun _ => this, fun h => by simp at h⟩
theorem tok4 (s : List UInt8) : TokB ⟨4, s, 0⟩ := ⟨fun h => by simp at h, fun h => by simp at h⟩
theorem signF_B (s : List UInt8) : TokB (signF s).t := by
  unfold signF
  split
  · exact tokB_E
  · split
    · exact tok4 _
    · exact tokB_E
  · split
    · exact tok4 _
    · split
      · exact tok4 _
      · exact tokB_E
theorem tokF_B (s : List UInt8) : TokB (tokF s).t := by
  unfold tokF
  split
  · exact tokB_E
  · split
    · exact tokB_E
    · split
      · exact ⟨fun h => by simp at h, fun h => by simp at h⟩
      · split
        · exact numF_B _
        · split
          · exact textGo_B _ _ _ _ (Nat.le_refl _)
          · exact signF_B _
theorem lexFrom_B : ∀ (k i : Nat) (s : List UInt8), s.length ≤ k → TksB (lexFrom i s).2 := by
  intro k
  induction k with
  | zero =>
    intro i s hs
    obtain rfl : s = [] := List.eq_nil_of_length_eq_zero (by omega)
    unfold lexFrom
    intro p hp
    simp at hp
  | succ k ih =>
    intro i s hs
    unfold lexFrom
    split
    · intro p hp; simp at hp
    · split
      · rename_i hne he
        have h1 := tokF_pos he
        have := ih (i + (tokF s).n) (s.drop (tokF s).n) (by rw [List.length_drop]; omega)
        dsimp only
        split
        · intro p hp
          simp only [List.mem_append] at hp
          rcases hp with hp | hp
          · split at hp
            · simp at hp
            · simp only [List.mem_singleton] at hp; subst hp; exact tokF_B s
          · exact this p hp
        · intro p hp; simp at hp
      · intro p hp; simp at hp
theorem lexF_B (s : List UInt8) : TksB (lexF s).2 := by
  unfold lexF
  split
  · intro p hp; simp at hp
  · split
    · intro p hp
      simp only [List.mem_append, List.mem_singleton] at hp
      rcases hp with hp | rfl
      · exact lexFrom_B _ _ _ (Nat.le_refl _) p hp
      · exact tokB_E
    · intro p hp; simp at hp
def PrB {α : Type} (P : α → Prop) (x : PR α) : Prop := (∀ a l, x = .ok (a, l) → P a ∧ TksB l) ∧ ∀ p : PE, x = .error p → p.2 ≠ 0
theorem PrB.err {α : Type} {P : α → Prop} {e : PE} (h : e.2 ≠ 0) : PrB P (.error e : PR α) := ⟨fun a l h => (by cases h), fun p hp => (by cases hp; exact h)⟩
theorem PrB.ok {α : Type} {P : α → Prop} {a : α} {l : List PT} (h : P a) (hl : TksB l) : PrB P (.ok (a, l) : PR α) := ⟨fun b m hb => by
  injection hb with hb
  injection hb with h1 h2
  subst h1 h2
  exact ⟨h, hl⟩, fun p hp => by cases hp⟩
theorem PrB.wrong {α : Type} {P : α → Prop} {e : Nat} {l : List PT} (h : e ≠ 0 := by decide) : PrB P (wrongT e l : PR α) := PrB.err h
theorem PrB.andThen {α β : Type} {P : α → Prop} {Q : β → Prop} {x : PR α} {f : α → List PT → PR β} (h : PrB P x) (hf : ∀ a l, P a → TksB l → PrB Q (f a l)) : PrB Q (thenT x f) := by
  cases x with
  | error e => exact PrB.err (h.2 e rfl)
  | ok y =>
    obtain ⟨a, l⟩ := y
    obtain ⟨h1, h2⟩ := h.1 a l rfl
    exact hf a l h1 h2
theorem PrB.mono {α : Type} {P Q : α → Prop} {x : PR α} (h : PrB P x) (hq : ∀ a, P a → Q a) : PrB Q x := ⟨fun a l e => ⟨hq a (h.1 a l e).1, (h.1 a l e).2⟩, h.2⟩
theorem must_B : ∀ (ss : List (List UInt8)) {l : List PT}, TksB l → PrB (fun _ => True) (mustT ss l)
  | [], l, h => PrB.ok trivial h
  | s :: r, l, h => by
    unfold mustT
    split
    · exact must_B r h.tail
    · exact PrB.wrong
theorem name_B {l : List PT} (h : TksB l) : PrB (fun s => wordF s = true) (nameT l) := by
  unfold nameT
  split
  · rename_i hn
    exact PrB.ok (by simp only [namedT, Bool.and_eq_true] at hn; exact hn.2) h.tail
  · exact PrB.wrong
theorem int_B {l : List PT} (h : TksB l) : PrB (fun n => n ≤ maxI) (intT l) := by
  unfold intT
  split
  · rename_i hk
    exact PrB.ok (h.hd.1 hk) h.tail
  · exact PrB.wrong
theorem i64_le {n : Nat} (h : n ≤ maxI) : i64B (n : Int) = true := by
  unfold maxI at h
  simp only [i64B, Bool.and_eq_true, decide_eq_true_eq]
  omega
theorem mayE_mono : ∀ e : Ex, ∀ {n m : Nat}, mayE e n = true → n ≤ m → mayE e m = true := by
  intro e
  induction e using Ex.rec (motive_2 := fun l => ∀ n m : Nat, mayEs l n = true → n ≤ m → mayEs l m = true) with
  | mk k s v l ih =>
    intro n m h hn
    unfold mayE at h ⊢
    by_cases h0 : n = 0
    · rw [if_pos h0] at h; cases h
    · rw [if_neg h0] at h
      rw [if_neg (by omega)]
      split at h
      · rename_i h1; rw [if_pos h1]; exact h
      · rename_i h1
        rw [if_neg h1]
        split at h
        · rename_i h2; rw [if_pos h2]; exact h
        · rename_i h2
          rw [if_neg h2]
          simp only [Bool.and_eq_true] at h ⊢
          exact ⟨h.1, ih _ _ h.2 (by omega)⟩
  | nil => intros; rfl
  | cons a l iha ihl =>
    intros
    rename_i n m h hn
    unfold mayEs at h ⊢
    simp only [Bool.and_eq_true] at h ⊢
    exact ⟨iha h.1 hn, ihl _ _ h.2 hn⟩
structure DpB (d : Dp) : Prop where
  may : mayE d.e d.n = true
  n : d.n ≤ 16
  i : ExI d.e
theorem mayEs_of {l : List Ex} {n : Nat} (h : ∀ a ∈ l, mayE a n = true) : mayEs l n = true := by
  induction l with
  | nil => rfl
  | cons a l ih =>
    unfold mayEs
    rw [h a (by simp), ih fun b hb => h b (by simp [hb])]
    rfl
theorem deepOf_ge : ∀ {l : List Dp} {d : Dp}, d ∈ l → d.n ≤ deepOf l
  | a :: l, d, h => by
    unfold deepOf
    rcases List.mem_cons.1 h with rfl | h
    · omega
    · have := deepOf_ge h; omega
theorem op_B {pl : Nat} {s : List UInt8} {args : List Dp} {l : List PT} (hl : TksB l) (ha : ∀ d ∈ args, DpB d) (hs : (args.length : Int) = argsN s) : PrB DpB (opT pl s args l) := by
  unfold opT
  split
  · exact PrB.err (show (3 : Nat) ≠ 0 by decide)
  · rename_i h16
    refine PrB.ok ⟨?_, (by show deepOf args + 1 ≤ 16; omega), ?_⟩ hl
    · show mayE (.mk 3 s .zero (args.map (·.e))) (deepOf args + 1) = true
      unfold mayE
      rw [if_neg (by omega), if_neg (by decide), if_neg (by decide)]
      simp only [Bool.and_eq_true, decide_eq_true_eq, List.length_map]
      refine ⟨⟨⟨trivial, trivial⟩, hs⟩, ?_⟩
      refine mayEs_of fun a h => ?_
      obtain ⟨d, hd, rfl⟩ := List.mem_map.1 h
      exact mayE_mono _ (ha d hd).may (by have := deepOf_ge hd; omega)
    · refine ExI.mk (by decide) fun a h => ?_
      obtain ⟨d, hd, rfl⟩ := List.mem_map.1 h
      exact (ha d hd).i
theorem begins_sign {ss : List (List UInt8)} {l : List PT} (h : beginsT ss l = true) : (hdT l).2.s ∈ ss := by
  unfold beginsT at h
  obtain ⟨s, hs, h⟩ := List.any_eq_true.1 h
  simp only [isT, Bool.and_eq_true, decide_eq_true_eq] at h
  rw [h.2]; exact hs
theorem two_B {pl : Nat} {s : List UInt8} {d d2 : Dp} {l : List PT} (hl : TksB l) (h : DpB d) (h2 : DpB d2) (hs : argsN s = 2) : PrB DpB (opT pl s [d, d2] l) :=
  op_B hl (fun x hx => by rcases List.mem_cons.1 hx with rfl | hx; exact h; rw [List.mem_singleton.1 hx]; exact h2) (by rw [hs]; rfl)
theorem one_B {pl : Nat} {s : List UInt8} {d : Dp} {l : List PT} (hl : TksB l) (h : DpB d) (hs : argsN s = 1) : PrB DpB (opT pl s [d] l) :=
  op_B hl (fun x hx => by rw [List.mem_singleton.1 hx]; exact h) (by rw [hs]; rfl)
theorem chain_B {f : List PT → PR Dp} {signs : List (List UInt8)} (hf : ∀ l, TksB l → PrB DpB (f l)) (hs : ∀ s ∈ signs, argsN s = 2) : ∀ (k : Nat) {d : Dp} {l : List PT}, DpB d → TksB l → PrB DpB (chainT f signs k d l)
  | 0, d, l, h, hl => PrB.ok h hl
  | k + 1, d, l, h, hl => by
    unfold chainT
    split
    · rename_i hb
      exact (hf _ hl.tail).andThen fun d2 l2 h2 hl2 => (two_B hl2 h h2 (hs _ (begins_sign hb))).andThen fun d3 l3 h3 hl3 => chain_B hf hs k h3 hl3
    · exact PrB.ok h hl
theorem run_B {f : List PT → PR Dp} {signs : List (List UInt8)} {l : List PT} (hf : ∀ l, TksB l → PrB DpB (f l)) (hs : ∀ s ∈ signs, argsN s = 2) (hl : TksB l) : PrB DpB (runT f signs l) :=
  (hf l hl).andThen fun d l1 h hl1 => chain_B hf hs _ h hl1
theorem leaf_B {v : Val} {l : List PT} (hm : mayV v = true) (h0 : 0 ≤ v.n) (hi : i64B v.n = true) (hl : TksB l) : PrB DpB (.ok (leafV v, l)) := by
  refine PrB.ok ⟨?_, by show 1 ≤ 16; omega, ExI.mk hi fun a h => by cases h⟩ hl
  show mayE (.mk 1 [] v []) 1 = true
  unfold mayE
  simp [hm, h0]
theorem step_B {f : Rl → List PT → PR Dp} (hf : ∀ r l, TksB l → PrB DpB (f r l)) : ∀ r l, TksB l → PrB DpB (stepT f r l) := by
  intro r l hl
  cases r
  case or => exact run_B (hf _) (by decide) hl
  case and => exact run_B (hf _) (by decide) hl
  case not =>
    simp only [stepT]
    split
    · exact (hf _ _ hl.tail).andThen fun d l1 h hl1 => one_B hl1 h (show argsN wNOT = 1 by decide)
    · exact hf _ _ hl
  case cmp =>
    simp only [stepT]
    refine (hf _ _ hl).andThen fun d l1 h hl1 => ?_
    split
    · rename_i hb
      exact (hf _ _ hl1.tail).andThen fun d2 l2 h2 hl2 => two_B hl2 h h2 ((by decide : ∀ s ∈ cmpsT, argsN s = 2) _ (begins_sign hb))
    · split
      · split
        · exact (must_B _ hl1.tail.tail).andThen fun _ l2 _ hl2 => one_B hl2 h (show argsN wNOTNULL = 1 by decide)
        · exact (must_B _ hl1.tail).andThen fun _ l2 _ hl2 => one_B hl2 h (show argsN wISNULL = 1 by decide)
      · exact PrB.ok h hl1
  case sum => exact run_B (hf _) (by decide) hl
  case prod => exact run_B (hf _) (by decide) hl
  case unary =>
    simp only [stepT]
    split
    · exact (hf _ _ hl.tail).andThen fun d l1 h hl1 => one_B hl1 h (show argsN wNEG = 1 by decide)
    split
    · exact (hf _ _ hl.tail).andThen fun d l1 h hl1 => (must_B _ hl1).andThen fun _ l2 _ hl2 => PrB.ok h hl2
    split
    · rename_i hk
      exact leaf_B (by simp [mayV]) (by show (0 : Int) ≤ ((hdT l).2.n : Int); omega) (i64_le (hl.hd.1 hk)) hl.tail
    split
    · rename_i hk
      exact leaf_B (by have := hl.hd.2 hk; simp [mayV, this]) (Int.le_refl 0) (show i64B 0 = true by decide) hl.tail
    split
    · exact leaf_B (by decide) (by decide) (by decide) hl.tail
    split
    · exact leaf_B (by decide) (by decide) (by decide) hl.tail
    split
    · exact leaf_B (by decide) (by decide) (by decide) hl.tail
    refine (name_B hl).andThen fun s l1 h hl1 => PrB.ok ⟨?_, by show 1 ≤ 16; omega, ExI.mk (by decide) fun a h => by cases h⟩ hl1
    show mayE (.mk 2 s .zero []) 1 = true
    unfold mayE
    simp [h]
theorem rule_B : ∀ (n : Nat) r l, TksB l → PrB DpB (ruleT n r l)
  | 0, r, l, _ => PrB.wrong
  | n + 1, r, l, hl => step_B (rule_B n) r l hl
structure ExB (e : Ex) : Prop where
  may : mayE e 16 = true
  i : ExI e
theorem expr_B {l : List PT} (hl : TksB l) : PrB ExB (exprT l) :=
  (rule_B _ _ _ hl).andThen fun d l1 h hl1 => PrB.ok ⟨mayE_mono _ h.may h.n, h.i⟩ hl1
theorem sep_B {α : Type} {P : α → Prop} {sep : List PT → Bool} {item : List PT → PR α} {begins : List PT → Bool} {most : Nat} (hi : ∀ l, TksB l → PrB P (item l)) (hb : ∀ l, TksB l → begins l = false → ∃ e, item l = .error e) :
    ∀ (k : Nat) {acc : List α} {l : List PT}, (∀ a ∈ acc, P a) → 1 ≤ acc.length → acc.length ≤ most → TksB l → PrB (fun x => (∀ a ∈ x, P a) ∧ 1 ≤ x.length ∧ x.length ≤ most) (sepT sep item begins most k acc l)
  | 0, acc, l, h, h1, h2, hl => PrB.ok ⟨h, h1, h2⟩ hl
  | k + 1, acc, l, h, h1, h2, hl => by
    unfold sepT
    split
    · split
      · exact PrB.wrong
      · rename_i hn
        cases hbg : begins l.tail
        · obtain ⟨e, he⟩ := hb _ hl.tail hbg
          have hz := (hi _ hl.tail).2 e he
          rw [he]
          exact PrB.err hz
        · have hne : acc.length ≠ most := by simpa [hbg] using hn
          refine (hi _ hl.tail).andThen fun a l1 ha hl1 => sep_B hi hb k (fun x hx => ?_) (by simp) (by simp; omega) hl1
          rcases List.mem_append.1 hx with hx | hx
          · exact h x hx
          · rw [List.mem_singleton.1 hx]; exact ha
    · exact PrB.ok ⟨h, h1, h2⟩ hl
def ErrT {α : Type} (x : PR α) : Prop := ∃ e, x = .error e
theorem ErrT.andThen {α β : Type} {x : PR α} {f : α → List PT → PR β} (h : ErrT x) : ErrT (thenT x f) := by
  obtain ⟨e, rfl⟩ := h
  exact ⟨e, rfl⟩
theorem begins_is {ss : List (List UInt8)} {l : List PT} (h : beginsT ss l = false) {s : List UInt8} (hs : s ∈ ss) : isT s l = false := by
  cases h1 : isT s l
  · rfl
  · rw [show beginsT ss l = true from List.any_eq_true.2 ⟨s, hs, h1⟩] at h
    cases h
theorem name_err {l : List PT} (h : namedT l = false) : ErrT (nameT l) := by
  unfold nameT
  rw [h]
  exact ⟨_, rfl⟩
theorem rule_err : ∀ (n : Nat) (r : Rl) {l : List PT}, leadsT l = false → ErrT (ruleT n r l)
  | 0, r, l, _ => ⟨_, rfl⟩
  | n + 1, r, l, h => by
    have ih := fun r => rule_err n r h
    show ErrT (stepT (ruleT n) r l)
    have h0 := h
    simp only [leadsT, Bool.or_eq_false_iff, decide_eq_false_iff_not] at h0
    obtain ⟨⟨⟨h2, h3⟩, hn⟩, hb⟩ := h0
    cases r
    case or => exact (ih .and).andThen
    case and => exact (ih .not).andThen
    case not =>
      simp only [stepT]
      rw [begins_is hb (by simp)]
      exact ih .cmp
    case cmp => exact (ih .sum).andThen
    case sum => exact (ih .prod).andThen
    case prod => exact (ih .unary).andThen
    case unary =>
      simp only [stepT]
      rw [begins_is (s := [45]) hb (by simp), begins_is (s := [40]) hb (by simp), begins_is (s := wTRUE) hb (by simp), begins_is (s := wFALSE) hb (by simp), begins_is (s := wNULL) hb (by simp), if_neg h2, if_neg h3]
      exact (name_err hn).andThen
theorem expr_err {l : List PT} (h : leadsT l = false) : ErrT (exprT l) := (rule_err _ _ h).andThen
theorem item_err {l : List PT} (h : (leadsT l || beginsT [wCOUNT, wSUM] l) = false) : ErrT (itemT l) := by
  simp only [Bool.or_eq_false_iff] at h
  unfold itemT
  rw [begins_is (s := wCOUNT) h.2 (by simp), begins_is (s := wSUM) h.2 (by simp)]
  exact (expr_err h.1).andThen
theorem row_err {l : List PT} (h : isT [40] l = false) : ErrT (rowT l) := by
  unfold rowT mustT
  rw [h]
  exact ⟨_, rfl⟩
theorem assign_err {l : List PT} (h : namedT l = false) : ErrT (assignT l) := (name_err h).andThen
structure ListB {α : Type} (P : α → Prop) (m : Nat) (x : List α) : Prop where
  all : ∀ a ∈ x, P a
  pos : 1 ≤ x.length
  most : x.length ≤ m
theorem list_B {α : Type} {P : α → Prop} {item : List PT → PR α} {begins : List PT → Bool} {most : Nat} (hi : ∀ l, TksB l → PrB P (item l)) (hb : ∀ l, begins l = false → ErrT (item l)) (h1 : 1 ≤ most) {l : List PT} (hl : TksB l) :
    PrB (ListB P most) (listT item begins most l) :=
  (hi l hl).andThen fun a l1 ha hl1 => (sep_B hi (fun l _ h => hb l h) _ (fun x hx => by rw [List.mem_singleton.1 hx]; exact ha) (by simp) (by simpa using h1) hl1).mono fun x h => ⟨h.1, h.2.1, h.2.2⟩
theorem row_B {l : List PT} (hl : TksB l) : PrB (ListB ExB 6) (rowT l) :=
  (must_B _ hl).andThen fun _ l1 _ hl1 => (list_B (fun l h => expr_B h) (fun l h => expr_err h) (by omega) hl1).andThen fun r l2 hr hl2 => (must_B _ hl2).andThen fun _ l3 _ hl3 => PrB.ok hr hl3
theorem row_may {r : List Ex} (h : ListB ExB 6 r) : mayRow r = true := by
  unfold mayRow
  simp only [Bool.and_eq_true, decide_eq_true_eq, List.all_eq_true]
  exact ⟨⟨h.pos, h.most⟩, fun e he => (h.all e he).may⟩
structure AsB (x : Asn) : Prop where
  name : wordF x.name = true
  e : ExB x.e
theorem assign_B {l : List PT} (hl : TksB l) : PrB AsB (assignT l) :=
  (name_B hl).andThen fun s l1 hs hl1 => (must_B _ hl1).andThen fun _ l2 _ hl2 => (expr_B hl2).andThen fun e l3 he hl3 => PrB.ok ⟨hs, he⟩ hl3
structure ItB (x : Itm) : Prop where
  may : ∀ m, m ≤ 1 ∨ x.kind ≠ 1 → mayI m x = true
  i : ExI x.e
theorem item_B {l : List PT} (hl : TksB l) : PrB (fun x => ItB x ∧ x.kind ≠ 1) (itemT l) := by
  unfold itemT
  split
  · exact (must_B _ hl.tail).andThen fun _ l1 _ hl1 => PrB.ok ⟨⟨fun m _ => rfl, ExI.zero⟩, by decide⟩ hl1
  split
  · exact (must_B _ hl.tail).andThen fun _ l1 _ hl1 => (expr_B hl1).andThen fun e l2 he hl2 => (must_B _ hl2).andThen fun _ l3 _ hl3 => PrB.ok ⟨⟨fun m _ => by simpa [mayI] using he.may, he.i⟩, (show (4 : Int) ≠ 1 by decide)⟩ hl3
  · exact (expr_B hl).andThen fun e l1 he hl1 => PrB.ok ⟨⟨fun m _ => by simpa [mayI] using he.may, he.i⟩, (show (2 : Int) ≠ 1 by decide)⟩ hl1
structure ItsB (x : List Itm) : Prop where
  may : mayIs x = true
  i : ∀ a ∈ x, ExI a.e
theorem items_B {l : List PT} (hl : TksB l) : PrB ItsB (itemsT l) := by
  unfold itemsT
  split
  · refine PrB.ok ⟨by rfl, fun a h => ?_⟩ hl.tail
    rw [List.mem_singleton.1 h]
    exact ExI.zero
  · refine (list_B (fun l h => item_B h) (fun l h => item_err h) (by omega) hl).mono fun x h => ⟨?_, fun a ha => (h.all a ha).1.i⟩
    unfold mayIs
    simp only [Bool.and_eq_true, decide_eq_true_eq, List.all_eq_true]
    exact ⟨⟨fun a ha => (h.all a ha).1.may _ (.inr (h.all a ha).2), h.pos⟩, h.most⟩
structure StB (s : Stm) : Prop where
  may : mayS s = true
  i : StI s
/-- What stands behind the head of a statement: its condition. -/
structure CoB (s : Stm) : Prop where
  may : (if s.filt then mayE s.cond 16 else blankE s.cond) = true
  i : ExI s.cond
theorem where_B {s : Stm} {l : List PT} (h0 : s.filt = false) (h1 : s.cond = .zero) (hl : TksB l) : PrB (fun t => CoB t ∧ ∃ f c, t = { s with filt := f, cond := c }) (whereT s l) := by
  unfold whereT
  split
  · exact (expr_B hl.tail).andThen fun e l1 he hl1 => PrB.ok ⟨⟨he.may, he.i⟩, _, _, rfl⟩ hl1
  · refine PrB.ok ⟨⟨?_, ?_⟩, s.filt, s.cond, rfl⟩ hl
    · rw [h0, h1]; rfl
    · rw [h1]; exact ExI.zero
theorem order_B {s : Stm} {l : List PT} (h0 : s.order = []) (h1 : s.down = false) (hl : TksB l) : PrB (fun t => ((t.order = [] ∧ t.down = false) ∨ wordF t.order = true) ∧ ∃ o d, t = { s with order := o, down := d }) (orderT s l) := by
  unfold orderT
  split
  · refine (must_B _ hl.tail).andThen fun _ l1 _ hl1 => (name_B hl1).andThen fun o l2 ho hl2 => ?_
    split
    · exact PrB.ok ⟨.inr ho, _, _, rfl⟩ hl2.tail
    · refine PrB.ok ⟨.inr ho, _, _, rfl⟩ ?_
      split
      · exact hl2.tail
      · exact hl2
  · exact PrB.ok ⟨.inl ⟨h0, h1⟩, s.order, s.down, rfl⟩ hl
theorem limit_B {s : Stm} {l : List PT} (h0 : -1 ≤ s.limit) (h1 : i64B s.limit = true) (hl : TksB l) : PrB (fun t => -1 ≤ t.limit ∧ i64B t.limit = true ∧ ∃ n, t = { s with limit := n }) (limitT s l) := by
  unfold limitT
  split
  · exact (int_B hl.tail).andThen fun n l1 hn hl1 => PrB.ok ⟨by show (-1 : Int) ≤ (n : Int); omega, i64_le hn, _, rfl⟩ hl1
  · exact PrB.ok ⟨h0, h1, s.limit, rfl⟩ hl
theorem choose_B {l : List PT} (hl : TksB l) : PrB StB (chooseT l) := by
  refine (items_B hl).andThen fun is l1 hi hl1 => (must_B _ hl1).andThen fun _ l2 _ hl2 => (name_B hl2).andThen fun t l3 ht hl3 =>
    (where_B rfl rfl hl3).andThen fun s l4 hs hl4 => ?_
  obtain ⟨hc, f, c, rfl⟩ := hs
  refine (order_B rfl rfl hl4).andThen fun s l5 hs hl5 => ?_
  obtain ⟨ho, o, d, rfl⟩ := hs
  refine (limit_B (show (-1 : Int) ≤ -1 by decide) (show i64B (-1) = true by decide) hl5).mono fun s hs => ?_
  obtain ⟨hm1, hm2, n, rfl⟩ := hs
  refine ⟨?_, hi.i, (fun r h => by cases h), (fun x h => by cases h), hc.i, hm2⟩
  have h1 := hc.may
  dsimp only at h1 hm1 ho
  have ho2 : ((decide (o = []) && !d) || wordF o) = true := by
    rcases ho with ⟨h, h'⟩ | h
    · rw [h, h']; rfl
    · rw [h]; simp
  unfold mayS
  simp only [ht, h1, hi.may, ho2, hm1, Stm.zero]
  simp
theorem insert_B {l : List PT} (hl : TksB l) : PrB StB (insertT l) := by
  refine (must_B _ hl).andThen fun _ l1 _ hl1 => (name_B hl1).andThen fun t l2 ht hl2 => (must_B _ hl2).andThen fun _ l3 _ hl3 => (list_B (fun l h => row_B h) (fun l h => row_err h) (by omega) hl3).andThen fun rs l4 hr hl4 => PrB.ok ?_ hl4
  refine ⟨?_, (fun x h => by cases h), fun r h e he => ((hr.all r h).all e he).i, (fun x h => by cases h), ExI.zero, show i64B 0 = true by decide⟩
  have hm : mayRows rs = true := by
    unfold mayRows
    simp only [Bool.and_eq_true, decide_eq_true_eq, List.all_eq_true]
    exact ⟨⟨fun r h => row_may (hr.all r h), hr.pos⟩, hr.most⟩
  have hb : blankE Ex.zero = true := rfl
  unfold mayS
  simp only [ht, hm, Stm.zero, hb]
  simp [hb]
theorem update_B {l : List PT} (hl : TksB l) : PrB StB (updateT l) := by
  refine (name_B hl).andThen fun t l1 ht hl1 => (must_B _ hl1).andThen fun _ l2 _ hl2 => (list_B (fun l h => assign_B h) (fun l h => assign_err h) (by omega) hl2).andThen fun ss l3 hs hl3 => (where_B rfl rfl hl3).mono fun s h => ?_
  obtain ⟨hc, f, c, rfl⟩ := h
  refine ⟨?_, (fun x h => by cases h), (fun r h => by cases h), fun x h => (hs.all x h).e.i, hc.i, show i64B 0 = true by decide⟩
  have hm : maySets ss = true := by
    unfold maySets
    simp only [Bool.and_eq_true, decide_eq_true_eq, List.all_eq_true]
    exact ⟨⟨hs.pos, hs.most⟩, fun x h => ⟨(hs.all x h).name, (hs.all x h).e.may⟩⟩
  have h1 := hc.may
  dsimp only at h1
  unfold mayS
  simp only [ht, hm, h1, Stm.zero]
  simp
theorem delete_B {l : List PT} (hl : TksB l) : PrB StB (deleteT l) := by
  refine (must_B _ hl).andThen fun _ l1 _ hl1 => (name_B hl1).andThen fun t l2 ht hl2 => (where_B rfl rfl hl2).mono fun s h => ?_
  obtain ⟨hc, f, c, rfl⟩ := h
  refine ⟨?_, (fun x h => by cases h), (fun r h => by cases h), (fun x h => by cases h), hc.i, show i64B 0 = true by decide⟩
  have h1 := hc.may
  dsimp only at h1
  unfold mayS
  simp only [ht, h1, Stm.zero]
  simp
theorem stmt_B {l : List PT} (hl : TksB l) : PrB StB (stmtT l) := by
  unfold stmtT
  split
  · exact choose_B hl.tail
  split
  · exact insert_B hl.tail
  split
  · exact update_B hl.tail
  · exact delete_B hl
theorem stmts_B : ∀ (k : Nat) {acc : List Stm} {l : List PT}, (∀ s ∈ acc, StB s) → 1 ≤ acc.length → acc.length ≤ 8 → TksB l → PrB (ListB StB 8) (stmtsT k acc l)
  | 0, acc, l, h, h1, h2, hl => PrB.ok ⟨h, h1, h2⟩ hl
  | k + 1, acc, l, h, h1, h2, hl => by
    unfold stmtsT
    split
    · split
      · split
        · exact PrB.wrong
        · rename_i hne
          refine (stmt_B hl.tail).andThen fun a l1 ha hl1 => stmts_B k (fun x hx => ?_) (by simp) (by simp; omega) hl1
          rcases List.mem_append.1 hx with hx | hx
          · exact h x hx
          · rw [List.mem_singleton.1 hx]; exact ha
      · exact PrB.ok ⟨h, h1, h2⟩ hl.tail
    · exact PrB.ok ⟨h, h1, h2⟩ hl
structure LotB (l : LotM) : Prop where
  may : mayLot l = true
  i : LotI l
theorem lot_B {m : Int} {n : Nat} {ss : List Stm} (h : ListB StB 8 ss) (hm : m = 1 ∨ m = 2 ∨ (m = 0 ∧ n = 0)) (hn : n ≤ maxI) : LotB ⟨m, n, ss⟩ := by
  refine ⟨?_, i64_le hn, fun s hs => (h.all s hs).i⟩
  unfold mayLot
  have h1 := h.pos
  have h2 := h.most
  have h3 : ss.all mayS = true := List.all_eq_true.2 fun s hs => (h.all s hs).may
  simp only [h3, h1, h2]
  rcases hm with rfl | rfl | ⟨rfl, rfl⟩ <;> simp
theorem asof_B {ss : List Stm} {l : List PT} (h : ListB StB 8 ss) (hl : TksB l) : PrB LotB (asofT ss l) := by
  unfold asofT
  split
  · refine (must_B _ hl.tail).andThen fun _ l1 _ hl1 => ?_
    split
    · exact (int_B hl1.tail).andThen fun n l2 hn hl2 => PrB.ok (lot_B h (.inr (.inl rfl)) hn) hl2
    · exact (int_B hl1).andThen fun n l2 hn hl2 => PrB.ok (lot_B h (.inl rfl) hn) hl2
  · exact PrB.ok (lot_B (n := 0) h (.inr (.inr ⟨rfl, rfl⟩)) (Nat.zero_le _)) hl
theorem lotP_B {l : List PT} (hl : TksB l) : PrB LotB (lotP l) := by
  refine (stmt_B hl).andThen fun s l1 hs hl1 => (stmts_B _ (fun x hx => by rw [List.mem_singleton.1 hx]; exact hs) (by simp) (by simp) hl1).andThen fun ss l2 hss hl2 => (asof_B hss hl2).andThen fun t l3 ht hl3 => ?_
  split
  · exact PrB.ok ht hl3
  · exact PrB.wrong
/-- What is parsed may be and its numbers fit; what is not is nothing. -/
theorem parse_may (s : List UInt8) : ((parseF s).2.2 = 0 → LotB (parseF s).1 ∧ (parseF s).2.1 = 0) ∧ ((parseF s).2.2 ≠ 0 → (parseF s).1 = .zero) := by
  unfold parseF
  split
  · cases h : lotP (lexF s).2 with
    | error e =>
      exact ⟨fun h0 => absurd h0 ((lotP_B (lexF_B s)).2 _ h), fun _ => rfl⟩
    | ok y =>
      obtain ⟨l, r⟩ := y
      exact ⟨fun _ => ⟨((lotP_B (lexF_B s)).1 l r h).1, rfl⟩, fun h => absurd rfl h⟩
  · rename_i h
    exact ⟨fun h2 => absurd h2 h, fun _ => rfl⟩
set_option maxRecDepth 100000 in
set_option maxHeartbeats 8000000 in
theorem again_walk (s : ByteArray) (w : World) (hs : s.size ≤ maxLen) (hE : EnvT w) : Calls Tryz.prog 7 #[.string s] w fun e w' => e = .returned (.bool true) ∧ Same (fun _ => True) w w' := by
  unfold maxLen at hs
  have HE := Lib.hid hE
  clear hE
  go_enter Tryz.func7, Tryz.ntmps7
  go_wp2_with (go_at_call 9; refine stopAt ?_)
  unfold Hid
  refine (begun_any w HE.out).mono ?_
  rintro e w1 ⟨rfl, hS⟩
  have HE := Lib.hid (HE.out.keepAll hS)
  have HS := Lib.hid hS
  clear hS
  by_cases hl : 2100 < s.size
  · have d1 : (2100 : Int) < (s.size : Int) := by omega
    go_wp2
    go_ret
    exact ⟨rfl, HS.out⟩
  have d1 : ¬ (2100 : Int) < (s.size : Int) := by omega
  have hp1 := parse_any s w1 (by omega) HE.out.max
  obtain ⟨r, hr⟩ : ∃ r, r = parseF (bl s) := ⟨_, rfl⟩
  have hm := parse_may (bl s)
  rw [← hr] at hp1 hm
  clear hr
  obtain ⟨L, at_, er⟩ := r
  dsimp only at hm
  go_wp2_with (go_at_call 10; refine stopAt ?_)
  unfold Hid
  refine (show Calls _ _ _ _ _ from hp1).mono ?_
  rintro e w2 ⟨u, rfl, hlt, hS⟩
  obtain ⟨A, c, rfl, -, -⟩ := (show LsR stCsP 15 StR _ _ u L.stmts from hlt).form
  have hA := (Same.refl (fun _ => True) w2).alloc (.cells #[.int .i64 L.mode, .int .i64 L.n, .slice A L.stmts.length c] 25)
  have hrow := Row.new w2 25 [.int .i64 L.mode, .int .i64 L.n, .slice A L.stmts.length c]
  have hl1 : LsR stCsP 15 StR (w2.alloc (.cells #[.int .i64 L.mode, .int .i64 L.n, .slice A L.stmts.length c] 25)) (fun _ => True) (.slice A L.stmts.length c) L.stmts := (LsR.mono stK (by omega) (show LsR stCsP 15 StR _ _ (.slice A L.stmts.length c) L.stmts from hlt) (fun _ _ _ => trivial)).keepAll stK hA
  have hs1 := hS.trans hA
  have he1 := HE.out.keepAll hs1
  have hs1 := HS.out.trans hs1
  clear hlt hS hA hp1
  by_cases he : er = 0
  case neg =>
    obtain rfl : L = LotM.zero := hm.2 he
    have hx : ((er : Int) != 0) = true := by simpa using he
    have hx2 : ¬ ((er : Int) = 0) := by omega
    have HS := Lib.hid hs1
    have c0 := hrow.cell 0
    have c2 := hrow.cell 2
    simp only [List.getElem?_cons_zero, List.getElem?_cons_succ] at c0 c2
    clear hl1 hs1 he1 hrow hm
    simp only [LotM.zero, List.length_nil] at c0 c2 ⊢
    go_wp2
    go_ret
    exact ⟨rfl, HS.out⟩
  case pos =>
    obtain rfl := he
    obtain ⟨hB, -⟩ := hm.1 rfl
    have HB := Lib.hid hB
    clear hm hB
    go_wp2_with (go_at_call 16; refine stopAt ?_)
    unfold Hid
    revert hrow hl1 he1 hs1
    generalize w2.alloc _ = w3
    intro hrow hl1 he1 hs1
    have HR := Lib.hid hrow
    have HL := Lib.hid hl1
    have HS := Lib.hid hs1
    have HE := Lib.hid he1
    clear hrow hl1 hs1 he1
    refine (print_any L (.slice A L.stmts.length c) w3 HB.out.i HL.out HE.out).mono ?_
    by_cases hlen : (lotT L).length ≤ 2000
    · rw [show printF L = (lotT L, 0) by unfold printF; rw [if_pos ⟨HB.out.may, hlen⟩]]
      rintro e w4 ⟨rfl, hS⟩
      have HR := Lib.hid (HR.out.keep hS trivial)
      have HL := Lib.hid (HL.out.keepAll stK hS)
      have HE := Lib.hid (HE.out.keepAll hS)
      have HS := Lib.hid (HS.out.trans hS)
      have hp2 := parse_at (lotT L) w4 (by omega) HE.out.max
      rw [parse_print HB.out.may HB.out.i hlen] at hp2
      clear hS
      dsimp only
      go_wp2_with (go_at_call 10; refine stopAt ?_)
      unfold Hid
      refine (show Calls _ _ _ _ _ from hp2).mono ?_
      rintro e w5 ⟨u2, rfl, hlt2, hS⟩
      dsimp only at hlt2
      obtain ⟨A2, c2, rfl, -, -⟩ := (show LsR stCsP 15 StR _ _ u2 L.stmts from hlt2).form
      have hA := (Same.refl (fun _ => True) w5).alloc (.cells #[.int .i64 L.mode, .int .i64 L.n, .slice A2 L.stmts.length c2] 25)
      have hrow := Row.new w5 25 [.int .i64 L.mode, .int .i64 L.n, .slice A2 L.stmts.length c2]
      have hl1 : LsR stCsP 15 StR (w5.alloc (.cells #[.int .i64 L.mode, .int .i64 L.n, .slice A2 L.stmts.length c2] 25)) (fun _ => True) (.slice A2 L.stmts.length c2) L.stmts := (LsR.mono stK (by omega) (show LsR stCsP 15 StR _ _ (.slice A2 L.stmts.length c2) L.stmts from hlt2) (fun _ _ _ => trivial)).keepAll stK hA
      have hs1 := hS.trans hA
      have R2 := Lib.hid hrow
      have HL2 := Lib.hid hl1
      have HR := Lib.hid (HR.out.keep hs1 trivial)
      have HL := Lib.hid (HL.out.keepAll stK hs1)
      have HE := Lib.hid (HE.out.keepAll hs1)
      have HS := Lib.hid (HS.out.trans hs1)
      have c0 := HR.out.cell 0
      have c1 := HR.out.cell 1
      have c2' := HR.out.cell 2
      have g0 := R2.out.cell 0
      have g1 := R2.out.cell 1
      have g2 := R2.out.cell 2
      simp only [List.getElem?_cons_zero, List.getElem?_cons_succ] at c0 c1 c2' g0 g1 g2
      clear hlt2 hS hA hs1 hl1 hrow hp2
      go_wp2_with (go_at_call 20; refine stopAt ?_)
      unfold Hid
      refine (same_any L L (.slice A L.stmts.length c) (.slice A2 L.stmts.length c2) _ HL.out HL2.out).mono ?_
      rw [sameLot_refl]
      rintro e w6 ⟨rfl, hS⟩
      have k0 := hS.cell (p := ⟨w2.heap.size, 0, none⟩) trivial c0
      have k1 := hS.cell (p := ⟨w2.heap.size, 1, none⟩) trivial c1
      have k2 := hS.cell (p := ⟨w2.heap.size, 2, none⟩) trivial c2'
      have HL := Lib.hid (HL.out.keepAll stK hS)
      have HE := Lib.hid (HE.out.keepAll hS)
      have HS := Lib.hid (HS.out.trans hS)
      clear hS c0 c1 c2' g0 g1 g2
      go_wp2_with (go_at_call 18; refine stopAt ?_)
      unfold Hid
      refine (may_any L (.slice A L.stmts.length c) _ HL.out HE.out.max).mono ?_
      rw [HB.out.may]
      rintro e w7 ⟨rfl, hS⟩
      have HS := Lib.hid (HS.out.trans hS)
      clear hS
      go_wp2
      go_ret
      exact ⟨rfl, HS.out⟩
    · rw [show printF L = ([], 9) by unfold printF; rw [if_neg (fun h => hlen h.2)]]
      rintro e w4 ⟨rfl, hS⟩
      have HR := Lib.hid (HR.out.keep hS trivial)
      have HL := Lib.hid (HL.out.keepAll stK hS)
      have HE := Lib.hid (HE.out.keepAll hS)
      have HS := Lib.hid (HS.out.trans hS)
      have c0 := HR.out.cell 0
      have c1 := HR.out.cell 1
      have c2' := HR.out.cell 2
      simp only [List.getElem?_cons_zero, List.getElem?_cons_succ] at c0 c1 c2'
      clear hS
      dsimp only
      rw [show str [] = (⟨#[]⟩ : ByteArray) from rfl]
      go_wp2_with (go_at_call 18; refine stopAt ?_)
      unfold Hid
      refine (may_any L (.slice A L.stmts.length c) _ HL.out HE.out.max).mono ?_
      rw [HB.out.may]
      rintro e w7 ⟨rfl, hS⟩
      have HS := Lib.hid (HS.out.trans hS)
      clear hS
      go_wp2
      go_ret
      exact ⟨rfl, HS.out⟩
end Go.Proofs.YtdfojghhpdkpfaaGreatDoor
