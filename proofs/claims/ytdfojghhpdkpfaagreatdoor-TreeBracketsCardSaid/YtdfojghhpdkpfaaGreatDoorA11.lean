/-
  Words, plain models, laws and walks that the claims of this layer share (joined by shake.py). No condition.
-/
import Derived.Deep.CutBlock
import Derived.Test.YtdfojghhpdkpfaaGreatDoorA10
set_option linter.unusedSimpArgs false
set_option linter.unusedVariables false
namespace Go.Proofs.YtdfojghhpdkpfaaGreatDoor
open Go.RowKit
abbrev sC (s : List UInt8) : List Value := [.string (str s)]
theorem TSs : SlT Tryz.prog 66 9 1 16 (.string ⟨#[]⟩) := ⟨by kernel_rfl, by kernel_rfl, rfl, by omega⟩
theorem joinT_eq (sep : List UInt8) : ∀ l : List (List UInt8), joinT sep l = Lib.join l sep
  | [] => rfl
  | [a] => (Lib.join_one a sep).symm
  | a :: b :: l => by
    rw [Lib.join_cons, joinT, joinT_eq sep (b :: l), Lib.join_cons]
    · simp [Lib.joinTail]
    · intro h; cases h
theorem join_len (sep : List UInt8) (M : Nat) : ∀ l : List (List UInt8), (∀ x ∈ l, x.length ≤ M) → (joinT sep l).length ≤ l.length * (M + sep.length)
  | [], _ => by simp [joinT]
  | [a], h => by have := h a (by simp); simp [joinT]; omega
  | a :: b :: l, h => by
    have h1 := h a (by simp)
    have h2 := join_len sep M (b :: l) fun x hx => h x (by simp at hx ⊢; exact .inr hx)
    have e : (a :: b :: l).length * (M + sep.length) = (b :: l).length * (M + sep.length) + (M + sep.length) := by rw [List.length_cons, Nat.succ_mul]
    rw [e]
    simp only [joinT, List.length_append]
    omega
theorem flat_sC : ∀ l : List (List UInt8), l.flatMap sC = l.map fun s => Value.string (str s)
  | [] => rfl
  | a :: l => by rw [List.flatMap_cons, flat_sC l]; rfl
/-- Texts joined out of a row that the call owns. -/
theorem join_any (sep : List UInt8) (L : List (List UInt8)) (v : Value) (B : Nat) (w : World) (h : OwnR sC 1 9 w B v L) (hn : L.length ≤ 1000) (hj : (joinT sep L).length ≤ 100000000000) : Calls Tryz.prog 26 #[v, .string (str sep)] w (TextP (joinT sep L) w) := by
  rcases ownsRow_row h with ⟨rfl, h0, -⟩ | ⟨g, cap, cur, rfl, hb, hr, h1, h2, h3, h4⟩
  · have h0 : L.length = 0 := h0
    obtain rfl := List.eq_nil_of_length_eq_zero h0
    refine (Tryz.strings_Join_none none 0 (str sep) w).mono ?_
    rintro e w' ⟨rfl, rfl⟩
    exact ⟨rfl, Same.refl _ _⟩
  · have hx : ((L.map str).map (·.data.toList)) = L := by
      rw [List.map_map]
      conv => rhs; rw [← List.map_id L]
      rfl
    have hcells : ∀ (j : Nat) (x : ByteArray), (L.map str)[j]? = some x → w.cell? ⟨g, 0 + j, none⟩ = some (.string x) := by
      intro j x hx
      rw [List.getElem?_map] at hx
      obtain ⟨y, hy, rfl⟩ := Option.map_eq_some_iff.1 hx
      have hj : j < L.length := (List.getElem?_eq_some_iff.1 hy).1
      rw [Nat.zero_add, hr.cell]
      have h5 : (cur.take (L.length * 1))[j]? = some (Value.string (str y)) := by
        rw [h4, flat_sC, List.getElem?_map, hy]; rfl
      rw [List.getElem?_take, if_pos (by omega)] at h5
      exact h5
    have := Tryz.strings_Join g 0 cap (L.map str) (str sep) w hcells hr.lt (by rw [List.length_map]; omega) (by rw [List.length_map]; exact h1) (by rw [hx, show (str sep).data.toList = sep from rfl, ← joinT_eq]; omega)
    rw [hx, show (str sep).data.toList = sep from rfl, ← joinT_eq, List.length_map] at this
    refine this.mono ?_
    rintro e w' ⟨rfl, hS⟩
    exact ⟨rfl, (Same.ofBelow hS).mono fun i hi _ => hi⟩
set_option maxRecDepth 100000 in
set_option maxHeartbeats 4000000 in
theorem list_Ex (F : Ex → List UInt8) (M : Nat) (hM : M ≤ 2000000000) (l : List Ex) (v : Value) (w : World) (h : LsR exCsP 6 ExR w (fun _ => True) v l) (hE : EnvT w) (hn : l.length ≤ 16) (hF : ∀ x ∈ l, (F x).length ≤ M)
    (hcall : ∀ (i : Nat) (hi : i < l.length) (u : Value) (W : World), ExR W (fun _ => True) u l[i] → EnvT W → Calls Tryz.prog 47 #[exV u l[i]] W (TextP (F l[i]) W)) :
    Calls Tryz.prog 46 #[v, .func (.func 47) #[] #[]] w (TextP (joinT [44, 32] (l.map F)) w) := by
  obtain ⟨A, c, rfl, hc1, hc2⟩ := h.form
  unfold maxLen at hc2
  have hj : (joinT [44, 32] (l.map F)).length ≤ 100000000000 := by
    have h1 := join_len [44, 32] M (l.map F) fun x hx => by
      obtain ⟨y, hy, rfl⟩ := List.mem_map.1 hx
      exact hF y hy
    rw [List.length_map] at h1
    have h2 : l.length * (M + [44, 32].length) ≤ 16 * (2000000000 + 2) := Nat.mul_le_mul hn (by simp only [List.length_cons, List.length_nil]; omega)
    omega
  have HL := Lib.hid h
  have HE := Lib.hid hE
  have HC := Lib.hid hcall
  have HJ := Lib.hid hj
  have HN := Lib.hid hn
  clear h hE hcall hj hn hF hM
  go_enter Tryz.func46, Tryz.ntmps46
  go_wp2
  go_loopw [5, 10] (fun v i wr => ∃ q : Nat, i = .int .i64 (q : Int) ∧ q ≤ l.length ∧ OwnR sC 1 9 wr w.heap.size v ((l.take q).map F) ∧ Same (fun _ => True) w wr) (fun _ i _ => l.length - (intOf i).toNat)
  case atStart => exact ⟨0, rfl, Nat.zero_le _, OwnR.nil _ _, Same.refl _ _⟩
  case round =>
    obtain ⟨q, rfl, hq, hov, hS⟩ := hrel
    obtain ⟨Av, cv, rfl, hv1, hv2⟩ := hov.form
    have hln : ((l.take q).map F).length = q := by rw [List.length_map, List.length_take]; omega
    rw [hln] at hov hv1 ⊢
    unfold maxLen at hv2
    have x1 : (0 : Int) ≤ (q : Int) := by omega
    have HS := Lib.hid hS
    have HE2 := Lib.hid (HE.out.keepAll hS)
    have HOV := Lib.hid hov
    clear hov
    by_cases hql : q < l.length
    · have x2 : (q : Int) < (l.length : Int) := by omega
      obtain ⟨ad, u, rfl, hok, hcl⟩ := LsR.at_ (HL.out.keepAll exK hS) exCsP_len hql
      obtain ⟨A_u, c_u, rfl, -, -⟩ := (show ExR _ _ u l[q] from hok).toL.form
      have d0 := hcl 0 (by omega)
      rw [add_zero] at d0
      have d1 := hcl 1 (by omega)
      rw [addr_add _ _ (by omega)] at d1
      have d2 := hcl 2 (by omega)
      rw [addr_add _ _ (by omega)] at d2
      have d3 := hcl 3 (by omega)
      rw [addr_add _ _ (by omega)] at d3
      have d4 := hcl 4 (by omega)
      rw [addr_add _ _ (by omega)] at d4
      have d5 := hcl 5 (by omega)
      rw [addr_add _ _ (by omega)] at d5
      simp only [exCsP, exCs, List.getElem?_cons_zero, List.getElem?_cons_succ] at d0 d1 d2 d3 d4 d5
      have HOK := Lib.hid hok
      clear hok hS hcl
      go_wp2_with (go_at_call 47; refine stopAt ?_)
      unfold Hid
      refine (HC.out q hql _ _ (exK.keep HOK.out ((Same.refl (fun _ => True) wr).alloc _)) (HE2.out.keepAll ((Same.refl (fun _ => True) wr).alloc _))).mono ?_
      rintro e w5 ⟨rfl, hS⟩
      have HS5 := Lib.hid ((HS.out.trans ((Same.refl (fun _ => True) wr).alloc _)).trans hS)
      have HOV5 := Lib.hid (HOV.out.keepAll (((Same.refl (fun _ => True) wr).alloc _).trans hS))
      clear hS
      go_wp2_with (at_builtin; refine stopAt ?_)
      unfold Hid
      refine wpList_appR1 TSs (fun _ => rfl) (fun x u hu => by simp only [sC, List.mem_cons, List.not_mem_nil, or_false] at hu; rw [hu]; rfl) rfl (.tmp 14) (.tmp 18) rfl (f := sC) (B := w.heap.size) (v := .slice Av q cv) (l := (l.take q).map F) (c := F l[q]) rfl rfl rfl HOV5.out HS5.out.size (by rw [hln]; simp only [maxLen]; omega) (by rw [hln]; have := HN.out; omega) ?_
      intro v' w6 hO hS6
      have hO : OwnR sC 1 9 w6 w.heap.size v' ((l.take (q + 1)).map F) := by
        rw [List.take_add_one, List.getElem?_eq_getElem hql, List.map_append]
        exact hO
      obtain ⟨A9, c9, rfl, -, -⟩ := hO.form
      have hln9 : ((l.take (q + 1)).map F).length = q + 1 := by rw [List.length_map, List.length_take]; omega
      rw [hln9] at hO ⊢
      have HO9 := Lib.hid hO
      have HS9 := Lib.hid (HS5.out.trans' hS6 fun i hi _ => hi)
      clear hO hS6 hln9
      go_wp2
      go_roundw
      case rel => exact ⟨q + 1, by go_num, by omega, HO9.out, HS9.out⟩
      case measure => simp [intOf]; omega
    · obtain rfl : q = l.length := by omega
      have HOV : Hid (OwnR sC 1 9 wr w.heap.size (.slice Av l.length cv) (l.map F)) := Lib.hid (by have := HOV.out; rw [List.take_length] at this; exact this)
      clear hS hln
      go_wp2_with (go_at_call 26; refine stopAt ?_)
      unfold Hid
      refine (join_any [44, 32] (l.map F) _ w.heap.size wr HOV.out (by have := HN.out; rw [List.length_map]; omega) HJ.out).mono ?_
      rintro e w5 ⟨rfl, hS⟩
      have HS5 := Lib.hid (HS.out.trans hS)
      clear hS
      go_wp2
      go_ret
      exact ⟨rfl, HS5.out⟩
set_option maxRecDepth 100000 in
set_option maxHeartbeats 4000000 in
theorem list_It (F : Itm → List UInt8) (M : Nat) (hM : M ≤ 2000000000) (l : List Itm) (v : Value) (w : World) (h : LsR itCs 7 itOk w (fun _ => True) v l) (hE : EnvT w) (hn : l.length ≤ 16) (hF : ∀ x ∈ l, (F x).length ≤ M)
    (hcall : ∀ (i : Nat) (hi : i < l.length) (u : Value) (W : World), itOk W (fun _ => True) u l[i] → EnvT W → Calls Tryz.prog 43 #[itV u l[i]] W (TextP (F l[i]) W)) :
    Calls Tryz.prog 42 #[v, .func (.func 43) #[] #[]] w (TextP (joinT [44, 32] (l.map F)) w) := by
  obtain ⟨A, c, rfl, hc1, hc2⟩ := h.form
  unfold maxLen at hc2
  have hj : (joinT [44, 32] (l.map F)).length ≤ 100000000000 := by
    have h1 := join_len [44, 32] M (l.map F) fun x hx => by
      obtain ⟨y, hy, rfl⟩ := List.mem_map.1 hx
      exact hF y hy
    rw [List.length_map] at h1
    have h2 : l.length * (M + [44, 32].length) ≤ 16 * (2000000000 + 2) := Nat.mul_le_mul hn (by simp only [List.length_cons, List.length_nil]; omega)
    omega
  have HL := Lib.hid h
  have HE := Lib.hid hE
  have HC := Lib.hid hcall
  have HJ := Lib.hid hj
  have HN := Lib.hid hn
  clear h hE hcall hj hn hF hM
  go_enter Tryz.func42, Tryz.ntmps42
  go_wp2
  go_loopw [5, 10] (fun v i wr => ∃ q : Nat, i = .int .i64 (q : Int) ∧ q ≤ l.length ∧ OwnR sC 1 9 wr w.heap.size v ((l.take q).map F) ∧ Same (fun _ => True) w wr) (fun _ i _ => l.length - (intOf i).toNat)
  case atStart => exact ⟨0, rfl, Nat.zero_le _, OwnR.nil _ _, Same.refl _ _⟩
  case round =>
    obtain ⟨q, rfl, hq, hov, hS⟩ := hrel
    obtain ⟨Av, cv, rfl, hv1, hv2⟩ := hov.form
    have hln : ((l.take q).map F).length = q := by rw [List.length_map, List.length_take]; omega
    rw [hln] at hov hv1 ⊢
    unfold maxLen at hv2
    have x1 : (0 : Int) ≤ (q : Int) := by omega
    have HS := Lib.hid hS
    have HE2 := Lib.hid (HE.out.keepAll hS)
    have HOV := Lib.hid hov
    clear hov
    by_cases hql : q < l.length
    · have x2 : (q : Int) < (l.length : Int) := by omega
      obtain ⟨ad, u, rfl, hok, hcl⟩ := LsR.at_ (HL.out.keepAll itK hS) itCs_len hql
      obtain ⟨A_u, c_u, rfl, -, -⟩ := (show ExR _ _ u l[q].e from hok).toL.form
      have d0 := hcl 0 (by omega)
      rw [add_zero] at d0
      have d1 := hcl 1 (by omega)
      rw [addr_add _ _ (by omega)] at d1
      have d2 := hcl 2 (by omega)
      rw [addr_add _ _ (by omega)] at d2
      have d3 := hcl 3 (by omega)
      rw [addr_add _ _ (by omega)] at d3
      have d4 := hcl 4 (by omega)
      rw [addr_add _ _ (by omega)] at d4
      have d5 := hcl 5 (by omega)
      rw [addr_add _ _ (by omega)] at d5
      have d6 := hcl 6 (by omega)
      rw [addr_add _ _ (by omega)] at d6
      simp only [itCs, exCs, List.getElem?_cons_zero, List.getElem?_cons_succ] at d0 d1 d2 d3 d4 d5 d6
      have HOK := Lib.hid hok
      clear hok hS hcl
      go_wp2_with (go_at_call 43; refine stopAt ?_)
      unfold Hid
      refine (HC.out q hql _ _ (itK.keep HOK.out ((Same.refl (fun _ => True) wr).alloc _)) (HE2.out.keepAll ((Same.refl (fun _ => True) wr).alloc _))).mono ?_
      rintro e w5 ⟨rfl, hS⟩
      have HS5 := Lib.hid ((HS.out.trans ((Same.refl (fun _ => True) wr).alloc _)).trans hS)
      have HOV5 := Lib.hid (HOV.out.keepAll (((Same.refl (fun _ => True) wr).alloc _).trans hS))
      clear hS
      go_wp2_with (at_builtin; refine stopAt ?_)
      unfold Hid
      refine wpList_appR1 TSs (fun _ => rfl) (fun x u hu => by simp only [sC, List.mem_cons, List.not_mem_nil, or_false] at hu; rw [hu]; rfl) rfl (.tmp 14) (.tmp 18) rfl (f := sC) (B := w.heap.size) (v := .slice Av q cv) (l := (l.take q).map F) (c := F l[q]) rfl rfl rfl HOV5.out HS5.out.size (by rw [hln]; simp only [maxLen]; omega) (by rw [hln]; have := HN.out; omega) ?_
      intro v' w6 hO hS6
      have hO : OwnR sC 1 9 w6 w.heap.size v' ((l.take (q + 1)).map F) := by
        rw [List.take_add_one, List.getElem?_eq_getElem hql, List.map_append]
        exact hO
      obtain ⟨A9, c9, rfl, -, -⟩ := hO.form
      have hln9 : ((l.take (q + 1)).map F).length = q + 1 := by rw [List.length_map, List.length_take]; omega
      rw [hln9] at hO ⊢
      have HO9 := Lib.hid hO
      have HS9 := Lib.hid (HS5.out.trans' hS6 fun i hi _ => hi)
      clear hO hS6 hln9
      go_wp2
      go_roundw
      case rel => exact ⟨q + 1, by go_num, by omega, HO9.out, HS9.out⟩
      case measure => simp [intOf]; omega
    · obtain rfl : q = l.length := by omega
      have HOV : Hid (OwnR sC 1 9 wr w.heap.size (.slice Av l.length cv) (l.map F)) := Lib.hid (by have := HOV.out; rw [List.take_length] at this; exact this)
      clear hS hln
      go_wp2_with (go_at_call 26; refine stopAt ?_)
      unfold Hid
      refine (join_any [44, 32] (l.map F) _ w.heap.size wr HOV.out (by have := HN.out; rw [List.length_map]; omega) HJ.out).mono ?_
      rintro e w5 ⟨rfl, hS⟩
      have HS5 := Lib.hid (HS.out.trans hS)
      clear hS
      go_wp2
      go_ret
      exact ⟨rfl, HS5.out⟩
set_option maxRecDepth 100000 in
set_option maxHeartbeats 4000000 in
theorem list_Rw (F : (List Ex) → List UInt8) (M : Nat) (hM : M ≤ 2000000000) (l : List (List Ex)) (v : Value) (w : World) (h : LsR rwCs 1 rwOk w (fun _ => True) v l) (hE : EnvT w) (hn : l.length ≤ 16) (hF : ∀ x ∈ l, (F x).length ≤ M)
    (hcall : ∀ (i : Nat) (hi : i < l.length) (u : Value) (W : World), rwOk W (fun _ => True) u l[i] → EnvT W → Calls Tryz.prog 45 #[u] W (TextP (F l[i]) W)) :
    Calls Tryz.prog 44 #[v, .func (.func 45) #[] #[]] w (TextP (joinT [44, 32] (l.map F)) w) := by
  obtain ⟨A, c, rfl, hc1, hc2⟩ := h.form
  unfold maxLen at hc2
  have hj : (joinT [44, 32] (l.map F)).length ≤ 100000000000 := by
    have h1 := join_len [44, 32] M (l.map F) fun x hx => by
      obtain ⟨y, hy, rfl⟩ := List.mem_map.1 hx
      exact hF y hy
    rw [List.length_map] at h1
    have h2 : l.length * (M + [44, 32].length) ≤ 16 * (2000000000 + 2) := Nat.mul_le_mul hn (by simp only [List.length_cons, List.length_nil]; omega)
    omega
  have HL := Lib.hid h
  have HE := Lib.hid hE
  have HC := Lib.hid hcall
  have HJ := Lib.hid hj
  have HN := Lib.hid hn
  clear h hE hcall hj hn hF hM
  go_enter Tryz.func44, Tryz.ntmps44
  go_wp2
  go_loopw [5, 10] (fun v i wr => ∃ q : Nat, i = .int .i64 (q : Int) ∧ q ≤ l.length ∧ OwnR sC 1 9 wr w.heap.size v ((l.take q).map F) ∧ Same (fun _ => True) w wr) (fun _ i _ => l.length - (intOf i).toNat)
  case atStart => exact ⟨0, rfl, Nat.zero_le _, OwnR.nil _ _, Same.refl _ _⟩
  case round =>
    obtain ⟨q, rfl, hq, hov, hS⟩ := hrel
    obtain ⟨Av, cv, rfl, hv1, hv2⟩ := hov.form
    have hln : ((l.take q).map F).length = q := by rw [List.length_map, List.length_take]; omega
    rw [hln] at hov hv1 ⊢
    unfold maxLen at hv2
    have x1 : (0 : Int) ≤ (q : Int) := by omega
    have HS := Lib.hid hS
    have HE2 := Lib.hid (HE.out.keepAll hS)
    have HOV := Lib.hid hov
    clear hov
    by_cases hql : q < l.length
    · have x2 : (q : Int) < (l.length : Int) := by omega
      obtain ⟨ad, u, rfl, hok, hcl⟩ := LsR.at_ (HL.out.keepAll rwK hS) rwCs_len hql
      obtain ⟨A_u, c_u, rfl, -, -⟩ := (show ExL _ _ u l[q] from hok).form
      have d0 := hcl 0 (by omega)
      rw [add_zero, Nat.mul_one] at d0
      simp only [rwCs, List.getElem?_cons_zero, List.getElem?_cons_succ] at d0
      have HOK := Lib.hid hok
      clear hok hS hcl
      go_wp2_with (go_at_call 45; refine stopAt ?_)
      unfold Hid
      refine (HC.out q hql _ _ (rwK.keep HOK.out (Same.refl (fun _ => True) wr)) (HE2.out.keepAll (Same.refl (fun _ => True) wr))).mono ?_
      rintro e w5 ⟨rfl, hS⟩
      have HS5 := Lib.hid ((HS.out.trans (Same.refl (fun _ => True) wr)).trans hS)
      have HOV5 := Lib.hid (HOV.out.keepAll ((Same.refl (fun _ => True) wr).trans hS))
      clear hS
      go_wp2_with (at_builtin; refine stopAt ?_)
      unfold Hid
      refine wpList_appR1 TSs (fun _ => rfl) (fun x u hu => by simp only [sC, List.mem_cons, List.not_mem_nil, or_false] at hu; rw [hu]; rfl) rfl (.tmp 14) (.tmp 18) rfl (f := sC) (B := w.heap.size) (v := .slice Av q cv) (l := (l.take q).map F) (c := F l[q]) rfl rfl rfl HOV5.out HS5.out.size (by rw [hln]; simp only [maxLen]; omega) (by rw [hln]; have := HN.out; omega) ?_
      intro v' w6 hO hS6
      have hO : OwnR sC 1 9 w6 w.heap.size v' ((l.take (q + 1)).map F) := by
        rw [List.take_add_one, List.getElem?_eq_getElem hql, List.map_append]
        exact hO
      obtain ⟨A9, c9, rfl, -, -⟩ := hO.form
      have hln9 : ((l.take (q + 1)).map F).length = q + 1 := by rw [List.length_map, List.length_take]; omega
      rw [hln9] at hO ⊢
      have HO9 := Lib.hid hO
      have HS9 := Lib.hid (HS5.out.trans' hS6 fun i hi _ => hi)
      clear hO hS6 hln9
      go_wp2
      go_roundw
      case rel => exact ⟨q + 1, by go_num, by omega, HO9.out, HS9.out⟩
      case measure => simp [intOf]; omega
    · obtain rfl : q = l.length := by omega
      have HOV : Hid (OwnR sC 1 9 wr w.heap.size (.slice Av l.length cv) (l.map F)) := Lib.hid (by have := HOV.out; rw [List.take_length] at this; exact this)
      clear hS hln
      go_wp2_with (go_at_call 26; refine stopAt ?_)
      unfold Hid
      refine (join_any [44, 32] (l.map F) _ w.heap.size wr HOV.out (by have := HN.out; rw [List.length_map]; omega) HJ.out).mono ?_
      rintro e w5 ⟨rfl, hS⟩
      have HS5 := Lib.hid (HS.out.trans hS)
      clear hS
      go_wp2
      go_ret
      exact ⟨rfl, HS5.out⟩
set_option maxRecDepth 100000 in
set_option maxHeartbeats 4000000 in
theorem list_As (F : Asn → List UInt8) (M : Nat) (hM : M ≤ 2000000000) (l : List Asn) (v : Value) (w : World) (h : LsR asCs 7 asOk w (fun _ => True) v l) (hE : EnvT w) (hn : l.length ≤ 16) (hF : ∀ x ∈ l, (F x).length ≤ M)
    (hcall : ∀ (i : Nat) (hi : i < l.length) (u : Value) (W : World), asOk W (fun _ => True) u l[i] → EnvT W → Calls Tryz.prog 49 #[asV u l[i]] W (TextP (F l[i]) W)) :
    Calls Tryz.prog 48 #[v, .func (.func 49) #[] #[]] w (TextP (joinT [44, 32] (l.map F)) w) := by
  obtain ⟨A, c, rfl, hc1, hc2⟩ := h.form
  unfold maxLen at hc2
  have hj : (joinT [44, 32] (l.map F)).length ≤ 100000000000 := by
    have h1 := join_len [44, 32] M (l.map F) fun x hx => by
      obtain ⟨y, hy, rfl⟩ := List.mem_map.1 hx
      exact hF y hy
    rw [List.length_map] at h1
    have h2 : l.length * (M + [44, 32].length) ≤ 16 * (2000000000 + 2) := Nat.mul_le_mul hn (by simp only [List.length_cons, List.length_nil]; omega)
    omega
  have HL := Lib.hid h
  have HE := Lib.hid hE
  have HC := Lib.hid hcall
  have HJ := Lib.hid hj
  have HN := Lib.hid hn
  clear h hE hcall hj hn hF hM
  go_enter Tryz.func48, Tryz.ntmps48
  go_wp2
  go_loopw [5, 10] (fun v i wr => ∃ q : Nat, i = .int .i64 (q : Int) ∧ q ≤ l.length ∧ OwnR sC 1 9 wr w.heap.size v ((l.take q).map F) ∧ Same (fun _ => True) w wr) (fun _ i _ => l.length - (intOf i).toNat)
  case atStart => exact ⟨0, rfl, Nat.zero_le _, OwnR.nil _ _, Same.refl _ _⟩
  case round =>
    obtain ⟨q, rfl, hq, hov, hS⟩ := hrel
    obtain ⟨Av, cv, rfl, hv1, hv2⟩ := hov.form
    have hln : ((l.take q).map F).length = q := by rw [List.length_map, List.length_take]; omega
    rw [hln] at hov hv1 ⊢
    unfold maxLen at hv2
    have x1 : (0 : Int) ≤ (q : Int) := by omega
    have HS := Lib.hid hS
    have HE2 := Lib.hid (HE.out.keepAll hS)
    have HOV := Lib.hid hov
    clear hov
    by_cases hql : q < l.length
    · have x2 : (q : Int) < (l.length : Int) := by omega
      obtain ⟨ad, u, rfl, hok, hcl⟩ := LsR.at_ (HL.out.keepAll asK hS) asCs_len hql
      obtain ⟨A_u, c_u, rfl, -, -⟩ := (show ExR _ _ u l[q].e from hok).toL.form
      have d0 := hcl 0 (by omega)
      rw [add_zero] at d0
      have d1 := hcl 1 (by omega)
      rw [addr_add _ _ (by omega)] at d1
      have d2 := hcl 2 (by omega)
      rw [addr_add _ _ (by omega)] at d2
      have d3 := hcl 3 (by omega)
      rw [addr_add _ _ (by omega)] at d3
      have d4 := hcl 4 (by omega)
      rw [addr_add _ _ (by omega)] at d4
      have d5 := hcl 5 (by omega)
      rw [addr_add _ _ (by omega)] at d5
      have d6 := hcl 6 (by omega)
      rw [addr_add _ _ (by omega)] at d6
      simp only [asCs, exCs, List.getElem?_cons_zero, List.getElem?_cons_succ] at d0 d1 d2 d3 d4 d5 d6
      have HOK := Lib.hid hok
      clear hok hS hcl
      go_wp2_with (go_at_call 49; refine stopAt ?_)
      unfold Hid
      refine (HC.out q hql _ _ (asK.keep HOK.out ((Same.refl (fun _ => True) wr).alloc _)) (HE2.out.keepAll ((Same.refl (fun _ => True) wr).alloc _))).mono ?_
      rintro e w5 ⟨rfl, hS⟩
      have HS5 := Lib.hid ((HS.out.trans ((Same.refl (fun _ => True) wr).alloc _)).trans hS)
      have HOV5 := Lib.hid (HOV.out.keepAll (((Same.refl (fun _ => True) wr).alloc _).trans hS))
      clear hS
      go_wp2_with (at_builtin; refine stopAt ?_)
      unfold Hid
      refine wpList_appR1 TSs (fun _ => rfl) (fun x u hu => by simp only [sC, List.mem_cons, List.not_mem_nil, or_false] at hu; rw [hu]; rfl) rfl (.tmp 14) (.tmp 18) rfl (f := sC) (B := w.heap.size) (v := .slice Av q cv) (l := (l.take q).map F) (c := F l[q]) rfl rfl rfl HOV5.out HS5.out.size (by rw [hln]; simp only [maxLen]; omega) (by rw [hln]; have := HN.out; omega) ?_
      intro v' w6 hO hS6
      have hO : OwnR sC 1 9 w6 w.heap.size v' ((l.take (q + 1)).map F) := by
        rw [List.take_add_one, List.getElem?_eq_getElem hql, List.map_append]
        exact hO
      obtain ⟨A9, c9, rfl, -, -⟩ := hO.form
      have hln9 : ((l.take (q + 1)).map F).length = q + 1 := by rw [List.length_map, List.length_take]; omega
      rw [hln9] at hO ⊢
      have HO9 := Lib.hid hO
      have HS9 := Lib.hid (HS5.out.trans' hS6 fun i hi _ => hi)
      clear hO hS6 hln9
      go_wp2
      go_roundw
      case rel => exact ⟨q + 1, by go_num, by omega, HO9.out, HS9.out⟩
      case measure => simp [intOf]; omega
    · obtain rfl : q = l.length := by omega
      have HOV : Hid (OwnR sC 1 9 wr w.heap.size (.slice Av l.length cv) (l.map F)) := Lib.hid (by have := HOV.out; rw [List.take_length] at this; exact this)
      clear hS hln
      go_wp2_with (go_at_call 26; refine stopAt ?_)
      unfold Hid
      refine (join_any [44, 32] (l.map F) _ w.heap.size wr HOV.out (by have := HN.out; rw [List.length_map]; omega) HJ.out).mono ?_
      rintro e w5 ⟨rfl, hS⟩
      have HS5 := Lib.hid (HS.out.trans hS)
      clear hS
      go_wp2
      go_ret
      exact ⟨rfl, HS5.out⟩
theorem showI_len {m : Nat} {x : Itm} (h : mayI m x = true) (hI : ExI x.e) : (showI x).length ≤ 13107300 := by
  unfold mayI at h
  unfold showI
  by_cases h1 : x.kind = 1
  · rw [if_pos h1]; simp
  rw [if_neg h1] at h ⊢
  by_cases h3 : x.kind = 3
  · rw [if_pos h3]; simp
  rw [if_neg h3] at h ⊢
  by_cases h24 : x.kind = 2 ∨ x.kind = 4
  · rw [if_pos h24] at h
    have := showE_most h (by omega) hI
    split
    · simp; omega
    · omega
  · rw [if_neg h24] at h; cases h
theorem showA_len {x : Asn} (hn : wordF x.name = true) (h : mayE x.e 16 = true) (hI : ExI x.e) : (showA x).length ≤ 13107300 := by
  have := showE_most h (by omega) hI
  have := word_len hn
  unfold showA
  simp; omega
theorem rowT_len {r : List Ex} (h : mayRow r = true) (hI : ∀ e ∈ r, ExI e) : (joinT [44, 32] (r.map showE)).length ≤ 78643300 := by
  simp only [mayRow, Bool.and_eq_true, List.all_eq_true, decide_eq_true_eq] at h
  have h1 := join_len [44, 32] 13107200 (r.map showE) fun x hx => by
    obtain ⟨y, hy, rfl⟩ := List.mem_map.1 hx
    exact showE_most (h.2 y hy) (by omega) (hI y hy)
  rw [List.length_map] at h1
  have h2 : r.length * (13107200 + [44, 32].length) ≤ 6 * (13107200 + 2) := Nat.mul_le_mul h.1.2 (by simp)
  omega
theorem showR_len {r : List Ex} (h : mayRow r = true) (hI : ∀ e ∈ r, ExI e) : (showR r).length ≤ 78643400 := by
  have := rowT_len h hI
  unfold showR
  simp; omega
set_option maxRecDepth 100000 in
set_option maxHeartbeats 4000000 in
theorem itemx_any (m : Nat) (x : Itm) (u : Value) (w : World) (h : mayI m x = true) (hI : ExI x.e) (hr : ExR w (fun _ => True) u x.e) (hE : EnvT w) : Calls Tryz.prog 43 #[itV u x] w (TextP (showI x) w) := by
  obtain ⟨A, c, rfl, -, -⟩ := hr.toL.form
  obtain ⟨X, hX⟩ : ∃ X, X = showI x := ⟨_, rfl⟩
  rw [← hX]
  have HX := Lib.hid hX
  have hA := (Same.refl (fun _ => True) w).alloc (.cells #[.int .i64 x.kind, .int .i64 x.e.kind, .string (str x.e.s), .int .i64 x.e.v.kind, .int .i64 x.e.v.n, .string (str x.e.v.s), .slice A x.e.args.length c] 63)
  have hrow := Row.new w 63 [.int .i64 x.kind, .int .i64 x.e.kind, .string (str x.e.s), .int .i64 x.e.v.kind, .int .i64 x.e.v.n, .string (str x.e.v.s), .slice A x.e.args.length c]
  have hr1 := hr.keepAll hA
  have hE1 := hE.keepAll hA
  clear hX hr hE
  go_enter Tryz.func43, Tryz.ntmps43
  go_upto_region 1 with (fail)
  revert hA hrow hr1 hE1
  generalize w.alloc _ = w1
  intro hA hrow hr1 hE1
  have HS := Lib.hid hA
  have HE := Lib.hid hE1
  have HR := Lib.hid hr1
  have c0 := hrow.cell 0
  have c1 := hrow.cell 1
  have c2 := hrow.cell 2
  have c3 := hrow.cell 3
  have c4 := hrow.cell 4
  have c5 := hrow.cell 5
  have c6 := hrow.cell 6
  simp only [List.getElem?_cons_zero, List.getElem?_cons_succ] at c0 c1 c2 c3 c4 c5 c6
  clear hA hrow hr1 hE1
  unfold mayI at h
  by_cases k1 : x.kind = 1
  · have f1 := int_eq_t k1
    have HB : Hid ([42] = X) := Lib.hid (by rw [HX.out]; unfold showI; rw [if_pos k1])
    clear k1 h
    go_wp2
    go_ret
    exact ⟨ret_str HB.out, HS.out⟩
  have f1 := int_eq_f k1
  rw [if_neg k1] at h
  by_cases k3 : x.kind = 3
  · have f3 := int_eq_t k3
    have HB : Hid ([67, 79, 85, 78, 84, 32, 40, 42, 41] = X) := Lib.hid (by rw [HX.out]; unfold showI; rw [if_neg k1, if_pos k3])
    clear k1 k3 h
    go_wp2
    go_ret
    exact ⟨ret_str HB.out, HS.out⟩
  have f3 := int_eq_f k3
  rw [if_neg k3] at h
  have h24 : x.kind = 2 ∨ x.kind = 4 := by
    by_cases hh : x.kind = 2 ∨ x.kind = 4
    · exact hh
    · rw [if_neg hh] at h; cases h
  rw [if_pos h24] at h
  have hlen := showE_most h (by omega) hI
  have ht := text_any x.e 16 (.slice A x.e.args.length c) w1 (by omega) h hI HR.out HE.out
  obtain ⟨D, hD⟩ : ∃ D, D = showE x.e := ⟨_, rfl⟩
  rw [← hD] at hlen ht
  have HD := Lib.hid hD
  clear hD h24 h hI
  by_cases k4 : x.kind = 4
  · have f4 := int_eq_t k4
    have HB : Hid ([83, 85, 77, 32, 40] ++ D ++ [41] = X) := Lib.hid (by rw [HX.out, HD.out]; unfold showI; rw [if_neg k1, if_neg k3, if_pos k4])
    have a1 : ∀ w, (Op.stringOp .add ⟨#[83, 85, 77, 32, 40]⟩ (str D)).run Tryz.prog w = .ok (.string (str ([83, 85, 77, 32, 40] ++ D))) w := fun w => add_str [83, 85, 77, 32, 40] D (by simp; omega) w
    have a2 : ∀ w, (Op.stringOp .add (str ([83, 85, 77, 32, 40] ++ D)) ⟨#[41]⟩).run Tryz.prog w = .ok (.string (str ([83, 85, 77, 32, 40] ++ D ++ [41]))) w := fun w => add_str ([83, 85, 77, 32, 40] ++ D) [41] (by simp; omega) w
    generalize hY : [83, 85, 77, 32, 40] ++ D = Y at a1 a2 HB
    clear k1 k3 k4 hY hlen
    go_wp2_with (go_at_call 47; refine stopAt ?_)
    unfold Hid
    refine ht.mono ?_
    rintro e w2 ⟨rfl, hS⟩
    have HS := Lib.hid (HS.out.trans hS)
    clear hS ht
    go_wp2
    go_ret
    exact ⟨ret_str HB.out, HS.out⟩
  · have f4 := int_eq_f k4
    have HB : Hid (D = X) := Lib.hid (by rw [HX.out, HD.out]; unfold showI; rw [if_neg k1, if_neg k3, if_neg k4])
    clear k1 k3 k4 hlen
    go_wp2_with (go_at_call 47; refine stopAt ?_)
    unfold Hid
    refine ht.mono ?_
    rintro e w2 ⟨rfl, hS⟩
    have HS := Lib.hid (HS.out.trans hS)
    clear hS ht
    go_wp2
    go_ret
    exact ⟨ret_str HB.out, HS.out⟩
set_option maxHeartbeats 2000000 in
theorem rowx_any (r : List Ex) (u : Value) (w : World) (h : mayRow r = true) (hI : ∀ e ∈ r, ExI e) (hr : ExL w (fun _ => True) u r) (hE : EnvT w) : Calls Tryz.prog 45 #[u] w (TextP (showR r) w) := by
  have hlen := rowT_len h hI
  simp only [mayRow, Bool.and_eq_true, List.all_eq_true, decide_eq_true_eq] at h
  have hl := list_Ex showE 13107200 (by omega) r u w (ls_exL.2 hr) hE (by omega) (fun x hx => showE_most (h.2 x hx) (by omega) (hI x hx)) fun i hi u' W hu hE' => text_any r[i] 16 u' W (by omega) (h.2 _ (List.getElem_mem hi)) (hI _ (List.getElem_mem hi)) hu hE'
  obtain ⟨D, hD⟩ : ∃ D, D = joinT [44, 32] (r.map showE) := ⟨_, rfl⟩
  rw [← hD] at hlen hl
  have HB : Hid ([40] ++ D ++ [41] = showR r) := Lib.hid (by rw [hD]; rfl)
  have a1 : ∀ w, (Op.stringOp .add ⟨#[40]⟩ (str D)).run Tryz.prog w = .ok (.string (str ([40] ++ D))) w := fun w => add_str [40] D (by simp; omega) w
  have a2 : ∀ w, (Op.stringOp .add (str ([40] ++ D)) ⟨#[41]⟩).run Tryz.prog w = .ok (.string (str ([40] ++ D ++ [41]))) w := fun w => add_str ([40] ++ D) [41] (by simp; omega) w
  generalize hY : [40] ++ D = Y at a1 a2 HB
  clear hY hlen hD h hI hr hE
  go_enter Tryz.func45, Tryz.ntmps45
  go_wp2_with (go_at_call 46; refine stopAt ?_)
  unfold Hid
  refine hl.mono ?_
  rintro e w2 ⟨rfl, hS⟩
  have HS := Lib.hid hS
  clear hS hl
  go_wp2
  go_ret
  exact ⟨ret_str HB.out, HS.out⟩
set_option maxRecDepth 100000 in
set_option maxHeartbeats 4000000 in
theorem asnx_any (x : Asn) (u : Value) (w : World) (hn : wordF x.name = true) (h : mayE x.e 16 = true) (hI : ExI x.e) (hr : ExR w (fun _ => True) u x.e) (hE : EnvT w) : Calls Tryz.prog 49 #[asV u x] w (TextP (showA x) w) := by
  obtain ⟨A, c, rfl, -, -⟩ := hr.toL.form
  have hA := (Same.refl (fun _ => True) w).alloc (.cells #[.string (str x.name), .int .i64 x.e.kind, .string (str x.e.s), .int .i64 x.e.v.kind, .int .i64 x.e.v.n, .string (str x.e.v.s), .slice A x.e.args.length c] 65)
  have hrow := Row.new w 65 [.string (str x.name), .int .i64 x.e.kind, .string (str x.e.s), .int .i64 x.e.v.kind, .int .i64 x.e.v.n, .string (str x.e.v.s), .slice A x.e.args.length c]
  have hr1 := hr.keepAll hA
  have hE1 := hE.keepAll hA
  clear hr hE
  go_enter Tryz.func49, Tryz.ntmps49
  go_upto_region 1 with (fail)
  revert hA hrow hr1 hE1
  generalize w.alloc _ = w1
  intro hA hrow hr1 hE1
  have HS := Lib.hid hA
  have c0 := hrow.cell 0
  have c1 := hrow.cell 1
  have c2 := hrow.cell 2
  have c3 := hrow.cell 3
  have c4 := hrow.cell 4
  have c5 := hrow.cell 5
  have c6 := hrow.cell 6
  simp only [List.getElem?_cons_zero, List.getElem?_cons_succ] at c0 c1 c2 c3 c4 c5 c6
  have hlen := showE_most h (by omega) hI
  have hlen2 := word_len hn
  have gA : ∀ W, Same (fun _ => True) w1 W → Calls Tryz.prog 47 #[exV (.slice A x.e.args.length c) x.e] W (TextP (showE x.e) W) := fun W hs => text_any x.e 16 _ W (by omega) h hI (hr1.keepAll hs) (hE1.keepAll hs)
  obtain ⟨D, hD⟩ : ∃ D, D = showE x.e := ⟨_, rfl⟩
  rw [← hD] at hlen gA
  obtain ⟨Y1, hY1⟩ : ∃ Y, Y = x.name ++ [32, 61, 32] := ⟨_, rfl⟩
  obtain ⟨Y2, hY2⟩ : ∃ Y, Y = Y1 ++ D := ⟨_, rfl⟩
  have l1 : Y1.length = x.name.length + 3 := by rw [hY1, List.length_append]; rfl
  have a1 : ∀ w, (Op.stringOp .add (str x.name) ⟨#[32, 61, 32]⟩).run Tryz.prog w = .ok (.string (str Y1)) w := fun w => hY1 ▸ add_str x.name [32, 61, 32] (by simp; omega) w
  have a2 : ∀ w, (Op.stringOp .add (str Y1) (str D)).run Tryz.prog w = .ok (.string (str Y2)) w := fun w => hY2 ▸ add_str Y1 D (by omega) w
  have HB : Hid (Y2 = showA x) := Lib.hid (by rw [hY2, hY1, hD]; rfl)
  clear hA hrow hr1 hE1 hlen hlen2 l1 hD hY1 hY2 hn h hI
  refine wp_region_eq_lit (vs := [(.pointer (some ⟨w.heap.size, 0, none⟩)), (.string (str x.name)), (.string (str Y1)), (.pointer (some ⟨w.heap.size, 1, none⟩)), (exV (.slice A x.e.args.length c) x.e), (.string (str D)), (.string (str Y2)), (.string (str Y2))]) (by kernel_rfl) (by kernel_rfl) rfl rfl ?_ ?_
  · refine ⟨?_, ?_, ?_, ?_, ?_, ?_, ?_, ?_, trivial⟩
    · intro ac wc hs hd hz hf hw K hK
      have e0 : ac.eval (.tmp 1) = (.pointer (some ⟨w.heap.size, 0, none⟩)) := hf 1 rfl
      clear hd hz hf hw
      simp only [Region.wanted, if_true, Oper.wp, execOp, resolve, List.map_toArray, List.map_cons, List.map_nil, Option.map_some, Option.map_none, e0]
      go_simp
      exact hK _ _ rfl (Same.refl _ _)
    · intro ac wc hs hd hz hf hw K hK
      have e0 : ac.eval (.tmp 3) = (.pointer (some ⟨w.heap.size, 0, none⟩)) := hw 0 rfl
      have m0 : wc.cell? ⟨w.heap.size, 0, none⟩ = some (.string (str x.name)) := hs.cell (p := ⟨w.heap.size, 0, none⟩) trivial c0
      clear hd hz hf hw
      simp only [Region.wanted, if_true, Oper.wp, execOp, resolve, List.map_toArray, List.map_cons, List.map_nil, Option.map_some, Option.map_none, e0]
      go_simp
      exact hK _ _ rfl (Same.refl _ _)
    · intro ac wc hs hd hz hf hw K hK
      have e0 : ac.eval (.tmp 4) = (.string (str x.name)) := hw 1 rfl
      clear hd hz hf hw
      simp only [Region.wanted, if_true, Oper.wp, execOp, resolve, List.map_toArray, List.map_cons, List.map_nil, Option.map_some, Option.map_none, e0]
      go_simp
      exact hK _ _ rfl (Same.refl _ _)
    · intro ac wc hs hd hz hf hw K hK
      have e0 : ac.eval (.tmp 1) = (.pointer (some ⟨w.heap.size, 0, none⟩)) := hf 1 rfl
      clear hd hz hf hw
      simp only [Region.wanted, if_true, Oper.wp, execOp, resolve, List.map_toArray, List.map_cons, List.map_nil, Option.map_some, Option.map_none, e0]
      go_simp
      exact hK _ _ rfl (Same.refl _ _)
    · intro ac wc hs hd hz hf hw K hK
      have e0 : ac.eval (.tmp 6) = (.pointer (some ⟨w.heap.size, 1, none⟩)) := hw 3 rfl
      have m0 : wc.cell? ⟨w.heap.size, 1, none⟩ = some (.int .i64 x.e.kind) := hs.cell (p := ⟨w.heap.size, 1, none⟩) trivial c1
      have m1 : wc.cell? ⟨w.heap.size, 2, none⟩ = some (.string (str x.e.s)) := hs.cell (p := ⟨w.heap.size, 2, none⟩) trivial c2
      have m2 : wc.cell? ⟨w.heap.size, 3, none⟩ = some (.int .i64 x.e.v.kind) := hs.cell (p := ⟨w.heap.size, 3, none⟩) trivial c3
      have m3 : wc.cell? ⟨w.heap.size, 4, none⟩ = some (.int .i64 x.e.v.n) := hs.cell (p := ⟨w.heap.size, 4, none⟩) trivial c4
      have m4 : wc.cell? ⟨w.heap.size, 5, none⟩ = some (.string (str x.e.v.s)) := hs.cell (p := ⟨w.heap.size, 5, none⟩) trivial c5
      have m5 : wc.cell? ⟨w.heap.size, 6, none⟩ = some (.slice A x.e.args.length c) := hs.cell (p := ⟨w.heap.size, 6, none⟩) trivial c6
      clear hd hz hf hw
      simp only [Region.wanted, if_true, Oper.wp, execOp, resolve, List.map_toArray, List.map_cons, List.map_nil, Option.map_some, Option.map_none, e0]
      go_simp
      exact hK _ _ rfl (Same.refl _ _)
    · intro ac wc hs hd hz hf hw K hK
      have e0 : ac.eval (.tmp 7) = (exV (.slice A x.e.args.length c) x.e) := hw 4 rfl
      clear hd hz hf hw
      simp only [Region.wanted, if_true, Oper.wp, execOp, resolve, List.map_toArray, List.map_cons, List.map_nil, Option.map_some, Option.map_none, e0]
      go_simp
      refine (gA _ hs).mono ?_
      rintro e wd ⟨rfl, hsd⟩
      exact hK _ _ rfl hsd
    · intro ac wc hs hd hz hf hw K hK
      have e0 : ac.eval (.tmp 5) = (.string (str Y1)) := hw 2 rfl
      have e1 : ac.eval (.tmp 8) = (.string (str D)) := hw 5 rfl
      clear hd hz hf hw
      simp only [Region.wanted, if_true, Oper.wp, execOp, resolve, List.map_toArray, List.map_cons, List.map_nil, Option.map_some, Option.map_none, e0, e1]
      go_simp
      exact hK _ _ rfl (Same.refl _ _)
    · intro ac wc hs hd hz hf hw K hK
      have e0 : ac.eval (.tmp 9) = (.string (str Y2)) := hw 6 rfl
      clear hd hz hf hw
      simp only [Region.wanted, if_true, Oper.wp, execOp, resolve, List.map_toArray, List.map_cons, List.map_nil, Option.map_some, Option.map_none, e0]
      go_simp
      exact hK _ _ rfl (Same.refl _ _)
  · intro wR hsR
    simp only [putAll, Act.put, List.setIfInBounds_toArray, List.set_cons_succ, List.set_cons_zero]
    have HS := Lib.hid (HS.out.trans hsR)
    clear hsR
    go_wp2
    go_ret
    exact ⟨ret_str HB.out, HS.out⟩
theorem fmt_any (n : Int) (w : World) (hn : I64 n) (hE : EnvT w) : Calls Tryz.prog 27 #[.int .i64 n, .int .i64 10] w (TextP (intL n) w) := by
  have hfi := Tryz.strconv_FormatInt_10 n hn.1 hn.2 w hE.tab
  rw [itoa_int] at hfi
  refine hfi.mono ?_
  rintro e w2 ⟨rfl, kk, os, rfl⟩
  exact ⟨rfl, (Same.ofBelow (Lib.below_grow w.heap.size w (Nat.le_refl _) kk os)).mono fun i hi _ => hi⟩
theorem intL_len {n : Int} (h : I64 n) : (intL n).length ≤ 25 := by
  unfold I64 at h
  unfold intL
  split
  · have := digL_len 19 n.natAbs (by omega) (by omega)
    simp; omega
  · have := digL_len 19 n.toNat (by omega) (by omega)
    omega
def p1S (s : Stm) : List UInt8 := if s.filt then [32, 87, 72, 69, 82, 69, 32] ++ showE s.cond else []
def p2S (s : Stm) : List UInt8 := if s.order = [] then [] else [32, 79, 82, 68, 69, 82, 32, 66, 89, 32] ++ s.order
def p3S (s : Stm) : List UInt8 := if s.down then [32, 68, 69, 83, 67] else []
def p4S (s : Stm) : List UInt8 := if s.kind = 1 ∧ 0 ≤ s.limit then [32, 76, 73, 77, 73, 84, 32] ++ intL s.limit else []
theorem showS_eq (s : Stm) : showS s = headS s ++ p1S s ++ p2S s ++ p3S s ++ p4S s := by
  simp only [showS, tailS, p1S, p2S, p3S, p4S, List.append_assoc]
/-- What is known of a statement that may be. -/
structure MayS (s : Stm) : Prop where
  table : wordF s.table = true
  cond : s.filt = true → mayE s.cond 16 = true
  items : s.kind = 1 → mayIs s.items = true
  rows : s.kind = 2 → mayRows s.rows = true
  sets : s.kind = 3 → maySets s.sets = true
  order : s.order.length ≤ 16
theorem MayS.of {s : Stm} (h : mayS s = true) : MayS s := by
  have h0 := h
  simp only [mayS, Bool.and_eq_true] at h
  obtain ⟨⟨⟨⟨⟨ht, hw⟩, ho⟩, -⟩, -⟩, hk⟩ := h
  refine ⟨ht, fun hf => by rw [hf] at hw; exact hw, fun h1 => ?_, fun h2 => ?_, fun h3 => ?_, ?_⟩
  · rw [if_pos h1] at hk; simp only [Bool.and_eq_true] at hk; exact hk.1.1
  · rw [if_neg (by omega), if_pos h2] at hk; simp only [Bool.and_eq_true] at hk; exact hk.1
  · rw [if_neg (by omega), if_neg (by omega), if_pos h3] at hk; exact hk
  · by_cases h1 : s.kind = 1
    · rw [if_pos h1] at hk
      simp only [Bool.and_eq_true, Bool.or_eq_true, decide_eq_true_eq] at hk
      rcases hk.1.2 with h | h
      · rw [h.1]; simp
      · exact word_len h
    · simp only [Bool.or_eq_true, Bool.and_eq_true, decide_eq_true_eq] at ho
      rcases ho with h | h
      · exact absurd h h1
      · rw [h.1.1.2]; simp
set_option maxRecDepth 100000 in
set_option maxHeartbeats 16000000 in
theorem stmtx_any (s : Stm) (u : SU) (w : World) (hms : mayS s = true) (hI : StI s) (h : StR w (fun _ => True) u s) (hE : EnvT w) : Calls Tryz.prog 25 #[stV u s] w (TextP (showS s) w) := by
  obtain ⟨ui, ur, us, uc⟩ := u
  obtain ⟨A_u1, c_u1, q1, -⟩ := LsR.form (show LsR itCs 7 itOk _ _ ui s.items from h.1)
  subst q1
  obtain ⟨A_u2, c_u2, q2, -⟩ := LsR.form (show LsR rwCs 1 rwOk _ _ ur s.rows from h.2.1)
  subst q2
  obtain ⟨A_u3, c_u3, q3, -⟩ := LsR.form (show LsR asCs 7 asOk _ _ us s.sets from h.2.2.1)
  subst q3
  obtain ⟨A_u4, c_u4, q4, -⟩ := (show ExR _ _ uc s.cond from h.2.2.2).toL.form
  subst q4
  have HMS := Lib.hid (MayS.of hms)
  have HSI := Lib.hid hI
  have hA := (Same.refl (fun _ => True) w).alloc (.cells #[.int .i64 s.kind, .string (str s.table), .slice A_u1 s.items.length c_u1, .slice A_u2 s.rows.length c_u2, .slice A_u3 s.sets.length c_u3, .bool s.filt, .int .i64 s.cond.kind, .string (str s.cond.s), .int .i64 s.cond.v.kind, .int .i64 s.cond.v.n, .string (str s.cond.v.s), .slice A_u4 s.cond.args.length c_u4, .string (str s.order), .bool s.down, .int .i64 s.limit] 44)
  have hrow := Row.new w 44 [.int .i64 s.kind, .string (str s.table), .slice A_u1 s.items.length c_u1, .slice A_u2 s.rows.length c_u2, .slice A_u3 s.sets.length c_u3, .bool s.filt, .int .i64 s.cond.kind, .string (str s.cond.s), .int .i64 s.cond.v.kind, .int .i64 s.cond.v.n, .string (str s.cond.v.s), .slice A_u4 s.cond.args.length c_u4, .string (str s.order), .bool s.down, .int .i64 s.limit]
  have hst := stK.keep h hA
  have hE1 := hE.keepAll hA
  clear hms hI h hE
  go_enter Tryz.func25, Tryz.ntmps25
  go_upto_block 0 with (fail)
  revert hA hrow hst hE1
  generalize w.alloc _ = W0
  intro hA hrow hst hE1
  have HROW := Lib.hid hrow
  have HST := Lib.hid hst
  have HE := Lib.hid hE1
  have HS := Lib.hid hA
  have c0 := HROW.out.cell 0
  have c1 := HROW.out.cell 1
  have c2 := HROW.out.cell 2
  have c3 := HROW.out.cell 3
  have c4 := HROW.out.cell 4
  have c5 := HROW.out.cell 5
  have c6 := HROW.out.cell 6
  have c7 := HROW.out.cell 7
  have c8 := HROW.out.cell 8
  have c9 := HROW.out.cell 9
  have c10 := HROW.out.cell 10
  have c11 := HROW.out.cell 11
  have c12 := HROW.out.cell 12
  have c13 := HROW.out.cell 13
  have c14 := HROW.out.cell 14
  simp only [List.getElem?_cons_zero, List.getElem?_cons_succ] at c0 c1 c2 c3 c4 c5 c6 c7 c8 c9 c10 c11 c12 c13 c14
  clear hA hrow hst hE1
  go_cut [3] from 6 to 38 (fun v wx => ∃ (W : World) (H : List UInt8), W = wx ∧ v = .string (str H) ∧ Hid (H = headS s) ∧ H.length ≤ 2000000000 ∧ Row W w.heap.size 44 [.int .i64 s.kind, .string (str s.table), .slice A_u1 s.items.length c_u1, .slice A_u2 s.rows.length c_u2, .slice A_u3 s.sets.length c_u3, .bool s.filt, .int .i64 s.cond.kind, .string (str s.cond.s), .int .i64 s.cond.v.kind, .int .i64 s.cond.v.n, .string (str s.cond.v.s), .slice A_u4 s.cond.args.length c_u4, .string (str s.order), .bool s.down, .int .i64 s.limit] ∧ StR W (fun _ => True) (⟨.slice A_u1 s.items.length c_u1, .slice A_u2 s.rows.length c_u2, .slice A_u3 s.sets.length c_u3, .slice A_u4 s.cond.args.length c_u4⟩ : SU) s ∧ EnvT W ∧ Same (fun _ => True) w W)
  case first =>
    by_cases hk1 : s.kind = 1
    · have ek1 := int_eq_t hk1
      have hmi := HMS.out.items hk1
      simp only [mayIs, Bool.and_eq_true, List.all_eq_true, decide_eq_true_eq] at hmi
      have gA : ∀ W, Same (fun _ => True) W0 W → Calls Tryz.prog 42 #[.slice A_u1 s.items.length c_u1, .func (.func 43) #[] #[]] W (TextP (joinT [44, 32] (s.items.map showI)) W) := fun W hs => list_It showI 13107300 (by omega) s.items _ W (HST.out.1.keepAll itK hs) (HE.out.keepAll hs) (by omega) (fun x hx => showI_len (hmi.1.1 x hx) (HSI.out.items x hx)) fun i hi u W' hu hE' => itemx_any s.items.length s.items[i] u W' (hmi.1.1 _ (List.getElem_mem hi)) (HSI.out.items _ (List.getElem_mem hi)) hu hE'
      have hlen : (joinT [44, 32] (s.items.map showI)).length ≤ 100000000 := by
        have h1 := join_len [44, 32] 13107300 (s.items.map showI) fun x hx => by
          obtain ⟨y, hy, rfl⟩ := List.mem_map.1 hx
          exact showI_len (hmi.1.1 y hy) (HSI.out.items y hy)
        rw [List.length_map] at h1
        have h2 : s.items.length * (13107300 + [44, 32].length) ≤ 6 * (13107300 + 2) := Nat.mul_le_mul hmi.2 (by simp)
        omega
      clear hmi
      obtain ⟨D, hD⟩ : ∃ D, D = joinT [44, 32] (s.items.map showI) := ⟨_, rfl⟩
      rw [← hD] at gA hlen
      obtain ⟨Y1, hY1⟩ : ∃ Y, Y = [83, 69, 76, 69, 67, 84, 32] ++ D := ⟨_, rfl⟩
      obtain ⟨Y2, hY2⟩ : ∃ Y, Y = Y1 ++ [32, 70, 82, 79, 77, 32] := ⟨_, rfl⟩
      obtain ⟨Y3, hY3⟩ : ∃ Y, Y = Y2 ++ s.table := ⟨_, rfl⟩
      have lY1 : Y1.length = ([83, 69, 76, 69, 67, 84, 32] : List UInt8).length + (D : List UInt8).length := by rw [hY1, List.length_append]
      have lY2 : Y2.length = (Y1 : List UInt8).length + ([32, 70, 82, 79, 77, 32] : List UInt8).length := by rw [hY2, List.length_append]
      have lY3 : Y3.length = (Y2 : List UInt8).length + (s.table : List UInt8).length := by rw [hY3, List.length_append]
      simp only [List.length_cons, List.length_nil] at lY1 lY2 lY3
      have hlt := word_len HMS.out.table
      have a1 : ∀ w, (Op.stringOp .add ⟨#[83, 69, 76, 69, 67, 84, 32]⟩ (str D)).run Tryz.prog w = .ok (.string (str Y1)) w := fun w => hY1 ▸ add_str [83, 69, 76, 69, 67, 84, 32] D (by first | omega | (simp only [List.length_cons, List.length_nil]; omega)) w
      have a2 : ∀ w, (Op.stringOp .add (str Y1) ⟨#[32, 70, 82, 79, 77, 32]⟩).run Tryz.prog w = .ok (.string (str Y2)) w := fun w => hY2 ▸ add_str Y1 [32, 70, 82, 79, 77, 32] (by first | omega | (simp only [List.length_cons, List.length_nil]; omega)) w
      have a3 : ∀ w, (Op.stringOp .add (str Y2) (str s.table)).run Tryz.prog w = .ok (.string (str Y3)) w := fun w => hY3 ▸ add_str Y2 s.table (by first | omega | (simp only [List.length_cons, List.length_nil]; omega)) w
      have HB : Hid (Y3 = headS s) := Lib.hid (by rw [hY3, hY2, hY1, hD]; unfold headS; rw [if_pos hk1]; all_goals simp)
      have hl9 : Y3.length ≤ 2000000000 := by omega
      have HL9 := Lib.hid hl9
      clear hl9 lY1 lY2 lY3 hlt hlen hD hY1 hY2 hY3 hk1
      go_upto_region 5 with (fail)
      refine wp_region_eq_lit (vs := [(.pointer (some ⟨w.heap.size, 2, none⟩)), (.slice A_u1 s.items.length c_u1), (.string (str D)), (.string (str Y1)), (.string (str Y2)), (.pointer (some ⟨w.heap.size, 1, none⟩)), (.string (str s.table)), (.string (str Y3)), (.string (str Y3))]) (by kernel_rfl) (by kernel_rfl) rfl rfl ?_ ?_
      · refine ⟨?_, ?_, ?_, ?_, ?_, ?_, ?_, ?_, ?_, trivial⟩
        · intro ac wc hs hd hz hf hw K hK
          have e0 : ac.eval (.tmp 1) = (.pointer (some ⟨w.heap.size, 0, none⟩)) := hf 1 rfl
          clear hd hz hf hw
          simp only [Region.wanted, if_true, Oper.wp, execOp, resolve, List.map_toArray, List.map_cons, List.map_nil, Option.map_some, Option.map_none, e0]
          go_simp
          exact hK _ _ rfl (Same.refl _ _)
        · intro ac wc hs hd hz hf hw K hK
          have e0 : ac.eval (.tmp 11) = (.pointer (some ⟨w.heap.size, 2, none⟩)) := hw 0 rfl
          have m0 : wc.cell? ⟨w.heap.size, 2, none⟩ = some (.slice A_u1 s.items.length c_u1) := hs.cell (p := ⟨w.heap.size, 2, none⟩) trivial c2
          clear hd hz hf hw
          simp only [Region.wanted, if_true, Oper.wp, execOp, resolve, List.map_toArray, List.map_cons, List.map_nil, Option.map_some, Option.map_none, e0]
          go_simp
          exact hK _ _ rfl (Same.refl _ _)
        · intro ac wc hs hd hz hf hw K hK
          have e0 : ac.eval (.tmp 12) = (.slice A_u1 s.items.length c_u1) := hw 1 rfl
          clear hd hz hf hw
          simp only [Region.wanted, if_true, Oper.wp, execOp, resolve, List.map_toArray, List.map_cons, List.map_nil, Option.map_some, Option.map_none, e0]
          go_simp
          refine (gA _ hs).mono ?_
          rintro e wd ⟨rfl, hsd⟩
          exact hK _ _ rfl hsd
        · intro ac wc hs hd hz hf hw K hK
          have e0 : ac.eval (.tmp 13) = (.string (str D)) := hw 2 rfl
          clear hd hz hf hw
          simp only [Region.wanted, if_true, Oper.wp, execOp, resolve, List.map_toArray, List.map_cons, List.map_nil, Option.map_some, Option.map_none, e0]
          go_simp
          exact hK _ _ rfl (Same.refl _ _)
        · intro ac wc hs hd hz hf hw K hK
          have e0 : ac.eval (.tmp 14) = (.string (str Y1)) := hw 3 rfl
          clear hd hz hf hw
          simp only [Region.wanted, if_true, Oper.wp, execOp, resolve, List.map_toArray, List.map_cons, List.map_nil, Option.map_some, Option.map_none, e0]
          go_simp
          exact hK _ _ rfl (Same.refl _ _)
        · intro ac wc hs hd hz hf hw K hK
          have e0 : ac.eval (.tmp 1) = (.pointer (some ⟨w.heap.size, 0, none⟩)) := hf 1 rfl
          clear hd hz hf hw
          simp only [Region.wanted, if_true, Oper.wp, execOp, resolve, List.map_toArray, List.map_cons, List.map_nil, Option.map_some, Option.map_none, e0]
          go_simp
          exact hK _ _ rfl (Same.refl _ _)
        · intro ac wc hs hd hz hf hw K hK
          have e0 : ac.eval (.tmp 16) = (.pointer (some ⟨w.heap.size, 1, none⟩)) := hw 5 rfl
          have m0 : wc.cell? ⟨w.heap.size, 1, none⟩ = some (.string (str s.table)) := hs.cell (p := ⟨w.heap.size, 1, none⟩) trivial c1
          clear hd hz hf hw
          simp only [Region.wanted, if_true, Oper.wp, execOp, resolve, List.map_toArray, List.map_cons, List.map_nil, Option.map_some, Option.map_none, e0]
          go_simp
          exact hK _ _ rfl (Same.refl _ _)
        · intro ac wc hs hd hz hf hw K hK
          have e0 : ac.eval (.tmp 15) = (.string (str Y2)) := hw 4 rfl
          have e1 : ac.eval (.tmp 17) = (.string (str s.table)) := hw 6 rfl
          clear hd hz hf hw
          simp only [Region.wanted, if_true, Oper.wp, execOp, resolve, List.map_toArray, List.map_cons, List.map_nil, Option.map_some, Option.map_none, e0, e1]
          go_simp
          exact hK _ _ rfl (Same.refl _ _)
        · intro ac wc hs hd hz hf hw K hK
          have e0 : ac.eval (.tmp 18) = (.string (str Y3)) := hw 7 rfl
          clear hd hz hf hw
          simp only [Region.wanted, if_true, Oper.wp, execOp, resolve, List.map_toArray, List.map_cons, List.map_nil, Option.map_some, Option.map_none, e0]
          go_simp
          exact hK _ _ rfl (Same.refl _ _)
      · intro wR hsR
        simp only [putAll, Act.put, List.setIfInBounds_toArray, List.set_cons_succ, List.set_cons_zero]
        have HROW := Lib.hid (HROW.out.keep hsR trivial)
        have HST := Lib.hid (stK.keep HST.out hsR)
        have HE := Lib.hid (HE.out.keepAll hsR)
        have HS := Lib.hid (HS.out.trans hsR)
        clear hsR
        go_wp2
        go_meet
        case rel => exact ⟨_, Y3, rfl, rfl, HB, HL9.out, HROW.out, HST.out, HE.out, HS.out⟩
    · have ek1 := int_eq_f hk1
      by_cases hk2 : s.kind = 2
      · have ek2 := int_eq_t hk2
        have hmi := HMS.out.rows hk2
        simp only [mayRows, Bool.and_eq_true, List.all_eq_true, decide_eq_true_eq] at hmi
        have gA : ∀ W, Same (fun _ => True) W0 W → Calls Tryz.prog 44 #[.slice A_u2 s.rows.length c_u2, .func (.func 45) #[] #[]] W (TextP (joinT [44, 32] (s.rows.map showR)) W) := fun W hs => list_Rw showR 78643400 (by omega) s.rows _ W (HST.out.2.1.keepAll rwK hs) (HE.out.keepAll hs) (by omega) (fun x hx => showR_len (hmi.1.1 x hx) (HSI.out.rows x hx)) fun i hi u W' hu hE' => rowx_any s.rows[i] u W' (hmi.1.1 _ (List.getElem_mem hi)) (HSI.out.rows _ (List.getElem_mem hi)) hu hE'
        have hlen : (joinT [44, 32] (s.rows.map showR)).length ≤ 1300000000 := by
          have h1 := join_len [44, 32] 78643400 (s.rows.map showR) fun x hx => by
            obtain ⟨y, hy, rfl⟩ := List.mem_map.1 hx
            exact showR_len (hmi.1.1 y hy) (HSI.out.rows y hy)
          rw [List.length_map] at h1
          have h2 : s.rows.length * (78643400 + [44, 32].length) ≤ 16 * (78643400 + 2) := Nat.mul_le_mul hmi.2 (by simp)
          omega
        clear hmi
        obtain ⟨D, hD⟩ : ∃ D, D = joinT [44, 32] (s.rows.map showR) := ⟨_, rfl⟩
        rw [← hD] at gA hlen
        obtain ⟨Y1, hY1⟩ : ∃ Y, Y = [73, 78, 83, 69, 82, 84, 32, 73, 78, 84, 79, 32] ++ s.table := ⟨_, rfl⟩
        obtain ⟨Y2, hY2⟩ : ∃ Y, Y = Y1 ++ [32, 86, 65, 76, 85, 69, 83, 32] := ⟨_, rfl⟩
        obtain ⟨Y3, hY3⟩ : ∃ Y, Y = Y2 ++ D := ⟨_, rfl⟩
        have lY1 : Y1.length = ([73, 78, 83, 69, 82, 84, 32, 73, 78, 84, 79, 32] : List UInt8).length + (s.table : List UInt8).length := by rw [hY1, List.length_append]
        have lY2 : Y2.length = (Y1 : List UInt8).length + ([32, 86, 65, 76, 85, 69, 83, 32] : List UInt8).length := by rw [hY2, List.length_append]
        have lY3 : Y3.length = (Y2 : List UInt8).length + (D : List UInt8).length := by rw [hY3, List.length_append]
        simp only [List.length_cons, List.length_nil] at lY1 lY2 lY3
        have hlt := word_len HMS.out.table
        have a1 : ∀ w, (Op.stringOp .add ⟨#[73, 78, 83, 69, 82, 84, 32, 73, 78, 84, 79, 32]⟩ (str s.table)).run Tryz.prog w = .ok (.string (str Y1)) w := fun w => hY1 ▸ add_str [73, 78, 83, 69, 82, 84, 32, 73, 78, 84, 79, 32] s.table (by first | omega | (simp only [List.length_cons, List.length_nil]; omega)) w
        have a2 : ∀ w, (Op.stringOp .add (str Y1) ⟨#[32, 86, 65, 76, 85, 69, 83, 32]⟩).run Tryz.prog w = .ok (.string (str Y2)) w := fun w => hY2 ▸ add_str Y1 [32, 86, 65, 76, 85, 69, 83, 32] (by first | omega | (simp only [List.length_cons, List.length_nil]; omega)) w
        have a3 : ∀ w, (Op.stringOp .add (str Y2) (str D)).run Tryz.prog w = .ok (.string (str Y3)) w := fun w => hY3 ▸ add_str Y2 D (by first | omega | (simp only [List.length_cons, List.length_nil]; omega)) w
        have HB : Hid (Y3 = headS s) := Lib.hid (by rw [hY3, hY2, hY1, hD]; unfold headS; rw [if_neg hk1, if_pos hk2]; all_goals simp)
        have hl9 : Y3.length ≤ 2000000000 := by omega
        have HL9 := Lib.hid hl9
        clear hl9 lY1 lY2 lY3 hlt hlen hD hY1 hY2 hY3 hk1 hk2
        go_upto_region 7 with (fail)
        refine wp_region_eq_lit (vs := [(.pointer (some ⟨w.heap.size, 1, none⟩)), (.string (str s.table)), (.string (str Y1)), (.string (str Y2)), (.pointer (some ⟨w.heap.size, 3, none⟩)), (.slice A_u2 s.rows.length c_u2), (.string (str D)), (.string (str Y3)), (.string (str Y3))]) (by kernel_rfl) (by kernel_rfl) rfl rfl ?_ ?_
        · refine ⟨?_, ?_, ?_, ?_, ?_, ?_, ?_, ?_, ?_, trivial⟩
          · intro ac wc hs hd hz hf hw K hK
            have e0 : ac.eval (.tmp 1) = (.pointer (some ⟨w.heap.size, 0, none⟩)) := hf 1 rfl
            clear hd hz hf hw
            simp only [Region.wanted, if_true, Oper.wp, execOp, resolve, List.map_toArray, List.map_cons, List.map_nil, Option.map_some, Option.map_none, e0]
            go_simp
            exact hK _ _ rfl (Same.refl _ _)
          · intro ac wc hs hd hz hf hw K hK
            have e0 : ac.eval (.tmp 21) = (.pointer (some ⟨w.heap.size, 1, none⟩)) := hw 0 rfl
            have m0 : wc.cell? ⟨w.heap.size, 1, none⟩ = some (.string (str s.table)) := hs.cell (p := ⟨w.heap.size, 1, none⟩) trivial c1
            clear hd hz hf hw
            simp only [Region.wanted, if_true, Oper.wp, execOp, resolve, List.map_toArray, List.map_cons, List.map_nil, Option.map_some, Option.map_none, e0]
            go_simp
            exact hK _ _ rfl (Same.refl _ _)
          · intro ac wc hs hd hz hf hw K hK
            have e0 : ac.eval (.tmp 22) = (.string (str s.table)) := hw 1 rfl
            clear hd hz hf hw
            simp only [Region.wanted, if_true, Oper.wp, execOp, resolve, List.map_toArray, List.map_cons, List.map_nil, Option.map_some, Option.map_none, e0]
            go_simp
            exact hK _ _ rfl (Same.refl _ _)
          · intro ac wc hs hd hz hf hw K hK
            have e0 : ac.eval (.tmp 23) = (.string (str Y1)) := hw 2 rfl
            clear hd hz hf hw
            simp only [Region.wanted, if_true, Oper.wp, execOp, resolve, List.map_toArray, List.map_cons, List.map_nil, Option.map_some, Option.map_none, e0]
            go_simp
            exact hK _ _ rfl (Same.refl _ _)
          · intro ac wc hs hd hz hf hw K hK
            have e0 : ac.eval (.tmp 1) = (.pointer (some ⟨w.heap.size, 0, none⟩)) := hf 1 rfl
            clear hd hz hf hw
            simp only [Region.wanted, if_true, Oper.wp, execOp, resolve, List.map_toArray, List.map_cons, List.map_nil, Option.map_some, Option.map_none, e0]
            go_simp
            exact hK _ _ rfl (Same.refl _ _)
          · intro ac wc hs hd hz hf hw K hK
            have e0 : ac.eval (.tmp 25) = (.pointer (some ⟨w.heap.size, 3, none⟩)) := hw 4 rfl
            have m0 : wc.cell? ⟨w.heap.size, 3, none⟩ = some (.slice A_u2 s.rows.length c_u2) := hs.cell (p := ⟨w.heap.size, 3, none⟩) trivial c3
            clear hd hz hf hw
            simp only [Region.wanted, if_true, Oper.wp, execOp, resolve, List.map_toArray, List.map_cons, List.map_nil, Option.map_some, Option.map_none, e0]
            go_simp
            exact hK _ _ rfl (Same.refl _ _)
          · intro ac wc hs hd hz hf hw K hK
            have e0 : ac.eval (.tmp 26) = (.slice A_u2 s.rows.length c_u2) := hw 5 rfl
            clear hd hz hf hw
            simp only [Region.wanted, if_true, Oper.wp, execOp, resolve, List.map_toArray, List.map_cons, List.map_nil, Option.map_some, Option.map_none, e0]
            go_simp
            refine (gA _ hs).mono ?_
            rintro e wd ⟨rfl, hsd⟩
            exact hK _ _ rfl hsd
          · intro ac wc hs hd hz hf hw K hK
            have e0 : ac.eval (.tmp 24) = (.string (str Y2)) := hw 3 rfl
            have e1 : ac.eval (.tmp 27) = (.string (str D)) := hw 6 rfl
            clear hd hz hf hw
            simp only [Region.wanted, if_true, Oper.wp, execOp, resolve, List.map_toArray, List.map_cons, List.map_nil, Option.map_some, Option.map_none, e0, e1]
            go_simp
            exact hK _ _ rfl (Same.refl _ _)
          · intro ac wc hs hd hz hf hw K hK
            have e0 : ac.eval (.tmp 28) = (.string (str Y3)) := hw 7 rfl
            clear hd hz hf hw
            simp only [Region.wanted, if_true, Oper.wp, execOp, resolve, List.map_toArray, List.map_cons, List.map_nil, Option.map_some, Option.map_none, e0]
            go_simp
            exact hK _ _ rfl (Same.refl _ _)
        · intro wR hsR
          simp only [putAll, Act.put, List.setIfInBounds_toArray, List.set_cons_succ, List.set_cons_zero]
          have HROW := Lib.hid (HROW.out.keep hsR trivial)
          have HST := Lib.hid (stK.keep HST.out hsR)
          have HE := Lib.hid (HE.out.keepAll hsR)
          have HS := Lib.hid (HS.out.trans hsR)
          clear hsR
          go_wp2
          go_meet
          case rel => exact ⟨_, Y3, rfl, rfl, HB, HL9.out, HROW.out, HST.out, HE.out, HS.out⟩
      · have ek2 := int_eq_f hk2
        by_cases hk3 : s.kind = 3
        · have ek3 := int_eq_t hk3
          have hmi := HMS.out.sets hk3
          simp only [maySets, Bool.and_eq_true, List.all_eq_true, decide_eq_true_eq] at hmi
          have gA : ∀ W, Same (fun _ => True) W0 W → Calls Tryz.prog 48 #[.slice A_u3 s.sets.length c_u3, .func (.func 49) #[] #[]] W (TextP (joinT [44, 32] (s.sets.map showA)) W) := fun W hs => list_As showA 13107300 (by omega) s.sets _ W (HST.out.2.2.1.keepAll asK hs) (HE.out.keepAll hs) (by omega) (fun x hx => showA_len (hmi.2 x hx).1 (hmi.2 x hx).2 (HSI.out.sets x hx)) fun i hi u W' hu hE' => asnx_any s.sets[i] u W' (hmi.2 _ (List.getElem_mem hi)).1 (hmi.2 _ (List.getElem_mem hi)).2 (HSI.out.sets _ (List.getElem_mem hi)) hu hE'
          have hlen : (joinT [44, 32] (s.sets.map showA)).length ≤ 100000000 := by
            have h1 := join_len [44, 32] 13107300 (s.sets.map showA) fun x hx => by
              obtain ⟨y, hy, rfl⟩ := List.mem_map.1 hx
              exact showA_len (hmi.2 y hy).1 (hmi.2 y hy).2 (HSI.out.sets y hy)
            rw [List.length_map] at h1
            have h2 : s.sets.length * (13107300 + [44, 32].length) ≤ 6 * (13107300 + 2) := Nat.mul_le_mul hmi.1.2 (by simp)
            omega
          clear hmi
          obtain ⟨D, hD⟩ : ∃ D, D = joinT [44, 32] (s.sets.map showA) := ⟨_, rfl⟩
          rw [← hD] at gA hlen
          obtain ⟨Y1, hY1⟩ : ∃ Y, Y = [85, 80, 68, 65, 84, 69, 32] ++ s.table := ⟨_, rfl⟩
          obtain ⟨Y2, hY2⟩ : ∃ Y, Y = Y1 ++ [32, 83, 69, 84, 32] := ⟨_, rfl⟩
          obtain ⟨Y3, hY3⟩ : ∃ Y, Y = Y2 ++ D := ⟨_, rfl⟩
          have lY1 : Y1.length = ([85, 80, 68, 65, 84, 69, 32] : List UInt8).length + (s.table : List UInt8).length := by rw [hY1, List.length_append]
          have lY2 : Y2.length = (Y1 : List UInt8).length + ([32, 83, 69, 84, 32] : List UInt8).length := by rw [hY2, List.length_append]
          have lY3 : Y3.length = (Y2 : List UInt8).length + (D : List UInt8).length := by rw [hY3, List.length_append]
          simp only [List.length_cons, List.length_nil] at lY1 lY2 lY3
          have hlt := word_len HMS.out.table
          have a1 : ∀ w, (Op.stringOp .add ⟨#[85, 80, 68, 65, 84, 69, 32]⟩ (str s.table)).run Tryz.prog w = .ok (.string (str Y1)) w := fun w => hY1 ▸ add_str [85, 80, 68, 65, 84, 69, 32] s.table (by first | omega | (simp only [List.length_cons, List.length_nil]; omega)) w
          have a2 : ∀ w, (Op.stringOp .add (str Y1) ⟨#[32, 83, 69, 84, 32]⟩).run Tryz.prog w = .ok (.string (str Y2)) w := fun w => hY2 ▸ add_str Y1 [32, 83, 69, 84, 32] (by first | omega | (simp only [List.length_cons, List.length_nil]; omega)) w
          have a3 : ∀ w, (Op.stringOp .add (str Y2) (str D)).run Tryz.prog w = .ok (.string (str Y3)) w := fun w => hY3 ▸ add_str Y2 D (by first | omega | (simp only [List.length_cons, List.length_nil]; omega)) w
          have HB : Hid (Y3 = headS s) := Lib.hid (by rw [hY3, hY2, hY1, hD]; unfold headS; rw [if_neg hk1, if_neg hk2, if_pos hk3]; all_goals simp)
          have hl9 : Y3.length ≤ 2000000000 := by omega
          have HL9 := Lib.hid hl9
          clear hl9 lY1 lY2 lY3 hlt hlen hD hY1 hY2 hY3 hk1 hk2 hk3
          go_upto_region 9 with (fail)
          refine wp_region_eq_lit (vs := [(.pointer (some ⟨w.heap.size, 1, none⟩)), (.string (str s.table)), (.string (str Y1)), (.string (str Y2)), (.pointer (some ⟨w.heap.size, 4, none⟩)), (.slice A_u3 s.sets.length c_u3), (.string (str D)), (.string (str Y3)), (.string (str Y3))]) (by kernel_rfl) (by kernel_rfl) rfl rfl ?_ ?_
          · refine ⟨?_, ?_, ?_, ?_, ?_, ?_, ?_, ?_, ?_, trivial⟩
            · intro ac wc hs hd hz hf hw K hK
              have e0 : ac.eval (.tmp 1) = (.pointer (some ⟨w.heap.size, 0, none⟩)) := hf 1 rfl
              clear hd hz hf hw
              simp only [Region.wanted, if_true, Oper.wp, execOp, resolve, List.map_toArray, List.map_cons, List.map_nil, Option.map_some, Option.map_none, e0]
              go_simp
              exact hK _ _ rfl (Same.refl _ _)
            · intro ac wc hs hd hz hf hw K hK
              have e0 : ac.eval (.tmp 31) = (.pointer (some ⟨w.heap.size, 1, none⟩)) := hw 0 rfl
              have m0 : wc.cell? ⟨w.heap.size, 1, none⟩ = some (.string (str s.table)) := hs.cell (p := ⟨w.heap.size, 1, none⟩) trivial c1
              clear hd hz hf hw
              simp only [Region.wanted, if_true, Oper.wp, execOp, resolve, List.map_toArray, List.map_cons, List.map_nil, Option.map_some, Option.map_none, e0]
              go_simp
              exact hK _ _ rfl (Same.refl _ _)
            · intro ac wc hs hd hz hf hw K hK
              have e0 : ac.eval (.tmp 32) = (.string (str s.table)) := hw 1 rfl
              clear hd hz hf hw
              simp only [Region.wanted, if_true, Oper.wp, execOp, resolve, List.map_toArray, List.map_cons, List.map_nil, Option.map_some, Option.map_none, e0]
              go_simp
              exact hK _ _ rfl (Same.refl _ _)
            · intro ac wc hs hd hz hf hw K hK
              have e0 : ac.eval (.tmp 33) = (.string (str Y1)) := hw 2 rfl
              clear hd hz hf hw
              simp only [Region.wanted, if_true, Oper.wp, execOp, resolve, List.map_toArray, List.map_cons, List.map_nil, Option.map_some, Option.map_none, e0]
              go_simp
              exact hK _ _ rfl (Same.refl _ _)
            · intro ac wc hs hd hz hf hw K hK
              have e0 : ac.eval (.tmp 1) = (.pointer (some ⟨w.heap.size, 0, none⟩)) := hf 1 rfl
              clear hd hz hf hw
              simp only [Region.wanted, if_true, Oper.wp, execOp, resolve, List.map_toArray, List.map_cons, List.map_nil, Option.map_some, Option.map_none, e0]
              go_simp
              exact hK _ _ rfl (Same.refl _ _)
            · intro ac wc hs hd hz hf hw K hK
              have e0 : ac.eval (.tmp 35) = (.pointer (some ⟨w.heap.size, 4, none⟩)) := hw 4 rfl
              have m0 : wc.cell? ⟨w.heap.size, 4, none⟩ = some (.slice A_u3 s.sets.length c_u3) := hs.cell (p := ⟨w.heap.size, 4, none⟩) trivial c4
              clear hd hz hf hw
              simp only [Region.wanted, if_true, Oper.wp, execOp, resolve, List.map_toArray, List.map_cons, List.map_nil, Option.map_some, Option.map_none, e0]
              go_simp
              exact hK _ _ rfl (Same.refl _ _)
            · intro ac wc hs hd hz hf hw K hK
              have e0 : ac.eval (.tmp 36) = (.slice A_u3 s.sets.length c_u3) := hw 5 rfl
              clear hd hz hf hw
              simp only [Region.wanted, if_true, Oper.wp, execOp, resolve, List.map_toArray, List.map_cons, List.map_nil, Option.map_some, Option.map_none, e0]
              go_simp
              refine (gA _ hs).mono ?_
              rintro e wd ⟨rfl, hsd⟩
              exact hK _ _ rfl hsd
            · intro ac wc hs hd hz hf hw K hK
              have e0 : ac.eval (.tmp 34) = (.string (str Y2)) := hw 3 rfl
              have e1 : ac.eval (.tmp 37) = (.string (str D)) := hw 6 rfl
              clear hd hz hf hw
              simp only [Region.wanted, if_true, Oper.wp, execOp, resolve, List.map_toArray, List.map_cons, List.map_nil, Option.map_some, Option.map_none, e0, e1]
              go_simp
              exact hK _ _ rfl (Same.refl _ _)
            · intro ac wc hs hd hz hf hw K hK
              have e0 : ac.eval (.tmp 38) = (.string (str Y3)) := hw 7 rfl
              clear hd hz hf hw
              simp only [Region.wanted, if_true, Oper.wp, execOp, resolve, List.map_toArray, List.map_cons, List.map_nil, Option.map_some, Option.map_none, e0]
              go_simp
              exact hK _ _ rfl (Same.refl _ _)
          · intro wR hsR
            simp only [putAll, Act.put, List.setIfInBounds_toArray, List.set_cons_succ, List.set_cons_zero]
            have HROW := Lib.hid (HROW.out.keep hsR trivial)
            have HST := Lib.hid (stK.keep HST.out hsR)
            have HE := Lib.hid (HE.out.keepAll hsR)
            have HS := Lib.hid (HS.out.trans hsR)
            clear hsR
            go_wp2
            go_meet
            case rel => exact ⟨_, Y3, rfl, rfl, HB, HL9.out, HROW.out, HST.out, HE.out, HS.out⟩
        · have ek3 := int_eq_f hk3
          have hlt := word_len HMS.out.table
          have HB : Hid ([68, 69, 76, 69, 84, 69, 32, 70, 82, 79, 77, 32] ++ s.table = headS s) := Lib.hid (by unfold headS; rw [if_neg hk1, if_neg hk2, if_neg hk3])
          have a1 : ∀ w, (Op.stringOp .add ⟨#[68, 69, 76, 69, 84, 69, 32, 70, 82, 79, 77, 32]⟩ (str s.table)).run Tryz.prog w = .ok (.string (str ([68, 69, 76, 69, 84, 69, 32, 70, 82, 79, 77, 32] ++ s.table))) w := fun w => add_str [68, 69, 76, 69, 84, 69, 32, 70, 82, 79, 77, 32] s.table (by simp; omega) w
          have HL9 : Hid (([68, 69, 76, 69, 84, 69, 32, 70, 82, 79, 77, 32] ++ s.table).length ≤ 2000000000) := Lib.hid (by rw [List.length_append]; simp only [List.length_cons, List.length_nil]; omega)
          generalize [68, 69, 76, 69, 84, 69, 32, 70, 82, 79, 77, 32] ++ s.table = Y at a1 HB HL9
          clear hk1 hk2 hk3 hlt
          go_wp2
          go_meet
          case rel => exact ⟨_, Y, rfl, rfl, HB, HL9.out, HROW.out, HST.out, HE.out, HS.out⟩
  case rest =>
    clear HROW HST HE HS c0 c1 c2 c3 c4 c5 c6 c7 c8 c9 c10 c11 c12 c13 c14
    obtain ⟨W0, H0, rfl, rfl, HH0, hl0, hrow, hst, he, hs⟩ := hcut
    have HROW := Lib.hid hrow
    have HST := Lib.hid hst
    have HE := Lib.hid he
    have HS := Lib.hid hs
    have c0 := HROW.out.cell 0
    have c1 := HROW.out.cell 1
    have c2 := HROW.out.cell 2
    have c3 := HROW.out.cell 3
    have c4 := HROW.out.cell 4
    have c5 := HROW.out.cell 5
    have c6 := HROW.out.cell 6
    have c7 := HROW.out.cell 7
    have c8 := HROW.out.cell 8
    have c9 := HROW.out.cell 9
    have c10 := HROW.out.cell 10
    have c11 := HROW.out.cell 11
    have c12 := HROW.out.cell 12
    have c13 := HROW.out.cell 13
    have c14 := HROW.out.cell 14
    simp only [List.getElem?_cons_zero, List.getElem?_cons_succ] at c0 c1 c2 c3 c4 c5 c6 c7 c8 c9 c10 c11 c12 c13 c14
    clear hrow hst he hs
    go_upto_if 40 with (fail)
    go_cut [3] from 39 to 46 (fun v wx => ∃ (W : World) (H : List UInt8), W = wx ∧ v = .string (str H) ∧ Hid (H = headS s ++ p1S s) ∧ H.length ≤ 2020000000 ∧ Row W w.heap.size 44 [.int .i64 s.kind, .string (str s.table), .slice A_u1 s.items.length c_u1, .slice A_u2 s.rows.length c_u2, .slice A_u3 s.sets.length c_u3, .bool s.filt, .int .i64 s.cond.kind, .string (str s.cond.s), .int .i64 s.cond.v.kind, .int .i64 s.cond.v.n, .string (str s.cond.v.s), .slice A_u4 s.cond.args.length c_u4, .string (str s.order), .bool s.down, .int .i64 s.limit] ∧ StR W (fun _ => True) (⟨.slice A_u1 s.items.length c_u1, .slice A_u2 s.rows.length c_u2, .slice A_u3 s.sets.length c_u3, .slice A_u4 s.cond.args.length c_u4⟩ : SU) s ∧ EnvT W ∧ Same (fun _ => True) w W)
    case first =>
      cases hft : s.filt
      · have HB : Hid (H0 = headS s ++ p1S s) := Lib.hid (by unfold p1S; rw [HH0.out, hft]; simp)
        have HL9 : Hid (H0.length ≤ 2020000000) := Lib.hid (by omega)
        clear hft
        go_wp2
        go_meet
        case rel => exact ⟨_, H0, rfl, rfl, HB, HL9.out, HROW.out, HST.out, HE.out, HS.out⟩
      · have ht := text_any s.cond 16 (.slice A_u4 s.cond.args.length c_u4) W0 (by omega) (HMS.out.cond hft) HSI.out.cond HST.out.2.2.2 HE.out
        have hlen := showE_most (HMS.out.cond hft) (by omega) HSI.out.cond
        obtain ⟨D, hD⟩ : ∃ D, D = showE s.cond := ⟨_, rfl⟩
        rw [← hD] at ht hlen
        obtain ⟨Y1, hY1⟩ : ∃ Y, Y = [32, 87, 72, 69, 82, 69, 32] ++ D := ⟨_, rfl⟩
        obtain ⟨Y2, hY2⟩ : ∃ Y, Y = H0 ++ Y1 := ⟨_, rfl⟩
        have l1 : Y1.length = 7 + D.length := by rw [hY1, List.length_append]; rfl
        have l2 : Y2.length = H0.length + Y1.length := by rw [hY2, List.length_append]
        have a1 : ∀ w, (Op.stringOp .add ⟨#[32, 87, 72, 69, 82, 69, 32]⟩ (str D)).run Tryz.prog w = .ok (.string (str Y1)) w := fun w => hY1 ▸ add_str [32, 87, 72, 69, 82, 69, 32] D (by simp only [List.length_cons, List.length_nil]; omega) w
        have a2 : ∀ w, (Op.stringOp .add (str H0) (str Y1)).run Tryz.prog w = .ok (.string (str Y2)) w := fun w => hY2 ▸ add_str H0 Y1 (by omega) w
        have HB : Hid (Y2 = headS s ++ p1S s) := Lib.hid (by unfold p1S; rw [hY2, hY1, HH0.out, hD, hft]; rfl)
        have HL9 : Hid (Y2.length ≤ 2020000000) := Lib.hid (by omega)
        clear hft hlen hD hY1 hY2 l1 l2
        go_wp2_with (go_at_call 47; refine stopAt ?_)
        unfold Hid
        refine ht.mono ?_
        rintro e w2 ⟨rfl, hS⟩
        have HROW := Lib.hid (HROW.out.keep hS trivial)
        have HST := Lib.hid (stK.keep HST.out hS)
        have HE := Lib.hid (HE.out.keepAll hS)
        have HS := Lib.hid (HS.out.trans hS)
        clear hS
        clear ht
        go_wp2
        go_meet
        case rel => exact ⟨_, Y2, rfl, rfl, HB, HL9.out, HROW.out, HST.out, HE.out, HS.out⟩
    case rest =>
      clear HROW HST HE HS c0 c1 c2 c3 c4 c5 c6 c7 c8 c9 c10 c11 c12 c13 c14
      obtain ⟨W1, H1, rfl, rfl, HH1, hl1, hrow, hst, he, hs⟩ := hcut
      have HROW := Lib.hid hrow
      have HST := Lib.hid hst
      have HE := Lib.hid he
      have HS := Lib.hid hs
      have c0 := HROW.out.cell 0
      have c1 := HROW.out.cell 1
      have c2 := HROW.out.cell 2
      have c3 := HROW.out.cell 3
      have c4 := HROW.out.cell 4
      have c5 := HROW.out.cell 5
      have c6 := HROW.out.cell 6
      have c7 := HROW.out.cell 7
      have c8 := HROW.out.cell 8
      have c9 := HROW.out.cell 9
      have c10 := HROW.out.cell 10
      have c11 := HROW.out.cell 11
      have c12 := HROW.out.cell 12
      have c13 := HROW.out.cell 13
      have c14 := HROW.out.cell 14
      simp only [List.getElem?_cons_zero, List.getElem?_cons_succ] at c0 c1 c2 c3 c4 c5 c6 c7 c8 c9 c10 c11 c12 c13 c14
      clear hrow hst he hs
      go_upto_if 49 with (fail)
      go_cut [3] from 47 to 54 (fun v wx => ∃ (W : World) (H : List UInt8), W = wx ∧ v = .string (str H) ∧ Hid (H = headS s ++ p1S s ++ p2S s) ∧ H.length ≤ 2020000100 ∧ Row W w.heap.size 44 [.int .i64 s.kind, .string (str s.table), .slice A_u1 s.items.length c_u1, .slice A_u2 s.rows.length c_u2, .slice A_u3 s.sets.length c_u3, .bool s.filt, .int .i64 s.cond.kind, .string (str s.cond.s), .int .i64 s.cond.v.kind, .int .i64 s.cond.v.n, .string (str s.cond.v.s), .slice A_u4 s.cond.args.length c_u4, .string (str s.order), .bool s.down, .int .i64 s.limit] ∧ StR W (fun _ => True) (⟨.slice A_u1 s.items.length c_u1, .slice A_u2 s.rows.length c_u2, .slice A_u3 s.sets.length c_u3, .slice A_u4 s.cond.args.length c_u4⟩ : SU) s ∧ EnvT W ∧ Same (fun _ => True) w W)
      case first =>
        by_cases ho : s.order = []
        · rw [show (!s.order.isEmpty) = false from by rw [ho]; rfl]
          have HB : Hid (H1 = headS s ++ p1S s ++ p2S s) := Lib.hid (by unfold p2S; rw [HH1.out, if_pos ho]; simp)
          have HL9 : Hid (H1.length ≤ 2020000100) := Lib.hid (by omega)
          clear ho
          go_wp2
          go_meet
          case rel => exact ⟨_, H1, rfl, rfl, HB, HL9.out, HROW.out, HST.out, HE.out, HS.out⟩
        · rw [show (!s.order.isEmpty) = true from by
            cases h : s.order with
            | nil => exact absurd h ho
            | cons a b => rfl]
          have hlo := HMS.out.order
          obtain ⟨Y1, hY1⟩ : ∃ Y, Y = [32, 79, 82, 68, 69, 82, 32, 66, 89, 32] ++ s.order := ⟨_, rfl⟩
          obtain ⟨Y2, hY2⟩ : ∃ Y, Y = H1 ++ Y1 := ⟨_, rfl⟩
          have l1 : Y1.length = 10 + s.order.length := by rw [hY1, List.length_append]; rfl
          have l2 : Y2.length = H1.length + Y1.length := by rw [hY2, List.length_append]
          have a1 : ∀ w, (Op.stringOp .add ⟨#[32, 79, 82, 68, 69, 82, 32, 66, 89, 32]⟩ (str s.order)).run Tryz.prog w = .ok (.string (str Y1)) w := fun w => hY1 ▸ add_str [32, 79, 82, 68, 69, 82, 32, 66, 89, 32] s.order (by simp only [List.length_cons, List.length_nil]; omega) w
          have a2 : ∀ w, (Op.stringOp .add (str H1) (str Y1)).run Tryz.prog w = .ok (.string (str Y2)) w := fun w => hY2 ▸ add_str H1 Y1 (by omega) w
          have HB : Hid (Y2 = headS s ++ p1S s ++ p2S s) := Lib.hid (by unfold p2S; rw [hY2, hY1, HH1.out, if_neg ho])
          have HL9 : Hid (Y2.length ≤ 2020000100) := Lib.hid (by omega)
          clear hlo hY1 hY2 l1 l2
          go_wp2
          go_meet
          case rel => exact ⟨_, Y2, rfl, rfl, HB, HL9.out, HROW.out, HST.out, HE.out, HS.out⟩
      case rest =>
        clear HROW HST HE HS c0 c1 c2 c3 c4 c5 c6 c7 c8 c9 c10 c11 c12 c13 c14
        obtain ⟨W2, H2, rfl, rfl, HH2, hl2, hrow, hst, he, hs⟩ := hcut
        have HROW := Lib.hid hrow
        have HST := Lib.hid hst
        have HE := Lib.hid he
        have HS := Lib.hid hs
        have c0 := HROW.out.cell 0
        have c1 := HROW.out.cell 1
        have c2 := HROW.out.cell 2
        have c3 := HROW.out.cell 3
        have c4 := HROW.out.cell 4
        have c5 := HROW.out.cell 5
        have c6 := HROW.out.cell 6
        have c7 := HROW.out.cell 7
        have c8 := HROW.out.cell 8
        have c9 := HROW.out.cell 9
        have c10 := HROW.out.cell 10
        have c11 := HROW.out.cell 11
        have c12 := HROW.out.cell 12
        have c13 := HROW.out.cell 13
        have c14 := HROW.out.cell 14
        simp only [List.getElem?_cons_zero, List.getElem?_cons_succ] at c0 c1 c2 c3 c4 c5 c6 c7 c8 c9 c10 c11 c12 c13 c14
        clear hrow hst he hs
        go_upto_if 56 with (fail)
        go_cut [3] from 55 to 58 (fun v wx => ∃ (W : World) (H : List UInt8), W = wx ∧ v = .string (str H) ∧ Hid (H = headS s ++ p1S s ++ p2S s ++ p3S s) ∧ H.length ≤ 2020000200 ∧ Row W w.heap.size 44 [.int .i64 s.kind, .string (str s.table), .slice A_u1 s.items.length c_u1, .slice A_u2 s.rows.length c_u2, .slice A_u3 s.sets.length c_u3, .bool s.filt, .int .i64 s.cond.kind, .string (str s.cond.s), .int .i64 s.cond.v.kind, .int .i64 s.cond.v.n, .string (str s.cond.v.s), .slice A_u4 s.cond.args.length c_u4, .string (str s.order), .bool s.down, .int .i64 s.limit] ∧ StR W (fun _ => True) (⟨.slice A_u1 s.items.length c_u1, .slice A_u2 s.rows.length c_u2, .slice A_u3 s.sets.length c_u3, .slice A_u4 s.cond.args.length c_u4⟩ : SU) s ∧ EnvT W ∧ Same (fun _ => True) w W)
        case first =>
          cases hdn : s.down
          · have HB : Hid (H2 = headS s ++ p1S s ++ p2S s ++ p3S s) := Lib.hid (by unfold p3S; rw [HH2.out, hdn]; simp)
            have HL9 : Hid (H2.length ≤ 2020000200) := Lib.hid (by omega)
            clear hdn
            go_wp2
            go_meet
            case rel => exact ⟨_, H2, rfl, rfl, HB, HL9.out, HROW.out, HST.out, HE.out, HS.out⟩
          · obtain ⟨Y2, hY2⟩ : ∃ Y, Y = H2 ++ [32, 68, 69, 83, 67] := ⟨_, rfl⟩
            have l2 : Y2.length = H2.length + 5 := by rw [hY2, List.length_append]; rfl
            have a2 : ∀ w, (Op.stringOp .add (str H2) ⟨#[32, 68, 69, 83, 67]⟩).run Tryz.prog w = .ok (.string (str Y2)) w := fun w => hY2 ▸ add_str H2 [32, 68, 69, 83, 67] (by simp only [List.length_cons, List.length_nil]; omega) w
            have HB : Hid (Y2 = headS s ++ p1S s ++ p2S s ++ p3S s) := Lib.hid (by unfold p3S; rw [hY2, HH2.out, hdn]; rfl)
            have HL9 : Hid (Y2.length ≤ 2020000200) := Lib.hid (by omega)
            clear hdn hY2 l2
            go_wp2
            go_meet
            case rel => exact ⟨_, Y2, rfl, rfl, HB, HL9.out, HROW.out, HST.out, HE.out, HS.out⟩
        case rest =>
          clear HROW HST HE HS c0 c1 c2 c3 c4 c5 c6 c7 c8 c9 c10 c11 c12 c13 c14
          obtain ⟨W3, H3, rfl, rfl, HH3, hl3, hrow, hst, he, hs⟩ := hcut
          have HROW := Lib.hid hrow
          have HST := Lib.hid hst
          have HE := Lib.hid he
          have HS := Lib.hid hs
          have c0 := HROW.out.cell 0
          have c1 := HROW.out.cell 1
          have c2 := HROW.out.cell 2
          have c3 := HROW.out.cell 3
          have c4 := HROW.out.cell 4
          have c5 := HROW.out.cell 5
          have c6 := HROW.out.cell 6
          have c7 := HROW.out.cell 7
          have c8 := HROW.out.cell 8
          have c9 := HROW.out.cell 9
          have c10 := HROW.out.cell 10
          have c11 := HROW.out.cell 11
          have c12 := HROW.out.cell 12
          have c13 := HROW.out.cell 13
          have c14 := HROW.out.cell 14
          simp only [List.getElem?_cons_zero, List.getElem?_cons_succ] at c0 c1 c2 c3 c4 c5 c6 c7 c8 c9 c10 c11 c12 c13 c14
          clear hrow hst he hs
          by_cases hk : s.kind = 1
          · have ek := int_eq_t hk
            by_cases hl : 0 ≤ s.limit
            · have el : decide (0 ≤ s.limit) = true := decide_eq_true hl
              have hi64 := i64_I HSI.out.limit
              have hlen := intL_len hi64
              obtain ⟨D, hD⟩ : ∃ D, D = intL s.limit := ⟨_, rfl⟩
              have hf := fmt_any s.limit W3 hi64 HE.out
              rw [← hD] at hf hlen
              obtain ⟨Y1, hY1⟩ : ∃ Y, Y = [32, 76, 73, 77, 73, 84, 32] ++ D := ⟨_, rfl⟩
              obtain ⟨Y2, hY2⟩ : ∃ Y, Y = H3 ++ Y1 := ⟨_, rfl⟩
              have l1 : Y1.length = 7 + D.length := by rw [hY1, List.length_append]; rfl
              have a1 : ∀ w, (Op.stringOp .add ⟨#[32, 76, 73, 77, 73, 84, 32]⟩ (str D)).run Tryz.prog w = .ok (.string (str Y1)) w := fun w => hY1 ▸ add_str [32, 76, 73, 77, 73, 84, 32] D (by simp only [List.length_cons, List.length_nil]; omega) w
              have a2 : ∀ w, (Op.stringOp .add (str H3) (str Y1)).run Tryz.prog w = .ok (.string (str Y2)) w := fun w => hY2 ▸ add_str H3 Y1 (by omega) w
              have HB : Hid (Y2 = showS s) := Lib.hid (by rw [showS_eq]; unfold p4S; rw [hY2, hY1, HH3.out, hD, if_pos ⟨hk, hl⟩])
              clear hk hl hi64 hlen hD hY1 hY2 l1
              go_wp2_with (go_at_call 27; refine stopAt ?_)
              unfold Hid
              refine hf.mono ?_
              rintro e w2 ⟨rfl, hS⟩
              have HS := Lib.hid (HS.out.trans hS)
              clear hS hf
              go_wp2
              go_ret
              exact ⟨ret_str HB.out, HS.out⟩
            · have el : decide (0 ≤ s.limit) = false := decide_eq_false hl
              have HB : Hid (H3 = showS s) := Lib.hid (by rw [showS_eq]; unfold p4S; rw [HH3.out, if_neg (fun h => hl h.2)]; simp)
              clear hk hl
              go_wp2
              go_ret
              exact ⟨ret_str HB.out, HS.out⟩
          · have ek := int_eq_f hk
            have HB : Hid (H3 = showS s) := Lib.hid (by rw [showS_eq]; unfold p4S; rw [HH3.out, if_neg (fun h => hk h.1)]; simp)
            clear hk
            go_wp2
            go_ret
            exact ⟨ret_str HB.out, HS.out⟩
theorem items_len {l : List Itm} (h : mayIs l = true) (hI : ∀ x ∈ l, ExI x.e) : (joinT [44, 32] (l.map showI)).length ≤ 100000000 := by
  simp only [mayIs, Bool.and_eq_true, List.all_eq_true, decide_eq_true_eq] at h
  have h1 := join_len [44, 32] 13107300 (l.map showI) fun x hx => by
    obtain ⟨y, hy, rfl⟩ := List.mem_map.1 hx
    exact showI_len (h.1.1 y hy) (hI y hy)
  rw [List.length_map] at h1
  have h2 : l.length * (13107300 + [44, 32].length) ≤ 6 * (13107300 + 2) := Nat.mul_le_mul h.2 (by simp)
  omega
theorem rows_len {l : List (List Ex)} (h : mayRows l = true) (hI : ∀ x ∈ l, ∀ e ∈ x, ExI e) : (joinT [44, 32] (l.map showR)).length ≤ 1300000000 := by
  simp only [mayRows, Bool.and_eq_true, List.all_eq_true, decide_eq_true_eq] at h
  have h1 := join_len [44, 32] 78643400 (l.map showR) fun x hx => by
    obtain ⟨y, hy, rfl⟩ := List.mem_map.1 hx
    exact showR_len (h.1.1 y hy) (hI y hy)
  rw [List.length_map] at h1
  have h2 : l.length * (78643400 + [44, 32].length) ≤ 16 * (78643400 + 2) := Nat.mul_le_mul h.2 (by simp)
  omega
theorem sets_len {l : List Asn} (h : maySets l = true) (hI : ∀ x ∈ l, ExI x.e) : (joinT [44, 32] (l.map showA)).length ≤ 100000000 := by
  simp only [maySets, Bool.and_eq_true, List.all_eq_true, decide_eq_true_eq] at h
  have h1 := join_len [44, 32] 13107300 (l.map showA) fun x hx => by
    obtain ⟨y, hy, rfl⟩ := List.mem_map.1 hx
    exact showA_len (h.2 y hy).1 (h.2 y hy).2 (hI y hy)
  rw [List.length_map] at h1
  have h2 : l.length * (13107300 + [44, 32].length) ≤ 6 * (13107300 + 2) := Nat.mul_le_mul h.1.2 (by simp)
  omega
theorem showS_len {s : Stm} (hm : mayS s = true) (hI : StI s) : (showS s).length ≤ 1999999999 := by
  have h := MayS.of hm
  have ht := word_len h.table
  have ho := h.order
  have h0 : (headS s).length ≤ 1300000100 := by
    unfold headS
    by_cases h1 : s.kind = 1
    · rw [if_pos h1]
      have := items_len (h.items h1) hI.items
      simp only [List.length_append, List.length_cons, List.length_nil]; omega
    rw [if_neg h1]
    by_cases h2 : s.kind = 2
    · rw [if_pos h2]
      have := rows_len (h.rows h2) hI.rows
      simp only [List.length_append, List.length_cons, List.length_nil]; omega
    rw [if_neg h2]
    by_cases h3 : s.kind = 3
    · rw [if_pos h3]
      have := sets_len (h.sets h3) hI.sets
      simp only [List.length_append, List.length_cons, List.length_nil]; omega
    · rw [if_neg h3]
      simp only [List.length_append, List.length_cons, List.length_nil]; omega
  have h1 : (p1S s).length ≤ 13107300 := by
    unfold p1S
    cases hf : s.filt
    · simp
    · have := showE_most (h.cond hf) (by omega) hI.cond
      simp only [if_true, List.length_append, List.length_cons, List.length_nil]; omega
  have h2 : (p2S s).length ≤ 100 := by
    unfold p2S
    split
    · simp
    · simp only [List.length_append, List.length_cons, List.length_nil]; omega
  have h3 : (p3S s).length ≤ 10 := by unfold p3S; split <;> simp
  have h4 : (p4S s).length ≤ 50 := by
    unfold p4S
    split
    · have := intL_len (i64_I hI.limit)
      simp only [List.length_append, List.length_cons, List.length_nil]; omega
    · simp
  rw [showS_eq]
  simp only [List.length_append]
  omega
def PrintP (r : List UInt8 × Nat) (w : World) (e : Ending) (w' : World) : Prop := e = .returned (.tuple #[.string (str r.1), .int .i64 (r.2 : Int)]) ∧ Same (fun _ => True) w w'
theorem ret_pr {a b : List UInt8} {n m : Nat} (h : a = b) (k : n = m) : Ending.returned (.tuple #[.string (str a), .int .i64 (n : Int)]) = .returned (.tuple #[.string (str b), .int .i64 (m : Int)]) := by rw [h, k]
set_option maxRecDepth 100000 in
set_option maxHeartbeats 16000000 in
theorem print_any (l : LotM) (u : Value) (w : World) (hI : LotI l) (h : LtR w (fun _ => True) u l) (hE : EnvT w) : Calls Tryz.prog 16 #[ltV u l] w (PrintP (printF l) w) := by
  obtain ⟨A, c, rfl, hc1, hc2⟩ := (show LsR stCsP 15 StR _ _ u l.stmts from h).form
  unfold maxLen at hc2
  obtain ⟨X, hX⟩ : ∃ X, X = printF l := ⟨_, rfl⟩
  rw [← hX]
  have HX := Lib.hid hX
  have HLI := Lib.hid hI
  have HI64 := Lib.hid (i64_I hI.n)
  have hA := (Same.refl (fun _ => True) w).alloc (.cells #[.int .i64 l.mode, .int .i64 l.n, .slice A l.stmts.length c] 25)
  have hrow := Row.new w 25 [.int .i64 l.mode, .int .i64 l.n, .slice A l.stmts.length c]
  have hl : LsR stCsP 15 StR (w.alloc (.cells #[.int .i64 l.mode, .int .i64 l.n, .slice A l.stmts.length c] 25)) (fun _ => True) (.slice A l.stmts.length c) l.stmts := LsR.keepAll stK h hA
  have hE1 := hE.keepAll hA
  clear hX h hE hI
  go_enter Tryz.func16, Tryz.ntmps16
  go_upto_region 1 with (fail)
  revert hA hrow hl hE1
  generalize w.alloc _ = w1
  intro hA hrow hl hE1
  have HL := Lib.hid hl
  have HE := Lib.hid hE1
  have HS := Lib.hid hA
  have c0 := hrow.cell 0
  have c1 := hrow.cell 1
  have c2 := hrow.cell 2
  simp only [List.getElem?_cons_zero, List.getElem?_cons_succ] at c0 c1 c2
  clear hA hrow hl hE1
  go_wp2_with (go_at_call 18; refine stopAt ?_)
  unfold Hid
  refine (may_any l (.slice A l.stmts.length c) w1 HL.out HE.out.max).mono ?_
  rintro e W2 ⟨rfl, hS⟩
  have c0 := hS.cell (p := ⟨w.heap.size, 0, none⟩) trivial c0
  have c1 := hS.cell (p := ⟨w.heap.size, 1, none⟩) trivial c1
  have c2 := hS.cell (p := ⟨w.heap.size, 2, none⟩) trivial c2
  have HL := Lib.hid (HL.out.keepAll stK hS)
  have HE := Lib.hid (HE.out.keepAll hS)
  have HS := Lib.hid (HS.out.trans hS)
  clear hS
  cases hmy : mayLot l
  · have HB : Hid ([] = X.1 ∧ 9 = X.2) := Lib.hid (by rw [HX.out]; unfold printF; rw [hmy, if_neg (by simp)]; exact ⟨rfl, rfl⟩)
    clear hmy
    go_wp2
    go_ret2
    exact ⟨ret_pr HB.out.1 HB.out.2, HS.out⟩
  · have HMY := Lib.hid hmy
    have HMA : Hid ((∀ s ∈ l.stmts, mayS s = true) ∧ l.stmts.length ≤ 8) := Lib.hid (by
      have h := hmy
      simp only [mayLot, Bool.and_eq_true, List.all_eq_true, decide_eq_true_eq] at h
      exact ⟨h.2, h.1.2⟩)
    clear hmy
    go_wp2
    go_loopw [4, 15] (fun v i wr => ∃ q : Nat, i = .int .i64 (q : Int) ∧ q ≤ l.stmts.length ∧ OwnR sC 1 9 wr W2.heap.size v ((l.stmts.take q).map showS) ∧ Same (fun _ => True) W2 wr) (fun _ i _ => l.stmts.length - (intOf i).toNat)
    case atStart => exact ⟨0, rfl, Nat.zero_le _, OwnR.nil _ _, Same.refl _ _⟩
    case round =>
      obtain ⟨q, rfl, hq, hov, hS⟩ := hrel
      obtain ⟨Av, cv, rfl, hv1, hv2⟩ := hov.form
      have hln : ((l.stmts.take q).map showS).length = q := by rw [List.length_map, List.length_take]; omega
      rw [hln] at hov hv1 ⊢
      unfold maxLen at hv2
      have x1 : (0 : Int) ≤ (q : Int) := by omega
      have c0 := hS.cell (p := ⟨w.heap.size, 0, none⟩) trivial c0
      have c1 := hS.cell (p := ⟨w.heap.size, 1, none⟩) trivial c1
      have HSq := Lib.hid hS
      have HE2 := Lib.hid (HE.out.keepAll hS)
      have HOV := Lib.hid hov
      clear hov
      by_cases hql : q < l.stmts.length
      · have x2 : (q : Int) < (l.stmts.length : Int) := by omega
        obtain ⟨ad, u, rfl, hok, hcl⟩ := LsR.at_ (HL.out.keepAll stK hS) stCsP_len hql
        obtain ⟨ui, ur, us, uc⟩ := u
        obtain ⟨A_u1, c_u1, q1, -⟩ := LsR.form (show LsR itCs 7 itOk _ _ ui l.stmts[q].items from hok.1)
        subst q1
        obtain ⟨A_u2, c_u2, q2, -⟩ := LsR.form (show LsR rwCs 1 rwOk _ _ ur l.stmts[q].rows from hok.2.1)
        subst q2
        obtain ⟨A_u3, c_u3, q3, -⟩ := LsR.form (show LsR asCs 7 asOk _ _ us l.stmts[q].sets from hok.2.2.1)
        subst q3
        obtain ⟨A_u4, c_u4, q4, -⟩ := (show ExR _ _ uc l.stmts[q].cond from hok.2.2.2).toL.form
        subst q4
        have d0 := hcl 0 (by omega)
        rw [add_zero] at d0
        have d1 := hcl 1 (by omega)
        rw [addr_add _ _ (by omega)] at d1
        have d2 := hcl 2 (by omega)
        rw [addr_add _ _ (by omega)] at d2
        have d3 := hcl 3 (by omega)
        rw [addr_add _ _ (by omega)] at d3
        have d4 := hcl 4 (by omega)
        rw [addr_add _ _ (by omega)] at d4
        have d5 := hcl 5 (by omega)
        rw [addr_add _ _ (by omega)] at d5
        have d6 := hcl 6 (by omega)
        rw [addr_add _ _ (by omega)] at d6
        have d7 := hcl 7 (by omega)
        rw [addr_add _ _ (by omega)] at d7
        have d8 := hcl 8 (by omega)
        rw [addr_add _ _ (by omega)] at d8
        have d9 := hcl 9 (by omega)
        rw [addr_add _ _ (by omega)] at d9
        have d10 := hcl 10 (by omega)
        rw [addr_add _ _ (by omega)] at d10
        have d11 := hcl 11 (by omega)
        rw [addr_add _ _ (by omega)] at d11
        have d12 := hcl 12 (by omega)
        rw [addr_add _ _ (by omega)] at d12
        have d13 := hcl 13 (by omega)
        rw [addr_add _ _ (by omega)] at d13
        have d14 := hcl 14 (by omega)
        rw [addr_add _ _ (by omega)] at d14
        simp only [stCsP, stCs, List.getElem?_cons_zero, List.getElem?_cons_succ] at d0 d1 d2 d3 d4 d5 d6 d7 d8 d9 d10 d11 d12 d13 d14
        have HOK := Lib.hid hok
        clear hok hS hcl
        go_wp2_with (go_at_call 25; refine stopAt ?_)
        unfold Hid
        refine (stmtx_any l.stmts[q] _ _ (HMA.out.1 _ (List.getElem_mem hql)) (HLI.out.stmts _ (List.getElem_mem hql)) (stK.keep HOK.out ((Same.refl (fun _ => True) wr).alloc _)) (HE2.out.keepAll ((Same.refl (fun _ => True) wr).alloc _))).mono ?_
        rintro e w5 ⟨rfl, hS⟩
        have HS5 := Lib.hid ((HSq.out.trans ((Same.refl (fun _ => True) wr).alloc _)).trans hS)
        have HOV5 := Lib.hid (HOV.out.keepAll (((Same.refl (fun _ => True) wr).alloc _).trans hS))
        clear hS c0 c1
        go_wp2_with (at_builtin; refine stopAt ?_)
        unfold Hid
        refine wpList_appR1 TSs (fun _ => rfl) (fun x u hu => by simp only [sC, List.mem_cons, List.not_mem_nil, or_false] at hu; rw [hu]; rfl) rfl (.tmp 19) (.tmp 22) rfl (f := sC) (B := W2.heap.size) (v := .slice Av q cv) (l := (l.stmts.take q).map showS) (c := showS l.stmts[q]) rfl rfl rfl HOV5.out HS5.out.size (by rw [hln]; simp only [maxLen]; omega) (by rw [hln]; have := HMA.out.2; omega) ?_
        intro v' w6 hO hS6
        have hO : OwnR sC 1 9 w6 W2.heap.size v' ((l.stmts.take (q + 1)).map showS) := by
          rw [List.take_add_one, List.getElem?_eq_getElem hql, List.map_append]
          exact hO
        obtain ⟨A9, c9, rfl, -, -⟩ := hO.form
        have hln9 : ((l.stmts.take (q + 1)).map showS).length = q + 1 := by rw [List.length_map, List.length_take]; omega
        rw [hln9] at hO ⊢
        have HO9 := Lib.hid hO
        have HS9 := Lib.hid (HS5.out.trans' hS6 fun i hi _ => hi)
        clear hO hS6 hln9
        go_wp2
        go_roundw
        case rel => exact ⟨q + 1, by go_num, by omega, HO9.out, HS9.out⟩
        case measure => simp [intOf]; omega
      · obtain rfl : q = l.stmts.length := by omega
        have HOV : Hid (OwnR sC 1 9 wr W2.heap.size (.slice Av l.stmts.length cv) (l.stmts.map showS)) := Lib.hid (by have := HOV.out; rw [List.take_length] at this; exact this)
        clear hln
        have hj : (joinT [59, 32] (l.stmts.map showS)).length ≤ 100000000000 := by
          have h1 := join_len [59, 32] 1999999999 (l.stmts.map showS) fun x hx => by
            obtain ⟨y, hy, rfl⟩ := List.mem_map.1 hx
            exact showS_len (HMA.out.1 y hy) (HLI.out.stmts y hy)
          rw [List.length_map] at h1
          have h2 : l.stmts.length * (1999999999 + [59, 32].length) ≤ 8 * (1999999999 + 2) := Nat.mul_le_mul HMA.out.2 (by simp)
          omega
        have HJ := Lib.hid hj
        clear hj hS
        go_wp2_with (go_at_call 26; refine stopAt ?_)
        unfold Hid
        refine (join_any [59, 32] (l.stmts.map showS) _ W2.heap.size wr HOV.out (by have := HMA.out.2; rw [List.length_map]; omega) HJ.out).mono ?_
        rintro e w5 ⟨rfl, hS⟩
        have c0 := hS.cell (p := ⟨w.heap.size, 0, none⟩) trivial c0
        have c1 := hS.cell (p := ⟨w.heap.size, 1, none⟩) trivial c1
        have HS := Lib.hid ((HS.out.trans HSq.out).trans hS)
        have HE := Lib.hid (HE2.out.keepAll hS)
        obtain ⟨T0, hT0⟩ : ∃ T, T = joinT [59, 32] (l.stmts.map showS) := ⟨_, rfl⟩
        rw [← hT0] at HJ ⊢
        have HT0 := Lib.hid hT0
        have HL0 := Lib.hid HJ.out
        clear hS hT0
        go_wp2_with (go_at_call 27; refine stopAt ?_)
        unfold Hid
        refine (fmt_any l.n _ HI64.out HE.out).mono ?_
        rintro e w8 ⟨rfl, hS⟩
        have c0 := hS.cell (p := ⟨w.heap.size, 0, none⟩) trivial c0
        have HS := Lib.hid (HS.out.trans hS)
        have hld := intL_len HI64.out
        obtain ⟨D, hD⟩ : ∃ D, D = intL l.n := ⟨_, rfl⟩
        rw [← hD] at hld ⊢
        have HD := Lib.hid hD
        have hl0 := HL0.out
        clear hS hD
        by_cases hk1 : l.mode = 1
        · have ek1 := int_eq_t hk1
          obtain ⟨Y1, hY1⟩ : ∃ Y, Y = [32, 65, 83, 32, 79, 70, 32, 83, 89, 83, 84, 69, 77, 32, 84, 73, 77, 69, 32] ++ D := ⟨_, rfl⟩
          obtain ⟨Y2, hY2⟩ : ∃ Y, Y = T0 ++ Y1 := ⟨_, rfl⟩
          have l1 : Y1.length = ([32, 65, 83, 32, 79, 70, 32, 83, 89, 83, 84, 69, 77, 32, 84, 73, 77, 69, 32] : List UInt8).length + D.length := by rw [hY1, List.length_append]
          simp only [List.length_cons, List.length_nil] at l1
          have a1 : ∀ w, (Op.stringOp .add ⟨#[32, 65, 83, 32, 79, 70, 32, 83, 89, 83, 84, 69, 77, 32, 84, 73, 77, 69, 32]⟩ (str D)).run Tryz.prog w = .ok (.string (str Y1)) w := fun w => hY1 ▸ add_str [32, 65, 83, 32, 79, 70, 32, 83, 89, 83, 84, 69, 77, 32, 84, 73, 77, 69, 32] D (by simp only [List.length_cons, List.length_nil]; omega) w
          have a2 : ∀ w, (Op.stringOp .add (str T0) (str Y1)).run Tryz.prog w = .ok (.string (str Y2)) w := fun w => hY2 ▸ add_str T0 Y1 (by omega) w
          have HT : Hid (Y2 = lotT l) := Lib.hid (by unfold lotT modeT; rw [hY2, hY1, HT0.out, HD.out, if_pos hk1])
          clear l1 hY1 hY2
          clear hk1 hl0 hld
          by_cases hlen : Y2.length ≤ 2000
          · have el : decide ((2000 : Int) < ((str Y2).size : Int)) = false := by rw [str_size]; exact decide_eq_false (by omega)
            have el2 : decide ((2000 : Int) < (Y2.length : Int)) = false := decide_eq_false (by omega)
            have HB : Hid (Y2 = X.1 ∧ 0 = X.2) := Lib.hid (by rw [HX.out]; unfold printF; rw [← HT.out, if_pos ⟨HMY.out, hlen⟩]; exact ⟨rfl, rfl⟩)
            clear hlen
            go_wp2
            go_ret2
            exact ⟨ret_pr HB.out.1 HB.out.2, HS.out⟩
          · have el : decide ((2000 : Int) < ((str Y2).size : Int)) = true := by rw [str_size]; exact decide_eq_true (by omega)
            have el2 : decide ((2000 : Int) < (Y2.length : Int)) = true := decide_eq_true (by omega)
            have HB : Hid ([] = X.1 ∧ 9 = X.2) := Lib.hid (by rw [HX.out]; unfold printF; rw [← HT.out, if_neg (fun h => hlen h.2)]; exact ⟨rfl, rfl⟩)
            clear hlen
            go_wp2
            go_ret2
            exact ⟨ret_pr HB.out.1 HB.out.2, HS.out⟩
        have ek1 := int_eq_f hk1
        by_cases hk2 : l.mode = 2
        · have ek2 := int_eq_t hk2
          obtain ⟨Y1, hY1⟩ : ∃ Y, Y = [32, 65, 83, 32, 79, 70, 32, 83, 89, 83, 84, 69, 77, 32, 84, 73, 77, 69, 32, 66, 79, 85, 78, 68, 32] ++ D := ⟨_, rfl⟩
          obtain ⟨Y2, hY2⟩ : ∃ Y, Y = T0 ++ Y1 := ⟨_, rfl⟩
          have l1 : Y1.length = ([32, 65, 83, 32, 79, 70, 32, 83, 89, 83, 84, 69, 77, 32, 84, 73, 77, 69, 32, 66, 79, 85, 78, 68, 32] : List UInt8).length + D.length := by rw [hY1, List.length_append]
          simp only [List.length_cons, List.length_nil] at l1
          have a1 : ∀ w, (Op.stringOp .add ⟨#[32, 65, 83, 32, 79, 70, 32, 83, 89, 83, 84, 69, 77, 32, 84, 73, 77, 69, 32, 66, 79, 85, 78, 68, 32]⟩ (str D)).run Tryz.prog w = .ok (.string (str Y1)) w := fun w => hY1 ▸ add_str [32, 65, 83, 32, 79, 70, 32, 83, 89, 83, 84, 69, 77, 32, 84, 73, 77, 69, 32, 66, 79, 85, 78, 68, 32] D (by simp only [List.length_cons, List.length_nil]; omega) w
          have a2 : ∀ w, (Op.stringOp .add (str T0) (str Y1)).run Tryz.prog w = .ok (.string (str Y2)) w := fun w => hY2 ▸ add_str T0 Y1 (by omega) w
          have HT : Hid (Y2 = lotT l) := Lib.hid (by unfold lotT modeT; rw [hY2, hY1, HT0.out, HD.out, if_neg hk1, if_pos hk2])
          clear l1 hY1 hY2
          clear hk1 hk2 hl0 hld
          by_cases hlen : Y2.length ≤ 2000
          · have el : decide ((2000 : Int) < ((str Y2).size : Int)) = false := by rw [str_size]; exact decide_eq_false (by omega)
            have el2 : decide ((2000 : Int) < (Y2.length : Int)) = false := decide_eq_false (by omega)
            have HB : Hid (Y2 = X.1 ∧ 0 = X.2) := Lib.hid (by rw [HX.out]; unfold printF; rw [← HT.out, if_pos ⟨HMY.out, hlen⟩]; exact ⟨rfl, rfl⟩)
            clear hlen
            go_wp2
            go_ret2
            exact ⟨ret_pr HB.out.1 HB.out.2, HS.out⟩
          · have el : decide ((2000 : Int) < ((str Y2).size : Int)) = true := by rw [str_size]; exact decide_eq_true (by omega)
            have el2 : decide ((2000 : Int) < (Y2.length : Int)) = true := decide_eq_true (by omega)
            have HB : Hid ([] = X.1 ∧ 9 = X.2) := Lib.hid (by rw [HX.out]; unfold printF; rw [← HT.out, if_neg (fun h => hlen h.2)]; exact ⟨rfl, rfl⟩)
            clear hlen
            go_wp2
            go_ret2
            exact ⟨ret_pr HB.out.1 HB.out.2, HS.out⟩
        have ek2 := int_eq_f hk2
        have HT : Hid (T0 = lotT l) := Lib.hid (by unfold lotT modeT; rw [HT0.out, if_neg hk1, if_neg hk2, List.append_nil])
        clear hk1 hk2 hl0 hld
        by_cases hlen : T0.length ≤ 2000
        · have el : decide ((2000 : Int) < ((str T0).size : Int)) = false := by rw [str_size]; exact decide_eq_false (by omega)
          have el2 : decide ((2000 : Int) < (T0.length : Int)) = false := decide_eq_false (by omega)
          have HB : Hid (T0 = X.1 ∧ 0 = X.2) := Lib.hid (by rw [HX.out]; unfold printF; rw [← HT.out, if_pos ⟨HMY.out, hlen⟩]; exact ⟨rfl, rfl⟩)
          clear hlen
          go_wp2
          go_ret2
          exact ⟨ret_pr HB.out.1 HB.out.2, HS.out⟩
        · have el : decide ((2000 : Int) < ((str T0).size : Int)) = true := by rw [str_size]; exact decide_eq_true (by omega)
          have el2 : decide ((2000 : Int) < (T0.length : Int)) = true := decide_eq_true (by omega)
          have HB : Hid ([] = X.1 ∧ 9 = X.2) := Lib.hid (by rw [HX.out]; unfold printF; rw [← HT.out, if_neg (fun h => hlen h.2)]; exact ⟨rfl, rfl⟩)
          clear hlen
          go_wp2
          go_ret2
          exact ⟨ret_pr HB.out.1 HB.out.2, HS.out⟩
end Go.Proofs.YtdfojghhpdkpfaaGreatDoor
