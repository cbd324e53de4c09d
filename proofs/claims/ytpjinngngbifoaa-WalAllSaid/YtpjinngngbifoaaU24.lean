/-
  Words, plain models, laws and walks that the claims of this layer share (joined by shake.py). No condition.
-/
import Derived.Laws.Concat
import Derived.Test.YtpjinngngbifoaaU1
import Derived.Test.YtpjinngngbifoaaU2
import Derived.Test.YtpjinngngbifoaaU3
import Derived.Test.YtpjinngngbifoaaU4
import Derived.Test.YtpjinngngbifoaaU5
import Derived.Test.YtpjinngngbifoaaU6
import Derived.Test.YtpjinngngbifoaaU7
import Derived.Test.YtpjinngngbifoaaU8
import Derived.Test.YtpjinngngbifoaaU9
import Derived.Test.YtpjinngngbifoaaU10
import Derived.Test.YtpjinngngbifoaaU11
import Derived.Test.YtpjinngngbifoaaU12
import Derived.Test.YtpjinngngbifoaaU13
import Derived.Test.YtpjinngngbifoaaU14
import Derived.Test.YtpjinngngbifoaaU15
import Derived.Test.YtpjinngngbifoaaU16
import Derived.Test.YtpjinngngbifoaaU17
import Derived.Test.YtpjinngngbifoaaU18
import Derived.Test.YtpjinngngbifoaaU19
import Derived.Test.YtpjinngngbifoaaU20
import Derived.Test.YtpjinngngbifoaaU21
import Derived.Test.YtpjinngngbifoaaU22
import Derived.Test.YtpjinngngbifoaaU23
set_option linter.unusedSimpArgs false
set_option linter.unusedVariables false
namespace Go.Proofs.Ytpjinngngbifoaa
open Go.RowKit
theorem add_R (rec : List UInt8) (h : rec.length ≤ 1000000) (w : World) : (Op.stringOp .add ⟨#[82]⟩ (str rec)).run Try.prog w = .ok (.string (str (82 :: rec))) w := by
  have e : str (82 :: rec) = (⟨#[82]⟩ : ByteArray) ++ str rec := by
    apply ByteArray.ext
    simp [str]
  rw [e]
  exact run_string_add_sum _ _ _ (by rw [str_size]; show 1 + rec.length ≤ _; omega)
/-- The slice of one record that a call is handed. -/
theorem rd_one (w : World) (rec : List UInt8) : RdS (w.alloc (.cells #[strV rec] 9)) (fun _ => True) (.slice (some ⟨w.heap.size, 0, none⟩) 1 1) [rec] :=
  ⟨_, _, rfl, by simp, by simp [maxLen], sl_one _ _ _ _ trivial⟩
set_option maxRecDepth 100000 in
set_option maxHeartbeats 2000000 in
theorem rwappend_any (x h B : Nat) (d : DiskM) (l : WalM) (recs : List (List UInt8)) (v : Value) (rec : List UInt8) (w : World) (H : RefWal w x h B l recs v) (hr : RefAt w h d) (hd : d.Fit) (hB : B ≤ w.heap.size)
    (hb : rec.length ≤ 19000) (hn : recs.length ≤ 100000) (hlen : (d.file l.f).b.length + (9 + rec.length) ≤ 4194304) :
    Calls Try.prog 52 #[ptr x, strV rec] w (XPost x h B v w (appendW d l rec).1 (appendW d l rec).2.1 (appendW d l rec).2.2 (if (appendW d l rec).1 = 0 then recs ++ [rec] else recs)) := by
  have hal : Same (fun _ => True) w (w.alloc (.cells #[strV rec] 9)) := (Same.refl _ _).alloc _
  have hmy := rwmay_any x h B (fun _ => True) d l recs [rec] v _ _ (H.keepAll hal) (hr.keep hal trivial) (rd_one w rec) (Lib.hid (by simpa using hb)) (by simp)
  have hne := Lib.hid (H.own_ne hr)
  have HR := Lib.hid hr
  have HH := Lib.hid H
  have HAL := Lib.hid hal
  obtain ⟨A, c, rfl, -, -⟩ := H.own.form
  unfold appendW
  clear H hr hal
  by_cases ho : l.over d = true
  · rw [if_pos ho] at hmy ⊢
    have HO := Lib.hid ho
    clear ho
    go_enter Try.func52, Try.ntmps52
    go_wp2_with (go_at_call 72; refine hmy.mono ?_; rintro e w1 ⟨rfl, hs1⟩)
    have hs1 := HAL.out.trans hs1
    go_ret
    refine ⟨rfl, ⟨_, by simpa using HH.out.keepAll hs1, NewOwn.refl _ _⟩, HR.out.keep hs1 trivial, hs1.mono fun _ _ _ => trivial⟩
  · rw [if_neg ho] at hmy ⊢
    have HO := Lib.hid ho
    clear ho
    obtain ⟨⟨y, d'⟩, hX⟩ : ∃ X, X = d.append l.f (recF (82 :: rec)) := ⟨_, rfl⟩
    rw [← hX]
    have HX := Lib.hid hX.symm
    clear hX
    dsimp only
    have hadd := add_R rec (by omega)
    by_cases hy : y = 0
    · subst hy
      rw [if_pos rfl, if_pos rfl]
      go_enter Try.func52, Try.ntmps52
      go_wp2_with (first | (go_at_call 72; refine hmy.mono ?_; rintro e w1 ⟨rfl, hs1⟩) | (with_reducible refine stopConv rfl ?_))
      unfold Hid
      refine wpList_bytes rfl rfl Try.underlying9 Try.underlying24 Try.underlying5 (str (82 :: rec)) rfl (by rw [str_size]; simp only [maxLen, List.length_cons]; omega) ?_
      intro w2 cc q more hrow hq hc hm hS2 hsz
      have hs2 : Same (fun _ => True) w w2 := (HAL.out.trans hs1).trans hS2
      have hbs : (str (82 :: rec)).size = (82 :: rec).length := str_size _
      rw [hbs] at hq hc ⊢
      have hby := hrow.by_ (bl_len (str (82 :: rec))) (by rw [hbs]; exact hc) hm
      rw [bl_str, hbs] at hby
      have hfp := rfput_any (.slice none 0 0) _ [] (82 :: rec) (fun _ => True) _ w2 ⟨none, 0, rfl, by simp, by simp [maxLen], Sl.nil _ _ _ _⟩ hby (by simp) (by simp; omega)
      rw [List.nil_append] at hfp
      clear hby hrow hmy hadd
      go_wp2_with (go_at_call 36; refine hfp.mono ?_; rintro e w3 ⟨u3, rfl, hb5, hs3⟩; obtain ⟨A5, n5, rfl, -, -⟩ := hb5.form)
      clear hfp
      have HS1 : Hid (Same (fun _ => True) w w3) := Lib.hid (hs2.trans hs3)
      have H1 := Lib.hid (HH.out.keepAll HS1.out)
      have HR1 := Lib.hid (HR.out.keep HS1.out trivial)
      have HB5 := Lib.hid hb5
      have c0 := H1.out.row.cell 0
      have c1 := H1.out.row.cell 1
      have hlt := H1.out.row.lt
      have hrl : (recF (82 :: rec)).length ≤ 20000 := by rw [recF_len]; simp; omega
      simp at c0 c1
      clear hs1 hs2 hS2 hs3 hb5 hsz hbs hq hc hm
      refine wp_region_tail_d (L := [.eq (ptr x), .eq (ptr x), .eq (ptr x), .eq (.pointer (some ⟨x, 0, none⟩)), .eq (ptr h), .eq (ptr x), .eq (ptr x), .eq (.pointer (some ⟨x, 1, none⟩)), .eq (.int .i64 l.f), .eq (.slice A5 (recF (82 :: rec)).length n5), .eq (.string (str (recF (82 :: rec))))]) 11 0 (by omega) (by kernel_rfl) (by kernel_rfl) rfl rfl rfl rfl rfl rfl ?_ ?_ ?_
      · refine ⟨?_, ?_, ?_, ?_, ?_, ?_, ?_, ?_, ?_, ?_, ?_, trivial⟩
        · intro ac wc hs hd hz hf hw K hK
          have e0 : ac.eval (.tmp 0) = (ptr x) := hf 0 rfl
          clear hd hz hf hw
          simp only [Region.wanted, if_true, Oper.wp, execOp, resolve, List.map_toArray, List.map_cons, List.map_nil, Option.map_some, Option.map_none, e0]
          go_simp
          exact hK _ _ rfl (Same.refl _ _)
        · intro ac wc hs hd hz hf hw K hK
          have e0 : ac.eval (.tmp 0) = (ptr x) := hf 0 rfl
          clear hd hz hf hw
          simp only [Region.wanted, if_true, Oper.wp, execOp, resolve, List.map_toArray, List.map_cons, List.map_nil, Option.map_some, Option.map_none, e0]
          go_simp
          exact hK _ _ rfl (Same.refl _ _)
        · intro ac wc hs hd hz hf hw K hK
          have e0 : ac.eval (.tmp 23) = (ptr x) := hw 1 rfl
          clear hd hz hf hw
          simp only [Region.wanted, if_true, Oper.wp, execOp, resolve, List.map_toArray, List.map_cons, List.map_nil, Option.map_some, Option.map_none, e0]
          go_simp
          exact hK _ _ rfl (Same.refl _ _)
        · intro ac wc hs hd hz hf hw K hK
          have e0 : ac.eval (.tmp 24) = (ptr x) := hw 2 rfl
          clear hd hz hf hw
          simp only [Region.wanted, if_true, Oper.wp, execOp, resolve, List.map_toArray, List.map_cons, List.map_nil, Option.map_some, Option.map_none, e0]
          go_simp
          exact hK _ _ rfl (Same.refl _ _)
        · intro ac wc hs hd hz hf hw K hK
          have e0 : ac.eval (.tmp 25) = (.pointer (some ⟨x, 0, none⟩)) := hw 3 rfl
          have m0 : wc.cell? ⟨x, 0, none⟩ = some (ptr h) := hs.cell (p := ⟨x, 0, none⟩) trivial c0
          clear hd hz hf hw
          simp only [Region.wanted, if_true, Oper.wp, execOp, resolve, List.map_toArray, List.map_cons, List.map_nil, Option.map_some, Option.map_none, e0]
          go_simp
          exact hK _ _ rfl (Same.refl _ _)
        · intro ac wc hs hd hz hf hw K hK
          have e0 : ac.eval (.tmp 0) = (ptr x) := hf 0 rfl
          clear hd hz hf hw
          simp only [Region.wanted, if_true, Oper.wp, execOp, resolve, List.map_toArray, List.map_cons, List.map_nil, Option.map_some, Option.map_none, e0]
          go_simp
          exact hK _ _ rfl (Same.refl _ _)
        · intro ac wc hs hd hz hf hw K hK
          have e0 : ac.eval (.tmp 27) = (ptr x) := hw 5 rfl
          clear hd hz hf hw
          simp only [Region.wanted, if_true, Oper.wp, execOp, resolve, List.map_toArray, List.map_cons, List.map_nil, Option.map_some, Option.map_none, e0]
          go_simp
          exact hK _ _ rfl (Same.refl _ _)
        · intro ac wc hs hd hz hf hw K hK
          have e0 : ac.eval (.tmp 28) = (ptr x) := hw 6 rfl
          clear hd hz hf hw
          simp only [Region.wanted, if_true, Oper.wp, execOp, resolve, List.map_toArray, List.map_cons, List.map_nil, Option.map_some, Option.map_none, e0]
          go_simp
          exact hK _ _ rfl (Same.refl _ _)
        · intro ac wc hs hd hz hf hw K hK
          have e0 : ac.eval (.tmp 29) = (.pointer (some ⟨x, 1, none⟩)) := hw 7 rfl
          have m0 : wc.cell? ⟨x, 1, none⟩ = some (.int .i64 l.f) := hs.cell (p := ⟨x, 1, none⟩) trivial c1
          clear hd hz hf hw
          simp only [Region.wanted, if_true, Oper.wp, execOp, resolve, List.map_toArray, List.map_cons, List.map_nil, Option.map_some, Option.map_none, e0]
          go_simp
          exact hK _ _ rfl (Same.refl _ _)
        · intro ac wc hs hd hz hf hw K hK
          have e0 : ac.eval (.tmp 6) = (.slice A5 (recF (82 :: rec)).length n5) := hf 6 rfl
          clear hd hz hf hw
          simp only [Region.wanted, if_true, Oper.wp, execOp, resolve, List.map_toArray, List.map_cons, List.map_nil, Option.map_some, Option.map_none, e0]
          go_simp
          exact hK _ _ rfl (Same.refl _ _)
        · intro ac wc hs hd hz hf hw K hK
          have e0 : ac.eval (.tmp 31) = (.slice A5 (recF (82 :: rec)).length n5) := hw 9 rfl
          have hcv := ((HB5.out.by_).keepAll hs).conv (P := Try.prog) 24 9 5 Try.underlying24 Try.underlying5 Try.underlying9
          clear hd hz hf hw
          simp only [Region.wanted, if_true, Oper.wp, execOp, resolve, List.map_toArray, List.map_cons, List.map_nil, Option.map_some, Option.map_none, e0]
          go_simp
          exact hK _ _ rfl (Same.refl _ _)
      · intro vs wR hvl hvp hsR
        rcases vs with _ | ⟨z0, _ | ⟨z1, _ | ⟨z2, _ | ⟨z3, _ | ⟨z4, _ | ⟨z5, _ | ⟨z6, _ | ⟨z7, _ | ⟨z8, _ | ⟨z9, _ | ⟨z10, _ | ⟨zz, zr⟩⟩⟩⟩⟩⟩⟩⟩⟩⟩⟩⟩
        rotate_right 1
        · simp at hvl
        · simp at hvl
        · simp at hvl
        · simp at hvl
        · simp at hvl
        · simp at hvl
        · simp at hvl
        · simp at hvl
        · simp at hvl
        · simp at hvl
        · simp at hvl
        · simp at hvl
        · obtain rfl : z0 = (ptr x) := hvp 0 (by omega)
          obtain rfl : z1 = (ptr x) := hvp 1 (by omega)
          obtain rfl : z2 = (ptr x) := hvp 2 (by omega)
          obtain rfl : z3 = (.pointer (some ⟨x, 0, none⟩)) := hvp 3 (by omega)
          obtain rfl : z4 = (ptr h) := hvp 4 (by omega)
          obtain rfl : z5 = (ptr x) := hvp 5 (by omega)
          obtain rfl : z6 = (ptr x) := hvp 6 (by omega)
          obtain rfl : z7 = (.pointer (some ⟨x, 1, none⟩)) := hvp 7 (by omega)
          obtain rfl : z8 = (.int .i64 l.f) := hvp 8 (by omega)
          obtain rfl : z9 = (.slice A5 (recF (82 :: rec)).length n5) := hvp 9 (by omega)
          obtain rfl : z10 = (.string (str (recF (82 :: rec)))) := hvp 10 (by omega)
          clear hvl hvp
          simp only [putAll, Act.put, List.setIfInBounds_toArray, List.set_cons_succ, List.set_cons_zero, List.take_succ_cons, List.take_zero, List.drop_succ_cons, List.drop_zero, List.eraseIdx_cons_succ, List.eraseIdx_cons_zero]
          go_wp2_with (go_at_call 50; refine stopAt ?_)
          unfold Hid
          have happ := rappend_any h d l.f (recF (82 :: rec)) wR (HR1.out.keep hsR trivial) hd (by rw [recF_len]; simp only [List.length_cons]; omega)
          rw [HX.out] at happ
          refine happ.mono ?_
          rintro e wa ⟨rfl, hda, hsA⟩
          clear happ
          have hwa : RefWal wa x h B l recs (.slice A recs.length c) := (H1.out.keepAll hsR).keep hsA H1.out.xh (fun k hk e => by subst e; exact hne.out.2 hk)
          go_wp2_with (go_at_call 73; refine stopAt ?_)
          unfold Hid
          refine (rfails_any x h B l recs _ _ wa hwa).mono ?_
          rintro e wb ⟨rfl, hwb, hsB⟩
          obtain ⟨hdb, hS⟩ := (H1.out.keepAll hsR).after hda hsA hwb hsB
          have HS9 : Hid (Same (Rx x h (.slice A recs.length c)) w wb) := Lib.hid (((HS1.out.trans hsR).mono fun _ _ _ => trivial).trans hS)
          rw [WalM.fails0] at hwb
          have HW := Lib.hid hwb
          have HD := Lib.hid hdb
          clear hwa hwb hdb hS hda hsA hsB c0 c1 hlt
          have c3 := HW.out.row.cell 3
          have z3 := HW.out.row.frozen 3
          have hlt := HW.out.row.lt
          simp at c3
          go_wp2_with (at_builtin; refine stopAt ?_)
          unfold Hid
          have hsC : Same (fun _ => True) wb (wb.alloc (.cells #[strV rec] 9)) := (Same.refl _ _).alloc _
          have hown := HW.out.own.keepAll hsC
          refine wpList_app TSt _ rfl (.tmp 41) (.tmp 43) rfl B _ recs.length (recs.map strV) rfl hown (fun _ => True) (some ⟨wb.heap.size, 0, none⟩) 1 1 [strV rec] rfl (sl_one _ _ _ _ trivial) (by simp [Value.oneCell']) (by simp only [maxLen]; omega) (by omega) (by have := HS9.out.size; simp; omega) ?_
          intro v3 w3 hown3 hs3 hb3
          obtain ⟨A3, c3', rfl, -, -⟩ := own_cap hown3
          have hW3 : Row w3 x 93 [ptr h, .int .i64 l.f, .int .u64 l.gen, .slice A recs.length c, .int .i64 l.lives, .bool l.done] := (HW.out.row.keep hsC trivial).keep hs3 (fun e => hne.out.1 e.symm)
          have hD3 := (HD.out.keep hsC trivial).keep hs3 (fun e => hne.out.2 e.symm)
          have HO3 : Hid (OwnS w3 B (.slice A3 (recs.length + 1) c3') (recs ++ [rec])) := Lib.hid (by
            unfold OwnS
            rw [List.map_append, List.length_append]
            exact hown3)
          have HW3 := Lib.hid hW3
          have z3 := hW3.frozen 3
          have hlt := hW3.lt
          clear c3
          have c3 := hW3.cell 3
          simp at c3
          clear hW3 hown hown3
          go_wp2
          go_ret
          have hs4 : Same (fun k => k ≠ x) w3 (w3.setCell ⟨x, 3, none⟩ (.slice A3 (recs.length + 1) c3')) := (Same.refl _ _).setCell (fun _ h => h rfl) _
          have hzz := HS9.out.size
          have hall := ((HS9.out.trans (hsC.mono fun _ _ _ => trivial)).trans (hs3.mono fun k _ hk => hk.2.2)).trans (hs4.mono fun k _ hk => hk.1)
          refine ⟨rfl, ⟨_, ⟨HW3.out.set_ 3 _, own_keep HO3.out hs4 (fun k hk e => ?_), HH.out.xh⟩, fun k hk => ?_⟩, hD3.keep hs4 HH.out.xh.symm, hall⟩
          · subst e
            rcases hb3 with q | q
            · rw [q] at hk; exact hne.out.1 hk
            · rw [q] at hk; injection hk with hk; simp at hk; have := HW.out.row.lt; omega
          · rcases hb3 with q | q
            · rw [q] at hk; exact Or.inl hk
            · rw [q] at hk; injection hk with hk; simp at hk; exact Or.inr (by omega)
      · intro vs wR hvl hvp hsR
        rcases vs with _ | ⟨z1, _ | ⟨z2, _ | ⟨z3, _ | ⟨z4, _ | ⟨z5, _ | ⟨z6, _ | ⟨z7, _ | ⟨z8, _ | ⟨z9, _ | ⟨z10, _ | ⟨zz, zr⟩⟩⟩⟩⟩⟩⟩⟩⟩⟩⟩
        rotate_right 1
        · simp at hvl
        · simp at hvl
        · simp at hvl
        · simp at hvl
        · simp at hvl
        · simp at hvl
        · simp at hvl
        · simp at hvl
        · simp at hvl
        · simp at hvl
        · simp at hvl
        · obtain rfl : z1 = (ptr x) := hvp 0 (by omega)
          obtain rfl : z2 = (ptr x) := hvp 1 (by omega)
          obtain rfl : z3 = (.pointer (some ⟨x, 0, none⟩)) := hvp 2 (by omega)
          obtain rfl : z4 = (ptr h) := hvp 3 (by omega)
          obtain rfl : z5 = (ptr x) := hvp 4 (by omega)
          obtain rfl : z6 = (ptr x) := hvp 5 (by omega)
          obtain rfl : z7 = (.pointer (some ⟨x, 1, none⟩)) := hvp 6 (by omega)
          obtain rfl : z8 = (.int .i64 l.f) := hvp 7 (by omega)
          obtain rfl : z9 = (.slice A5 (recF (82 :: rec)).length n5) := hvp 8 (by omega)
          obtain rfl : z10 = (.string (str (recF (82 :: rec)))) := hvp 9 (by omega)
          clear hvl hvp
          simp only [putAll, Act.put, List.setIfInBounds_toArray, List.set_cons_succ, List.set_cons_zero, List.take_succ_cons, List.take_zero, List.drop_succ_cons, List.drop_zero, List.eraseIdx_cons_succ, List.eraseIdx_cons_zero]
          go_wp2_with (go_at_call 50; refine stopAt ?_)
          unfold Hid
          have happ := rappend_any h d l.f (recF (82 :: rec)) wR (HR1.out.keep hsR trivial) hd (by rw [recF_len]; simp only [List.length_cons]; omega)
          rw [HX.out] at happ
          refine happ.mono ?_
          rintro e wa ⟨rfl, hda, hsA⟩
          clear happ
          have hwa : RefWal wa x h B l recs (.slice A recs.length c) := (H1.out.keepAll hsR).keep hsA H1.out.xh (fun k hk e => by subst e; exact hne.out.2 hk)
          go_wp2_with (go_at_call 73; refine stopAt ?_)
          unfold Hid
          refine (rfails_any x h B l recs _ _ wa hwa).mono ?_
          rintro e wb ⟨rfl, hwb, hsB⟩
          obtain ⟨hdb, hS⟩ := (H1.out.keepAll hsR).after hda hsA hwb hsB
          have HS9 : Hid (Same (Rx x h (.slice A recs.length c)) w wb) := Lib.hid (((HS1.out.trans hsR).mono fun _ _ _ => trivial).trans hS)
          rw [WalM.fails0] at hwb
          have HW := Lib.hid hwb
          have HD := Lib.hid hdb
          clear hwa hwb hdb hS hda hsA hsB c0 c1 hlt
          have c3 := HW.out.row.cell 3
          have z3 := HW.out.row.frozen 3
          have hlt := HW.out.row.lt
          simp at c3
          go_wp2_with (at_builtin; refine stopAt ?_)
          unfold Hid
          have hsC : Same (fun _ => True) wb (wb.alloc (.cells #[strV rec] 9)) := (Same.refl _ _).alloc _
          have hown := HW.out.own.keepAll hsC
          refine wpList_app TSt _ rfl (.tmp 41) (.tmp 43) rfl B _ recs.length (recs.map strV) rfl hown (fun _ => True) (some ⟨wb.heap.size, 0, none⟩) 1 1 [strV rec] rfl (sl_one _ _ _ _ trivial) (by simp [Value.oneCell']) (by simp only [maxLen]; omega) (by omega) (by have := HS9.out.size; simp; omega) ?_
          intro v3 w3 hown3 hs3 hb3
          obtain ⟨A3, c3', rfl, -, -⟩ := own_cap hown3
          have hW3 : Row w3 x 93 [ptr h, .int .i64 l.f, .int .u64 l.gen, .slice A recs.length c, .int .i64 l.lives, .bool l.done] := (HW.out.row.keep hsC trivial).keep hs3 (fun e => hne.out.1 e.symm)
          have hD3 := (HD.out.keep hsC trivial).keep hs3 (fun e => hne.out.2 e.symm)
          have HO3 : Hid (OwnS w3 B (.slice A3 (recs.length + 1) c3') (recs ++ [rec])) := Lib.hid (by
            unfold OwnS
            rw [List.map_append, List.length_append]
            exact hown3)
          have HW3 := Lib.hid hW3
          have z3 := hW3.frozen 3
          have hlt := hW3.lt
          clear c3
          have c3 := hW3.cell 3
          simp at c3
          clear hW3 hown hown3
          go_wp2
          go_ret
          have hs4 : Same (fun k => k ≠ x) w3 (w3.setCell ⟨x, 3, none⟩ (.slice A3 (recs.length + 1) c3')) := (Same.refl _ _).setCell (fun _ h => h rfl) _
          have hzz := HS9.out.size
          have hall := ((HS9.out.trans (hsC.mono fun _ _ _ => trivial)).trans (hs3.mono fun k _ hk => hk.2.2)).trans (hs4.mono fun k _ hk => hk.1)
          refine ⟨rfl, ⟨_, ⟨HW3.out.set_ 3 _, own_keep HO3.out hs4 (fun k hk e => ?_), HH.out.xh⟩, fun k hk => ?_⟩, hD3.keep hs4 HH.out.xh.symm, hall⟩
          · subst e
            rcases hb3 with q | q
            · rw [q] at hk; exact hne.out.1 hk
            · rw [q] at hk; injection hk with hk; simp at hk; have := HW.out.row.lt; omega
          · rcases hb3 with q | q
            · rw [q] at hk; exact Or.inl hk
            · rw [q] at hk; injection hk with hk; simp at hk; exact Or.inr (by omega)
    · rw [if_neg hy, if_neg hy]
      go_enter Try.func52, Try.ntmps52
      go_wp2_with (first | (go_at_call 72; refine hmy.mono ?_; rintro e w1 ⟨rfl, hs1⟩) | (with_reducible refine stopConv rfl ?_))
      unfold Hid
      refine wpList_bytes rfl rfl Try.underlying9 Try.underlying24 Try.underlying5 (str (82 :: rec)) rfl (by rw [str_size]; simp only [maxLen, List.length_cons]; omega) ?_
      intro w2 cc q more hrow hq hc hm hS2 hsz
      have hs2 : Same (fun _ => True) w w2 := (HAL.out.trans hs1).trans hS2
      have hbs : (str (82 :: rec)).size = (82 :: rec).length := str_size _
      rw [hbs] at hq hc ⊢
      have hby := hrow.by_ (bl_len (str (82 :: rec))) (by rw [hbs]; exact hc) hm
      rw [bl_str, hbs] at hby
      have hfp := rfput_any (.slice none 0 0) _ [] (82 :: rec) (fun _ => True) _ w2 ⟨none, 0, rfl, by simp, by simp [maxLen], Sl.nil _ _ _ _⟩ hby (by simp) (by simp; omega)
      rw [List.nil_append] at hfp
      clear hby hrow hmy hadd
      go_wp2_with (go_at_call 36; refine hfp.mono ?_; rintro e w3 ⟨u3, rfl, hb5, hs3⟩; obtain ⟨A5, n5, rfl, -, -⟩ := hb5.form)
      clear hfp
      have HS1 : Hid (Same (fun _ => True) w w3) := Lib.hid (hs2.trans hs3)
      have H1 := Lib.hid (HH.out.keepAll HS1.out)
      have HR1 := Lib.hid (HR.out.keep HS1.out trivial)
      have HB5 := Lib.hid hb5
      have c0 := H1.out.row.cell 0
      have c1 := H1.out.row.cell 1
      have hlt := H1.out.row.lt
      have hrl : (recF (82 :: rec)).length ≤ 20000 := by rw [recF_len]; simp; omega
      simp at c0 c1
      clear hs1 hs2 hS2 hs3 hb5 hsz hbs hq hc hm
      refine wp_region_tail_d (L := [.eq (ptr x), .eq (ptr x), .eq (ptr x), .eq (.pointer (some ⟨x, 0, none⟩)), .eq (ptr h), .eq (ptr x), .eq (ptr x), .eq (.pointer (some ⟨x, 1, none⟩)), .eq (.int .i64 l.f), .eq (.slice A5 (recF (82 :: rec)).length n5), .eq (.string (str (recF (82 :: rec))))]) 11 0 (by omega) (by kernel_rfl) (by kernel_rfl) rfl rfl rfl rfl rfl rfl ?_ ?_ ?_
      · refine ⟨?_, ?_, ?_, ?_, ?_, ?_, ?_, ?_, ?_, ?_, ?_, trivial⟩
        · intro ac wc hs hd hz hf hw K hK
          have e0 : ac.eval (.tmp 0) = (ptr x) := hf 0 rfl
          clear hd hz hf hw
          simp only [Region.wanted, if_true, Oper.wp, execOp, resolve, List.map_toArray, List.map_cons, List.map_nil, Option.map_some, Option.map_none, e0]
          go_simp
          exact hK _ _ rfl (Same.refl _ _)
        · intro ac wc hs hd hz hf hw K hK
          have e0 : ac.eval (.tmp 0) = (ptr x) := hf 0 rfl
          clear hd hz hf hw
          simp only [Region.wanted, if_true, Oper.wp, execOp, resolve, List.map_toArray, List.map_cons, List.map_nil, Option.map_some, Option.map_none, e0]
          go_simp
          exact hK _ _ rfl (Same.refl _ _)
        · intro ac wc hs hd hz hf hw K hK
          have e0 : ac.eval (.tmp 23) = (ptr x) := hw 1 rfl
          clear hd hz hf hw
          simp only [Region.wanted, if_true, Oper.wp, execOp, resolve, List.map_toArray, List.map_cons, List.map_nil, Option.map_some, Option.map_none, e0]
          go_simp
          exact hK _ _ rfl (Same.refl _ _)
        · intro ac wc hs hd hz hf hw K hK
          have e0 : ac.eval (.tmp 24) = (ptr x) := hw 2 rfl
          clear hd hz hf hw
          simp only [Region.wanted, if_true, Oper.wp, execOp, resolve, List.map_toArray, List.map_cons, List.map_nil, Option.map_some, Option.map_none, e0]
          go_simp
          exact hK _ _ rfl (Same.refl _ _)
        · intro ac wc hs hd hz hf hw K hK
          have e0 : ac.eval (.tmp 25) = (.pointer (some ⟨x, 0, none⟩)) := hw 3 rfl
          have m0 : wc.cell? ⟨x, 0, none⟩ = some (ptr h) := hs.cell (p := ⟨x, 0, none⟩) trivial c0
          clear hd hz hf hw
          simp only [Region.wanted, if_true, Oper.wp, execOp, resolve, List.map_toArray, List.map_cons, List.map_nil, Option.map_some, Option.map_none, e0]
          go_simp
          exact hK _ _ rfl (Same.refl _ _)
        · intro ac wc hs hd hz hf hw K hK
          have e0 : ac.eval (.tmp 0) = (ptr x) := hf 0 rfl
          clear hd hz hf hw
          simp only [Region.wanted, if_true, Oper.wp, execOp, resolve, List.map_toArray, List.map_cons, List.map_nil, Option.map_some, Option.map_none, e0]
          go_simp
          exact hK _ _ rfl (Same.refl _ _)
        · intro ac wc hs hd hz hf hw K hK
          have e0 : ac.eval (.tmp 27) = (ptr x) := hw 5 rfl
          clear hd hz hf hw
          simp only [Region.wanted, if_true, Oper.wp, execOp, resolve, List.map_toArray, List.map_cons, List.map_nil, Option.map_some, Option.map_none, e0]
          go_simp
          exact hK _ _ rfl (Same.refl _ _)
        · intro ac wc hs hd hz hf hw K hK
          have e0 : ac.eval (.tmp 28) = (ptr x) := hw 6 rfl
          clear hd hz hf hw
          simp only [Region.wanted, if_true, Oper.wp, execOp, resolve, List.map_toArray, List.map_cons, List.map_nil, Option.map_some, Option.map_none, e0]
          go_simp
          exact hK _ _ rfl (Same.refl _ _)
        · intro ac wc hs hd hz hf hw K hK
          have e0 : ac.eval (.tmp 29) = (.pointer (some ⟨x, 1, none⟩)) := hw 7 rfl
          have m0 : wc.cell? ⟨x, 1, none⟩ = some (.int .i64 l.f) := hs.cell (p := ⟨x, 1, none⟩) trivial c1
          clear hd hz hf hw
          simp only [Region.wanted, if_true, Oper.wp, execOp, resolve, List.map_toArray, List.map_cons, List.map_nil, Option.map_some, Option.map_none, e0]
          go_simp
          exact hK _ _ rfl (Same.refl _ _)
        · intro ac wc hs hd hz hf hw K hK
          have e0 : ac.eval (.tmp 6) = (.slice A5 (recF (82 :: rec)).length n5) := hf 6 rfl
          clear hd hz hf hw
          simp only [Region.wanted, if_true, Oper.wp, execOp, resolve, List.map_toArray, List.map_cons, List.map_nil, Option.map_some, Option.map_none, e0]
          go_simp
          exact hK _ _ rfl (Same.refl _ _)
        · intro ac wc hs hd hz hf hw K hK
          have e0 : ac.eval (.tmp 31) = (.slice A5 (recF (82 :: rec)).length n5) := hw 9 rfl
          have hcv := ((HB5.out.by_).keepAll hs).conv (P := Try.prog) 24 9 5 Try.underlying24 Try.underlying5 Try.underlying9
          clear hd hz hf hw
          simp only [Region.wanted, if_true, Oper.wp, execOp, resolve, List.map_toArray, List.map_cons, List.map_nil, Option.map_some, Option.map_none, e0]
          go_simp
          exact hK _ _ rfl (Same.refl _ _)
      · intro vs wR hvl hvp hsR
        rcases vs with _ | ⟨z0, _ | ⟨z1, _ | ⟨z2, _ | ⟨z3, _ | ⟨z4, _ | ⟨z5, _ | ⟨z6, _ | ⟨z7, _ | ⟨z8, _ | ⟨z9, _ | ⟨z10, _ | ⟨zz, zr⟩⟩⟩⟩⟩⟩⟩⟩⟩⟩⟩⟩
        rotate_right 1
        · simp at hvl
        · simp at hvl
        · simp at hvl
        · simp at hvl
        · simp at hvl
        · simp at hvl
        · simp at hvl
        · simp at hvl
        · simp at hvl
        · simp at hvl
        · simp at hvl
        · simp at hvl
        · obtain rfl : z0 = (ptr x) := hvp 0 (by omega)
          obtain rfl : z1 = (ptr x) := hvp 1 (by omega)
          obtain rfl : z2 = (ptr x) := hvp 2 (by omega)
          obtain rfl : z3 = (.pointer (some ⟨x, 0, none⟩)) := hvp 3 (by omega)
          obtain rfl : z4 = (ptr h) := hvp 4 (by omega)
          obtain rfl : z5 = (ptr x) := hvp 5 (by omega)
          obtain rfl : z6 = (ptr x) := hvp 6 (by omega)
          obtain rfl : z7 = (.pointer (some ⟨x, 1, none⟩)) := hvp 7 (by omega)
          obtain rfl : z8 = (.int .i64 l.f) := hvp 8 (by omega)
          obtain rfl : z9 = (.slice A5 (recF (82 :: rec)).length n5) := hvp 9 (by omega)
          obtain rfl : z10 = (.string (str (recF (82 :: rec)))) := hvp 10 (by omega)
          clear hvl hvp
          simp only [putAll, Act.put, List.setIfInBounds_toArray, List.set_cons_succ, List.set_cons_zero, List.take_succ_cons, List.take_zero, List.drop_succ_cons, List.drop_zero, List.eraseIdx_cons_succ, List.eraseIdx_cons_zero]
          go_wp2_with (go_at_call 50; refine stopAt ?_)
          unfold Hid
          have happ := rappend_any h d l.f (recF (82 :: rec)) wR (HR1.out.keep hsR trivial) hd (by rw [recF_len]; simp only [List.length_cons]; omega)
          rw [HX.out] at happ
          refine happ.mono ?_
          rintro e wa ⟨rfl, hda, hsA⟩
          clear happ
          have hwa : RefWal wa x h B l recs (.slice A recs.length c) := (H1.out.keepAll hsR).keep hsA H1.out.xh (fun k hk e => by subst e; exact hne.out.2 hk)
          go_wp2_with (go_at_call 73; refine stopAt ?_)
          unfold Hid
          refine (rfails_any x h B l recs _ _ wa hwa).mono ?_
          rintro e wb ⟨rfl, hwb, hsB⟩
          obtain ⟨hdb, hS⟩ := (H1.out.keepAll hsR).after hda hsA hwb hsB
          have HS9 : Hid (Same (Rx x h (.slice A recs.length c)) w wb) := Lib.hid (((HS1.out.trans hsR).mono fun _ _ _ => trivial).trans hS)
          go_wp2
          go_ret
          exact ⟨rfl, ⟨_, hwb, NewOwn.refl _ _⟩, hdb, HS9.out⟩
      · intro vs wR hvl hvp hsR
        rcases vs with _ | ⟨z1, _ | ⟨z2, _ | ⟨z3, _ | ⟨z4, _ | ⟨z5, _ | ⟨z6, _ | ⟨z7, _ | ⟨z8, _ | ⟨z9, _ | ⟨z10, _ | ⟨zz, zr⟩⟩⟩⟩⟩⟩⟩⟩⟩⟩⟩
        rotate_right 1
        · simp at hvl
        · simp at hvl
        · simp at hvl
        · simp at hvl
        · simp at hvl
        · simp at hvl
        · simp at hvl
        · simp at hvl
        · simp at hvl
        · simp at hvl
        · simp at hvl
        · obtain rfl : z1 = (ptr x) := hvp 0 (by omega)
          obtain rfl : z2 = (ptr x) := hvp 1 (by omega)
          obtain rfl : z3 = (.pointer (some ⟨x, 0, none⟩)) := hvp 2 (by omega)
          obtain rfl : z4 = (ptr h) := hvp 3 (by omega)
          obtain rfl : z5 = (ptr x) := hvp 4 (by omega)
          obtain rfl : z6 = (ptr x) := hvp 5 (by omega)
          obtain rfl : z7 = (.pointer (some ⟨x, 1, none⟩)) := hvp 6 (by omega)
          obtain rfl : z8 = (.int .i64 l.f) := hvp 7 (by omega)
          obtain rfl : z9 = (.slice A5 (recF (82 :: rec)).length n5) := hvp 8 (by omega)
          obtain rfl : z10 = (.string (str (recF (82 :: rec)))) := hvp 9 (by omega)
          clear hvl hvp
          simp only [putAll, Act.put, List.setIfInBounds_toArray, List.set_cons_succ, List.set_cons_zero, List.take_succ_cons, List.take_zero, List.drop_succ_cons, List.drop_zero, List.eraseIdx_cons_succ, List.eraseIdx_cons_zero]
          go_wp2_with (go_at_call 50; refine stopAt ?_)
          unfold Hid
          have happ := rappend_any h d l.f (recF (82 :: rec)) wR (HR1.out.keep hsR trivial) hd (by rw [recF_len]; simp only [List.length_cons]; omega)
          rw [HX.out] at happ
          refine happ.mono ?_
          rintro e wa ⟨rfl, hda, hsA⟩
          clear happ
          have hwa : RefWal wa x h B l recs (.slice A recs.length c) := (H1.out.keepAll hsR).keep hsA H1.out.xh (fun k hk e => by subst e; exact hne.out.2 hk)
          go_wp2_with (go_at_call 73; refine stopAt ?_)
          unfold Hid
          refine (rfails_any x h B l recs _ _ wa hwa).mono ?_
          rintro e wb ⟨rfl, hwb, hsB⟩
          obtain ⟨hdb, hS⟩ := (H1.out.keepAll hsR).after hda hsA hwb hsB
          have HS9 : Hid (Same (Rx x h (.slice A recs.length c)) w wb) := Lib.hid (((HS1.out.trans hsR).mono fun _ _ _ => trivial).trans hS)
          go_wp2
          go_ret
          exact ⟨rfl, ⟨_, hwb, NewOwn.refl _ _⟩, hdb, HS9.out⟩
end Go.Proofs.Ytpjinngngbifoaa
