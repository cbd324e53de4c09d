/-
  Words, plain models, laws and walks that the claims of this layer share (joined by shake.py). No condition.
-/
import Derived.WalkKit
import Derived.WalkSpells
import Derived.WalkLawsBesides
import Derived.ProofKit
import Derived.OpenShut
import Derived.ChangeOld
import Derived.Below
import Derived.Carry
import Derived.Deep.Slices
import Derived.Maps.AppendAt
import Derived.Deep.AppendLies
import Derived.RegionTactic
import Derived.OwnWalk
import Derived.Lib.Hide
import Derived.Laws.CopyOwn
import Derived.Laws.BytesArg
import Derived.Lib.IndexMore
import Derived.Laws.IdiomStrings
import Derived.Test.YtdfojghhpdkpfaaGreatDoorRows
import Derived.Outline
import Derived.Deep.QuietTactic
import Derived.BigQuiet
import Derived.Shelf.Strings.Builder1
import Derived.Shelf.Strings.Builder2
import Derived.Shelf.Strings.OnBuilder
import Derived.Shelf.Strings.BuilderF
import Derived.Shelf.Strings.BuilderK
import Derived.Shelf.Utf8.RuneCount
import Derived.Shelf.Strings.Builder2Cap
import Derived.Shelf.Strconv.Itoa0
import Derived.Shelf.Strconv.Itoa1
import Derived.Shelf.LaysM
import Derived.Shelf.Strconv.Itoa2
import Derived.Shelf.Strconv.Itoa3
import Derived.Shelf.Strconv.Itoa4
import Derived.Shelf.Strings.Search1
import Derived.Shelf.Strings.Search2
import Derived.Shelf.Strings.Search3
import Derived.Shelf.Strings.Count
import Derived.Shelf.Strings.Shaped
import Derived.Shelf.Strings.Split
import Derived.Shelf.Strings.Replace
import Derived.Shelf.Strings.SplitShaped
import Derived.Shelf.Unicode.Decode
import Derived.Shelf.Strings.RuneCount
import Derived.Shelf.Unicode.DecodeSlow
import Derived.Shelf.Unicode.DecodeAny
import Derived.Shelf.Strings.BuilderCap
import Derived.Test.YtdfojghhpdkpfaaGreatDoorProg
import Derived.Orders
import Derived.StillTail
import Derived.Laws.StructEq
import Derived.Deep.CutRange
import Derived.Lib.AppendIntMem
import Derived.Deep.CutBlock
import Derived.Recover
import Derived.HandedShaped
import Derived.ChangeMaps5
import Derived.Lay
import Derived.Lib.LaidU8
import Derived.Lib.LaidTab
import Derived.Test.YtdfojghhpdkpfaaGreatDoorC1
import Derived.Test.YtdfojghhpdkpfaaGreatDoorB2
import Derived.Test.YtdfojghhpdkpfaaGreatDoorB1
import Derived.Test.YtdfojghhpdkpfaaGreatDoorA9
import Derived.Test.YtdfojghhpdkpfaaGreatDoorA8
import Derived.Test.YtdfojghhpdkpfaaGreatDoorA7
import Derived.Test.YtdfojghhpdkpfaaGreatDoorA6
import Derived.Test.YtdfojghhpdkpfaaGreatDoorA5
import Derived.Test.YtdfojghhpdkpfaaGreatDoorA4
import Derived.Test.YtdfojghhpdkpfaaGreatDoorA3
import Derived.Test.YtdfojghhpdkpfaaGreatDoorA2
import Derived.Test.YtdfojghhpdkpfaaGreatDoorA12
import Derived.Test.YtdfojghhpdkpfaaGreatDoorA11
import Derived.Test.YtdfojghhpdkpfaaGreatDoorA10
import Derived.Test.YtdfojghhpdkpfaaGreatDoorA1
set_option linter.unusedSimpArgs false
set_option linter.unusedVariables false
namespace Go.Proofs.YtdfojghhpdkpfaaGreatDoor
open Go.RowKit
section
variable {P : Program} {t e : TypeId} {size bytes : Nat} {z : Value}
end
theorem OwnB.formN {w : World} {B n : Nat} {v : Value} {bs : List UInt8} (h : OwnB w B v bs) (hn : bs.length = n) : ∃ A c, v = .slice A n c ∧ n ≤ c ∧ c ≤ maxLen := by
  subst hn
  exact own_cap h
section
variable {s s' : List UInt8} {ts ts' : List Tok}
end
theorem parse_long {s : List UInt8} (h : 2000 < s.length) : parseF s = (.zero, 0, 3) := by
  unfold parseF lexF
  rw [if_pos h]
  simp
theorem parse_case {l : LotM} (h : mayLot l = true) (hI : LotI l) (f : Nat → Bool) : (2000 < (caseT f false (lotT l)).1.length ∧ (parseF (caseT f false (lotT l)).1).2.2 = 3) ∨ parseF (caseT f false (lotT l)).1 = (l, 0, 0) := by
  by_cases hl : (caseT f false (lotT l)).1.length ≤ 2000
  · exact .inr (parse_of h (lx_of (lotT_lx h hI) f) hl)
  · exact .inl ⟨by omega, by rw [parse_long (by omega)]⟩
theorem caseT_snoc (F : Nat → Bool) (a : List UInt8) (c : UInt8) (o : List UInt8) (q : Bool) (h : caseT F false a = (o, q)) :
    caseT F false (a ++ [c]) = (o ++ ((if (!(if c = 39 then !q else q) && F a.length) = true ∧ 65 ≤ c ∧ c ≤ 90 then c + 32 else c) :: (if (!(if c = 39 then !q else q) && F a.length) = true ∧ c = 32 then [10, 9] else [])), if c = 39 then !q else q) := by
  rw [caseT_app, h]
  simp [caseT]
theorem cs8_get {M R : List UInt8} {c : UInt8} {more : List Value} {k : Nat} (h : M.length = k) : (cs8 (M ++ c :: R) ++ more)[k]? = some (V8 c) := by
  subst h
  simp [cs8]
theorem cs8_get2 {M R : List UInt8} {c : UInt8} {more : List Value} {k : Nat} (h : M.length = k) : (cs8 ((M ++ [c]) ++ R) ++ more)[k]? = some (V8 c) := by
  rw [List.append_assoc]
  exact cs8_get h
theorem cs8_set {M R : List UInt8} {c d : UInt8} {more : List Value} {k : Nat} (h : M.length = k) : (cs8 (M ++ c :: R) ++ more).set k (V8 d) = cs8 ((M ++ [d]) ++ R) ++ more := by
  subst h
  rw [show cs8 (M ++ c :: R) ++ more = cs8 M ++ (V8 c :: (cs8 R ++ more)) by simp [cs8], List.set_append_right _ _ (by simp [cs8])]
  simp [cs8]
theorem n8_39 {c : UInt8} : n8 c = 39 ↔ c = 39 := n8_inj (a := c) (b := 39)
theorem n8_32 {c : UInt8} : n8 c = 32 ↔ c = 32 := n8_inj (a := c) (b := 32)
theorem n8_le {c d : UInt8} : c ≤ d ↔ n8 c ≤ n8 d := by
  unfold n8
  rw [UInt8.le_iff_toNat_le]
  omega
theorem n8_65 {c : UInt8} : 65 ≤ c ↔ 65 ≤ n8 c := n8_le (c := 65) (d := c)
theorem n8_90 {c : UInt8} : c ≤ 90 ↔ n8 c ≤ 90 := n8_le (c := c) (d := 90)
theorem n8_low (c : UInt8) (h1 : 65 ≤ n8 c) (h2 : n8 c ≤ 90) : n8 (c + 32) = n8 c - 65 + 97 := by
  unfold n8 at *
  rw [UInt8.toNat_add]
  have : (32 : UInt8).toNat = 32 := rfl
  omega
def bCs (p : Unit × Bool) : List Value := [.bool p.2]
def bOk (w : World) (S : Nat → Prop) (u : Unit) (x : Bool) : Prop := True
theorem bK : OkK bOk := ⟨fun h _ => h, fun h _ => h⟩
theorem conv_by_ {w : World} {S : Nat → Prop} {v : Value} {bs : List UInt8} (h : By w S v bs) : (convert 51 9 v).run Tryz.prog w = .ok (.string (str bs)) w := by
  obtain ⟨A, n, rfl, _, _, h⟩ := h
  exact conv_str n 51 9 5 Tryz.underlying51 Tryz.underlying5 Tryz.underlying9 h
theorem bCs_len (p : Unit × Bool) : (bCs p).length = 1 := rfl
set_option maxRecDepth 100000 in
set_option maxHeartbeats 16000000 in
theorem case_walk (l : LotM) (u vb : Value) (bs : List Bool) (w : World) (hI : LotI l) (h : LtR w (fun _ => True) u l) (hb : LsR bCs 1 bOk w (fun _ => True) vb bs) (hE : EnvT w) :
    Calls Tryz.prog 8 #[ltV u l, vb] w fun e w' => e = .returned (.bool true) ∧ Same (fun _ => True) w w' := by
  obtain ⟨A, c, rfl, -, -⟩ := (show LsR stCsP 15 StR _ _ u l.stmts from h).form
  obtain ⟨Ab, cb, rfl, hb1, hb2⟩ := hb.form
  unfold maxLen at hb2
  have hA := (Same.refl (fun _ => True) w).alloc (.cells #[.int .i64 l.mode, .int .i64 l.n, .slice A l.stmts.length c] 25)
  have hrow := Row.new w 25 [.int .i64 l.mode, .int .i64 l.n, .slice A l.stmts.length c]
  have hl1 : LsR stCsP 15 StR (w.alloc (.cells #[.int .i64 l.mode, .int .i64 l.n, .slice A l.stmts.length c] 25)) (fun _ => True) (.slice A l.stmts.length c) l.stmts := (show LsR stCsP 15 StR _ _ (.slice A l.stmts.length c) l.stmts from h).keepAll stK hA
  have he1 := hE.keepAll hA
  have hw1 := hb.keepAll bK hA
  clear h hE hb
  go_enter Tryz.func8, Tryz.ntmps8
  go_wp2_with (go_at_call 9; refine stopAt ?_)
  unfold Hid
  revert hA hrow hl1 he1 hw1
  generalize w.alloc _ = w0
  intro hA hrow hl1 he1 hw1
  refine (begun_any w0 he1).mono ?_
  rintro e w1 ⟨rfl, hS⟩
  have HR := Lib.hid (hrow.keep hS trivial)
  have HL := Lib.hid (LsR.keepAll stK hl1 hS)
  have HW := Lib.hid (LsR.keepAll bK hw1 hS)
  have HE := Lib.hid (he1.keepAll hS)
  have HS := Lib.hid (hA.trans hS)
  have k0 := HR.out.cell 0
  have k1 := HR.out.cell 1
  have k2 := HR.out.cell 2
  simp only [List.getElem?_cons_zero, List.getElem?_cons_succ] at k0 k1 k2
  clear hA hrow hl1 he1 hw1 hS
  go_wp2_with (go_at_call 15; refine stopAt ?_)
  unfold Hid
  refine (show Calls _ _ _ _ _ from light_any l (.slice A l.stmts.length c) w1 HL.out).mono ?_
  rintro e w2 ⟨⟨b, rfl⟩, hS⟩
  have HR := Lib.hid (HR.out.keep hS trivial)
  have HL := Lib.hid (HL.out.keepAll stK hS)
  have HW := Lib.hid (HW.out.keepAll bK hS)
  have HE := Lib.hid (HE.out.keepAll hS)
  have HS := Lib.hid (HS.out.trans hS)
  have k0 := HR.out.cell 0
  have k1 := HR.out.cell 1
  have k2 := HR.out.cell 2
  simp only [List.getElem?_cons_zero, List.getElem?_cons_succ] at k0 k1 k2
  clear hS
  cases b
  · go_wp2
    go_ret
    exact ⟨rfl, HS.out⟩
  by_cases h3 : (3000 : Int) < (bs.length : Int)
  · have e3 := decide_eq_true h3
    clear h3
    go_wp2
    go_ret
    exact ⟨rfl, HS.out⟩
  have e3 : decide ((3000 : Int) < (bs.length : Int)) = false := decide_eq_false h3
  clear h3
  go_wp2_with (go_at_call 16; refine stopAt ?_)
  unfold Hid
  refine (print_any l (.slice A l.stmts.length c) w2 hI HL.out HE.out).mono ?_
  by_cases hp : mayLot l = true ∧ (lotT l).length ≤ 2000
  case neg =>
    rw [show printF l = ([], 9) by unfold printF; rw [if_neg hp]]
    rintro e w4 ⟨rfl, hS⟩
    have HS := Lib.hid (HS.out.trans hS)
    clear hS
    dsimp only
    rw [show str [] = (⟨#[]⟩ : ByteArray) from rfl]
    go_wp2
    go_ret
    exact ⟨rfl, HS.out⟩
  case pos =>
  obtain ⟨F, hF⟩ : ∃ F : Nat → Bool, F = fun i => bs.getD i false := ⟨_, rfl⟩
  have hpc := parse_case hp.1 hI F
  rw [show printF l = (lotT l, 0) by unfold printF; rw [if_pos hp]]
  have hTl := hp.2
  clear hp
  generalize lotT l = T at *
  have HPC := Lib.hid hpc
  have HFF := Lib.hid hF
  clear hpc hF
  rintro e w4 ⟨rfl, hS⟩
  have HR := Lib.hid (HR.out.keep hS trivial)
  have HL := Lib.hid (HL.out.keepAll stK hS)
  have HW := Lib.hid (HW.out.keepAll bK hS)
  have HE := Lib.hid (HE.out.keepAll hS)
  have HS := Lib.hid (HS.out.trans hS)
  clear hS k0 k1 k2
  dsimp only
  go_wp2_with (with_reducible refine stopConv rfl ?_)
  unfold Hid
  refine wpList_bytes rfl rfl Tryz.underlying9 Tryz.underlying51 Tryz.underlying5 (str T) rfl (by rw [str_size]; simp only [maxLen]; omega) ?_
  intro w6 c6 q6 more hrow6 hq6 hc6 hm6 hS6 hsz6
  rw [bl_str] at hrow6
  rw [str_size] at hq6 hc6
  unfold maxLen at hm6
  have hs6 : (str T).size = T.length := str_size T
  obtain ⟨g, hg⟩ : ∃ g, g = w4.heap.size := ⟨_, rfl⟩
  rw [← hg] at hrow6 hsz6 ⊢
  have HG := Lib.hid hg
  obtain ⟨B, hB⟩ : ∃ B, B = w6.heap.size := ⟨_, rfl⟩
  have hgB : g < B := by rw [hB]; exact hsz6
  have HWg : Hid (LsR bCs 1 bOk w4 (fun j => j < g) (.slice Ab bs.length cb) bs) := Lib.hid (LsR.mono bK (by omega) HW.out fun j hj _ => by rw [hg]; exact hj)
  have HS6 := Lib.hid (show Same (fun j => j < g) w4 w6 from hS6.mono fun _ _ _ => trivial)
  have HRQ := Lib.hid hrow6
  have hBz : B ≤ w6.heap.size := by omega
  rw [hs6]
  clear hrow6 hS6 hg hB hsz6 hs6
  go_wp2
  go_loopw [8, 9, 10] (fun o q i wr => ∃ (k : Nat) (M P : List UInt8) (b : Bool), i = .int .i64 (k : Int) ∧ q = .bool b ∧ k ≤ T.length ∧ M.length = k ∧ caseT F false (T.take k) = (P, b) ∧ P.length ≤ 3 * k ∧ OwnB wr B o P ∧ RowQ wr g 5 q6 (cs8 (M ++ T.drop k) ++ more) ∧ Same (fun j => j < g) w4 wr ∧ B ≤ wr.heap.size) (fun _ _ i _ => T.length - (intOf i).toNat)
  case atStart => exact ⟨0, [], [], false, rfl, rfl, Nat.zero_le _, rfl, rfl, Nat.zero_le _, OwnB.nil _ _, HRQ.out, HS6.out, hBz⟩
  case round =>
    clear HRQ HS6 hBz
    obtain ⟨k, M, P, q, rfl, rfl, hk, hM, hP, hPl, hO, hR, hS, hz⟩ := hrel
    have xk : (0 : Int) ≤ (k : Int) := by omega
    have HO := Lib.hid hO
    have HRQ := Lib.hid hR
    have HSS := Lib.hid hS
    have HM := Lib.hid hM
    obtain ⟨Ao, co, rfl, o1, o2⟩ := hO.form
    unfold maxLen at o2
    by_cases hkl : k < T.length
    · have yk : (k : Int) < (T.length : Int) := by omega
      obtain ⟨c, hc⟩ : ∃ c, c = T[k] := ⟨_, rfl⟩
      have hd : T.drop k = c :: T.drop (k + 1) := by rw [hc]; exact List.drop_eq_getElem_cons hkl
      rw [hd] at hR
      have HRQ := Lib.hid hR
      have hcell := hR.cell k
      rw [cs8_get hM] at hcell
      have hfr := hR.frozen k (by omega)
      have hn := caseT_snoc F (T.take k) c P q hP
      rw [show T.take k ++ [c] = T.take (k + 1) by rw [hc, List.take_succ_eq_append_getElem hkl], List.length_take, Nat.min_eq_left (by omega)] at hn
      have hbc := n8_bd c
      obtain ⟨q1, hq1⟩ : ∃ q1, q1 = if c = 39 then !q else q := ⟨_, rfl⟩
      rw [← hq1] at hn
      have HC := Lib.hid hn
      have HQ1 := Lib.hid hq1
      have hw := Same.mono (S' := fun j => j < g) hS fun _ _ h => h
      have HWr := Lib.hid (LsR.keep bK HWg.out hS)
      clear hn hq1 hd hR hP hS hO hM hw hc
      go_upto_if 44 with (fail)
      go_cut [9] from 34 to 106 (fun v wx => v = .bool q1 ∧ wr = wx)
      case first =>
        by_cases h39 : n8 c = 39
        · have e : q1 = !q := by rw [HQ1.out, if_pos (n8_39.1 h39)]
          clear HWr
          subst e
          go_wp2
          go_meet
          exact ⟨rfl, rfl⟩
        · have e : q1 = q := by rw [HQ1.out, if_neg fun h => h39 (n8_39.2 h)]
          clear HWr
          subst e
          go_wp2
          go_meet
          exact ⟨rfl, rfl⟩
      case rest =>
      obtain ⟨rfl, rfl⟩ := hcut
      clear HQ1
      by_cases hkb : k < bs.length
      · have yb : (k : Int) < (bs.length : Int) := by omega
        obtain ⟨adb, ub, rfl, -, hcl⟩ := LsR.at_ HWr.out bCs_len hkb
        have b0 := hcl 0 (by omega)
        rw [add_zero, Nat.mul_one] at b0
        simp only [bCs, List.getElem?_cons_zero] at b0
        have hF : F k = bs[k] := by rw [HFF.out]; show bs.getD k false = _; rw [List.getD_eq_getElem?_getD, List.getElem?_eq_getElem hkb]; rfl
        have HF := Lib.hid hF
        clear hcl hF HWr
        generalize bs[k] = on at *
        cases q1
        · cases on
          · go_upto_region 19 with (fail)
            have HN : Hid (caseT F false (T.take (k + 1)) = (P ++ [c], false)) := Lib.hid (by rw [HC.out]; rw [HF.out]; simp)
            have HRQ := Lib.hid (show RowQ wr g 5 q6 (cs8 ((M ++ [c]) ++ T.drop (k + 1)) ++ more) by rw [List.append_assoc]; exact HRQ.out)
            go_wp2_with (at_builtin; refine stopAt ?_)
            unfold Hid
            refine wpList_appB1 (c := c) rfl (.tmp 85) (.tmp 90) rfl rfl rfl HO.out (by omega) (by omega) ?_
            intro v7 w7 hO7 hS7
            have HS7 := Lib.hid hS7
            have HO7 := Lib.hid hO7
            have hz7 : wr.heap.size ≤ w7.heap.size := hS7.size
            have HRQ7 := Lib.hid (HRQ.out.keep hS7 hgB)
            have HSS7 := Lib.hid (HSS.out.trans' hS7 fun i _ hi => by omega)
            obtain ⟨Ao, co, rfl, o1, o2⟩ := hO7.formN (n := P.length + 1) (by simp)
            unfold maxLen at o2
            have hcell7 := HRQ7.out.cell k
            rw [cs8_get2 (c := c) HM.out] at hcell7
            clear hO7 hS7
            go_wp2
            go_roundw
            case rel => exact ⟨k + 1, M ++ [c], P ++ [c], false, by go_num, rfl, by omega, by rw [List.length_append, HM.out]; rfl, HN.out, by rw [List.length_append]; simp; omega, HO7.out, HRQ7.out, HSS7.out, by omega⟩
            case measure => simp [intOf]; omega
          · by_cases hA : 65 ≤ n8 c ∧ n8 c ≤ 90
            · obtain ⟨g1, g2⟩ := hA
              have HA : Hid (65 ≤ c ∧ c ≤ 90) := Lib.hid ⟨n8_65.2 g1, n8_90.2 g2⟩
              have HV := Lib.hid (n8_low c g1 g2)
              go_upto_region 19 with (fail)
              have hset := HRQ.out.set_ k (.int .u8 (n8 c - 65 + 97))
              have hv : (Value.int .u8 (n8 c - 65 + 97)) = V8 (c + 32) := by simp only [V8]; rw [HV.out]
              have hss := HSS.out.setCell (p := ⟨g, k, none⟩) (fun _ => by simp) (.int .u8 (n8 c - 65 + 97))
              have hoo := HO.out.keep (S := fun j => j ≠ g) ((Same.refl (fun j => j ≠ g) wr).setCell (p := ⟨g, k, none⟩) (by simp) (.int .u8 (n8 c - 65 + 97))) (fun j h _ => by omega)
              have hzz : B ≤ (wr.setCell ⟨g, k, none⟩ (.int .u8 (n8 c - 65 + 97))).heap.size := by rw [World.size_setCell]; omega
              clear HRQ HSS HO hcell hfr
              revert hset hss hoo hzz
              generalize wr.setCell _ _ = w9
              intro hset hss hoo hzz
              rw [hv, cs8_set HM.out] at hset
              have g32 : ¬ n8 (c + 32) = 32 := by rw [HV.out]; omega
              have HRQ := Lib.hid hset
              have HSS := Lib.hid hss
              have HO := Lib.hid hoo
              have hcell := hset.cell k
              rw [cs8_get2 HM.out] at hcell
              clear hset hss hoo hv
              have HN : Hid (caseT F false (T.take (k + 1)) = (P ++ [(c + 32)], false)) := Lib.hid (by rw [HC.out]; rw [HF.out, if_pos ⟨rfl, HA.out⟩, if_neg]; rintro ⟨-, rfl⟩; exact absurd HA.out (by decide))
              go_wp2_with (at_builtin; refine stopAt ?_)
              unfold Hid
              refine wpList_appB1 (c := (c + 32)) rfl (.tmp 85) (.tmp 90) rfl rfl rfl HO.out (by omega) (by omega) ?_
              intro v7 w7 hO7 hS7
              have HS7 := Lib.hid hS7
              have HO7 := Lib.hid hO7
              have hz7 : w9.heap.size ≤ w7.heap.size := hS7.size
              have HRQ7 := Lib.hid (HRQ.out.keep hS7 hgB)
              have HSS7 := Lib.hid (HSS.out.trans' hS7 fun i _ hi => by omega)
              obtain ⟨Ao, co, rfl, o1, o2⟩ := hO7.formN (n := P.length + 1) (by simp)
              unfold maxLen at o2
              have hcell7 := HRQ7.out.cell k
              rw [cs8_get2 (c := (c + 32)) HM.out] at hcell7
              clear hO7 hS7
              go_wp2
              go_roundw
              case rel => exact ⟨k + 1, M ++ [(c + 32)], P ++ [(c + 32)], false, by go_num, rfl, by omega, by rw [List.length_append, HM.out]; rfl, HN.out, by rw [List.length_append]; simp; omega, HO7.out, HRQ7.out, HSS7.out, by omega⟩
              case measure => simp [intOf]; omega
            · have HA : Hid (¬ (65 ≤ c ∧ c ≤ 90)) := Lib.hid fun h => hA ⟨n8_65.1 h.1, n8_90.1 h.2⟩
              by_cases h32 : n8 c = 32
              · have HB : Hid (c = 32) := Lib.hid (n8_32.1 h32)
                have g1 : ¬ 65 ≤ n8 c := by omega
                clear hA
                go_upto_region 19 with (fail)
                have HN : Hid (caseT F false (T.take (k + 1)) = (P ++ [c] ++ [10, 9], false)) := Lib.hid (by rw [HC.out]; rw [HF.out, if_neg fun h => HA.out h.2, if_pos ⟨rfl, HB.out⟩, List.append_assoc]; rfl)
                have HRQ := Lib.hid (show RowQ wr g 5 q6 (cs8 ((M ++ [c]) ++ T.drop (k + 1)) ++ more) by rw [List.append_assoc]; exact HRQ.out)
                go_wp2_with (at_builtin; refine stopAt ?_)
                unfold Hid
                refine wpList_appB1 (c := c) rfl (.tmp 85) (.tmp 90) rfl rfl rfl HO.out (by omega) (by omega) ?_
                intro v7 w7 hO7 hS7
                have HS7 := Lib.hid hS7
                have HO7 := Lib.hid hO7
                have hz7 : wr.heap.size ≤ w7.heap.size := hS7.size
                have HRQ7 := Lib.hid (HRQ.out.keep hS7 hgB)
                have HSS7 := Lib.hid (HSS.out.trans' hS7 fun i _ hi => by omega)
                obtain ⟨Ao, co, rfl, o1, o2⟩ := hO7.formN (n := P.length + 1) (by simp)
                unfold maxLen at o2
                have hcell7 := HRQ7.out.cell k
                rw [cs8_get2 (c := c) HM.out] at hcell7
                clear hO7 hS7
                go_wp2_with (at_builtin; refine stopAt ?_)
                unfold Hid
                refine wpList_appL rfl (.tmp 104) (.tmp 105) rfl rfl rfl (HO7.out.keepAll ((Same.refl (fun _ => True) w7).alloc (.cells #[.int .u8 10, .int .u8 9] 5))) (By.lit (S := fun _ => True) (bs := [10, 9]) (fr := (0, 0)) (e := 5) (heap_now rfl) trivial rfl (by omega) (by simp [maxLen])) (by simp; omega) (by simp; omega) ?_
                intro v8 w8 hO8 hS8
                have hS8 := ((Same.refl (fun j => j < B) w7).alloc _).trans hS8
                have HO8 := Lib.hid hO8
                have hz8 := hS8.size
                have HRQ8 := Lib.hid (HRQ7.out.keep hS8 hgB)
                have HSS8 := Lib.hid (HSS7.out.trans' hS8 fun i _ hi => by omega)
                clear hO8 hS8
                go_wp2
                go_roundw
                case rel => exact ⟨k + 1, M ++ [c], P ++ [c] ++ [10, 9], false, by go_num, rfl, by omega, by rw [List.length_append, HM.out]; rfl, HN.out, by simp; omega, HO8.out, HRQ8.out, HSS8.out, by omega⟩
                case measure => simp [intOf]; omega
              · have HB : Hid (¬ c = 32) := Lib.hid fun h => h32 (n8_32.2 h)
                by_cases g1 : 65 ≤ n8 c
                · have g2 : ¬ n8 c ≤ 90 := fun h => hA ⟨g1, h⟩
                  clear hA
                  go_upto_region 19 with (fail)
                  have HN : Hid (caseT F false (T.take (k + 1)) = (P ++ [c], false)) := Lib.hid (by rw [HC.out]; rw [HF.out, if_neg fun h => HA.out h.2, if_neg fun h => HB.out h.2])
                  have HRQ := Lib.hid (show RowQ wr g 5 q6 (cs8 ((M ++ [c]) ++ T.drop (k + 1)) ++ more) by rw [List.append_assoc]; exact HRQ.out)
                  go_wp2_with (at_builtin; refine stopAt ?_)
                  unfold Hid
                  refine wpList_appB1 (c := c) rfl (.tmp 85) (.tmp 90) rfl rfl rfl HO.out (by omega) (by omega) ?_
                  intro v7 w7 hO7 hS7
                  have HS7 := Lib.hid hS7
                  have HO7 := Lib.hid hO7
                  have hz7 : wr.heap.size ≤ w7.heap.size := hS7.size
                  have HRQ7 := Lib.hid (HRQ.out.keep hS7 hgB)
                  have HSS7 := Lib.hid (HSS.out.trans' hS7 fun i _ hi => by omega)
                  obtain ⟨Ao, co, rfl, o1, o2⟩ := hO7.formN (n := P.length + 1) (by simp)
                  unfold maxLen at o2
                  have hcell7 := HRQ7.out.cell k
                  rw [cs8_get2 (c := c) HM.out] at hcell7
                  clear hO7 hS7
                  go_wp2
                  go_roundw
                  case rel => exact ⟨k + 1, M ++ [c], P ++ [c], false, by go_num, rfl, by omega, by rw [List.length_append, HM.out]; rfl, HN.out, by rw [List.length_append]; simp; omega, HO7.out, HRQ7.out, HSS7.out, by omega⟩
                  case measure => simp [intOf]; omega
                · clear hA
                  go_upto_region 19 with (fail)
                  have HN : Hid (caseT F false (T.take (k + 1)) = (P ++ [c], false)) := Lib.hid (by rw [HC.out]; rw [HF.out, if_neg fun h => HA.out h.2, if_neg fun h => HB.out h.2])
                  have HRQ := Lib.hid (show RowQ wr g 5 q6 (cs8 ((M ++ [c]) ++ T.drop (k + 1)) ++ more) by rw [List.append_assoc]; exact HRQ.out)
                  go_wp2_with (at_builtin; refine stopAt ?_)
                  unfold Hid
                  refine wpList_appB1 (c := c) rfl (.tmp 85) (.tmp 90) rfl rfl rfl HO.out (by omega) (by omega) ?_
                  intro v7 w7 hO7 hS7
                  have HS7 := Lib.hid hS7
                  have HO7 := Lib.hid hO7
                  have hz7 : wr.heap.size ≤ w7.heap.size := hS7.size
                  have HRQ7 := Lib.hid (HRQ.out.keep hS7 hgB)
                  have HSS7 := Lib.hid (HSS.out.trans' hS7 fun i _ hi => by omega)
                  obtain ⟨Ao, co, rfl, o1, o2⟩ := hO7.formN (n := P.length + 1) (by simp)
                  unfold maxLen at o2
                  have hcell7 := HRQ7.out.cell k
                  rw [cs8_get2 (c := c) HM.out] at hcell7
                  clear hO7 hS7
                  go_wp2
                  go_roundw
                  case rel => exact ⟨k + 1, M ++ [c], P ++ [c], false, by go_num, rfl, by omega, by rw [List.length_append, HM.out]; rfl, HN.out, by rw [List.length_append]; simp; omega, HO7.out, HRQ7.out, HSS7.out, by omega⟩
                  case measure => simp [intOf]; omega
        · go_upto_region 19 with (fail)
          have HN : Hid (caseT F false (T.take (k + 1)) = (P ++ [c], true)) := Lib.hid (by rw [HC.out]; simp)
          have HRQ := Lib.hid (show RowQ wr g 5 q6 (cs8 ((M ++ [c]) ++ T.drop (k + 1)) ++ more) by rw [List.append_assoc]; exact HRQ.out)
          go_wp2_with (at_builtin; refine stopAt ?_)
          unfold Hid
          refine wpList_appB1 (c := c) rfl (.tmp 85) (.tmp 90) rfl rfl rfl HO.out (by omega) (by omega) ?_
          intro v7 w7 hO7 hS7
          have HS7 := Lib.hid hS7
          have HO7 := Lib.hid hO7
          have hz7 : wr.heap.size ≤ w7.heap.size := hS7.size
          have HRQ7 := Lib.hid (HRQ.out.keep hS7 hgB)
          have HSS7 := Lib.hid (HSS.out.trans' hS7 fun i _ hi => by omega)
          obtain ⟨Ao, co, rfl, o1, o2⟩ := hO7.formN (n := P.length + 1) (by simp)
          unfold maxLen at o2
          have hcell7 := HRQ7.out.cell k
          rw [cs8_get2 (c := c) HM.out] at hcell7
          clear hO7 hS7
          go_wp2
          go_roundw
          case rel => exact ⟨k + 1, M ++ [c], P ++ [c], true, by go_num, rfl, by omega, by rw [List.length_append, HM.out]; rfl, HN.out, by rw [List.length_append]; simp; omega, HO7.out, HRQ7.out, HSS7.out, by omega⟩
          case measure => simp [intOf]; omega
      · have nb : ¬ (k : Int) < (bs.length : Int) := by omega
        have hF : F k = false := by rw [HFF.out]; show bs.getD k false = _; rw [List.getD_eq_getElem?_getD, List.getElem?_eq_none (by omega)]; rfl
        have HF := Lib.hid hF
        clear hF HWr
        cases q1
        · go_upto_region 19 with (fail)
          have HN : Hid (caseT F false (T.take (k + 1)) = (P ++ [c], false)) := Lib.hid (by rw [HC.out]; rw [HF.out]; simp)
          have HRQ := Lib.hid (show RowQ wr g 5 q6 (cs8 ((M ++ [c]) ++ T.drop (k + 1)) ++ more) by rw [List.append_assoc]; exact HRQ.out)
          go_wp2_with (at_builtin; refine stopAt ?_)
          unfold Hid
          refine wpList_appB1 (c := c) rfl (.tmp 85) (.tmp 90) rfl rfl rfl HO.out (by omega) (by omega) ?_
          intro v7 w7 hO7 hS7
          have HS7 := Lib.hid hS7
          have HO7 := Lib.hid hO7
          have hz7 : wr.heap.size ≤ w7.heap.size := hS7.size
          have HRQ7 := Lib.hid (HRQ.out.keep hS7 hgB)
          have HSS7 := Lib.hid (HSS.out.trans' hS7 fun i _ hi => by omega)
          obtain ⟨Ao, co, rfl, o1, o2⟩ := hO7.formN (n := P.length + 1) (by simp)
          unfold maxLen at o2
          have hcell7 := HRQ7.out.cell k
          rw [cs8_get2 (c := c) HM.out] at hcell7
          clear hO7 hS7
          go_wp2
          go_roundw
          case rel => exact ⟨k + 1, M ++ [c], P ++ [c], false, by go_num, rfl, by omega, by rw [List.length_append, HM.out]; rfl, HN.out, by rw [List.length_append]; simp; omega, HO7.out, HRQ7.out, HSS7.out, by omega⟩
          case measure => simp [intOf]; omega
        · go_upto_region 19 with (fail)
          have HN : Hid (caseT F false (T.take (k + 1)) = (P ++ [c], true)) := Lib.hid (by rw [HC.out]; simp)
          have HRQ := Lib.hid (show RowQ wr g 5 q6 (cs8 ((M ++ [c]) ++ T.drop (k + 1)) ++ more) by rw [List.append_assoc]; exact HRQ.out)
          go_wp2_with (at_builtin; refine stopAt ?_)
          unfold Hid
          refine wpList_appB1 (c := c) rfl (.tmp 85) (.tmp 90) rfl rfl rfl HO.out (by omega) (by omega) ?_
          intro v7 w7 hO7 hS7
          have HS7 := Lib.hid hS7
          have HO7 := Lib.hid hO7
          have hz7 : wr.heap.size ≤ w7.heap.size := hS7.size
          have HRQ7 := Lib.hid (HRQ.out.keep hS7 hgB)
          have HSS7 := Lib.hid (HSS.out.trans' hS7 fun i _ hi => by omega)
          obtain ⟨Ao, co, rfl, o1, o2⟩ := hO7.formN (n := P.length + 1) (by simp)
          unfold maxLen at o2
          have hcell7 := HRQ7.out.cell k
          rw [cs8_get2 (c := c) HM.out] at hcell7
          clear hO7 hS7
          go_wp2
          go_roundw
          case rel => exact ⟨k + 1, M ++ [c], P ++ [c], true, by go_num, rfl, by omega, by rw [List.length_append, HM.out]; rfl, HN.out, by rw [List.length_append]; simp; omega, HO7.out, HRQ7.out, HSS7.out, by omega⟩
          case measure => simp [intOf]; omega
    · obtain rfl : k = T.length := by omega
      rw [List.take_length] at hP
      have HCV := Lib.hid (conv_by_ hO.by_)
      have HT4 := Lib.hid (hS.mono (S' := fun _ => True) fun i hi _ => by rw [HG.out]; exact hi)
      clear hR hO hS hM HO HRQ HSS HM HWg HG
      go_wp2_with (with_reducible refine stopConv rfl ?_)
      unfold Hid
      refine wpList_conv rfl rfl rfl HCV.out ?_
      have HE := Lib.hid (HE.out.keepAll HT4.out)
      have HL := Lib.hid (HL.out.keepAll stK HT4.out)
      have HR := Lib.hid (HR.out.keep HT4.out trivial)
      have HS := Lib.hid (HS.out.trans HT4.out)
      have hp2 := parse_at P wr (by omega) HE.out.max
      obtain ⟨r, hr⟩ : ∃ r, r = parseF P := ⟨_, rfl⟩
      have hpl := parse_long (s := P)
      have hpc := HPC.out
      rw [hP] at hpc
      dsimp only at hpc
      rw [← hr] at hp2 hpl hpc
      obtain ⟨L, at_, er⟩ := r
      dsimp only at hpl hpc
      have HPC := Lib.hid hpc
      have HPL := Lib.hid hpl
      clear hpc hpl hr hP
      go_wp2_with (go_at_call 10; refine stopAt ?_)
      unfold Hid
      refine (show Calls _ _ _ _ _ from hp2).mono ?_
      rintro e w5 ⟨u2, rfl, hlt2, hS⟩
      dsimp only at hlt2
      obtain ⟨A2, c2, rfl, -, -⟩ := (show LsR stCsP 15 StR _ _ u2 L.stmts from hlt2).form
      have hA := (Same.refl (fun _ => True) w5).alloc (.cells #[.int .i64 L.mode, .int .i64 L.n, .slice A2 L.stmts.length c2] 25)
      have hrow := Row.new w5 25 [.int .i64 L.mode, .int .i64 L.n, .slice A2 L.stmts.length c2]
      have hl1 : LsR stCsP 15 StR (w5.alloc (.cells #[.int .i64 L.mode, .int .i64 L.n, .slice A2 L.stmts.length c2] 25)) (fun _ => True) (.slice A2 L.stmts.length c2) L.stmts := (LsR.mono stK (by omega) (show LsR stCsP 15 StR _ _ (.slice A2 L.stmts.length c2) L.stmts from hlt2) (fun _ _ _ => trivial)).keepAll stK hA
      have hS := hS.trans hA
      have HS := Lib.hid (HS.out.trans hS)
      by_cases hbig : 2000 < P.length
      · have y1 : (2000 : Int) < (P.length : Int) := by omega
        obtain rfl : er = 3 := by
          have := HPL.out hbig
          exact (Prod.mk.inj (Prod.mk.inj this).2).2
        clear hlt2 hS hA hrow hl1 hp2 hbig
        go_wp2
        go_ret
        exact ⟨rfl, HS.out⟩
      · have y1 : ¬ (2000 : Int) < (P.length : Int) := by omega
        have hx : (L, at_, er) = (l, 0, 0) := HPC.out.resolve_left fun h => hbig h.1
        have hx1 := (Prod.mk.inj hx).1.symm
        have hx2 := Prod.mk.inj (Prod.mk.inj hx).2
        clear hx
        subst hx1
        obtain ⟨rfl, rfl⟩ := hx2
        have R2 := Lib.hid hrow
        have HL2 := Lib.hid hl1
        have HR := Lib.hid (HR.out.keep hS trivial)
        have HL := Lib.hid (HL.out.keepAll stK hS)
        have c0 := HR.out.cell 0
        have c1 := HR.out.cell 1
        have c2' := HR.out.cell 2
        have g0 := R2.out.cell 0
        have g1 := R2.out.cell 1
        have g2 := R2.out.cell 2
        simp only [List.getElem?_cons_zero, List.getElem?_cons_succ] at c0 c1 c2' g0 g1 g2
        clear hlt2 hS hA hrow hl1 hp2 hbig
        go_wp2_with (go_at_call 20; refine stopAt ?_)
        unfold Hid
        refine (same_any l l (.slice A l.stmts.length c) (.slice A2 l.stmts.length c2) _ HL.out HL2.out).mono ?_
        rw [sameLot_refl]
        rintro e w9 ⟨rfl, hS⟩
        have HS := Lib.hid (HS.out.trans hS)
        clear hS c0 c1 c2' g0 g1 g2
        go_wp2
        go_ret
        exact ⟨rfl, HS.out⟩
end Go.Proofs.YtdfojghhpdkpfaaGreatDoor
