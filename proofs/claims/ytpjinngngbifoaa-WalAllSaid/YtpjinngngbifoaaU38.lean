/-
  Words, plain models, laws and walks that the claims of this layer share (joined by shake.py). No condition.
-/
import Derived.Test.YtpjinngngbifoaaU1
import Derived.Test.YtpjinngngbifoaaU2
import Derived.Test.YtpjinngngbifoaaU3
import Derived.Test.YtpjinngngbifoaaU4
import Derived.Test.YtpjinngngbifoaaU5
import Derived.Test.YtpjinngngbifoaaU6
import Derived.Test.YtpjinngngbifoaaU7
import Derived.Test.YtpjinngngbifoaaU8
import Derived.Test.YtpjinngngbifoaaU9
import Derived.Test.YtpjinngngbifoaaU10
import Derived.Test.YtpjinngngbifoaaU11
import Derived.Test.YtpjinngngbifoaaU12
import Derived.Test.YtpjinngngbifoaaU13
import Derived.Test.YtpjinngngbifoaaU14
import Derived.Test.YtpjinngngbifoaaU15
import Derived.Test.YtpjinngngbifoaaU16
import Derived.Test.YtpjinngngbifoaaU17
import Derived.Test.YtpjinngngbifoaaU18
import Derived.Test.YtpjinngngbifoaaU19
import Derived.Test.YtpjinngngbifoaaU20
import Derived.Test.YtpjinngngbifoaaU21
import Derived.Test.YtpjinngngbifoaaU22
import Derived.Test.YtpjinngngbifoaaU23
import Derived.Test.YtpjinngngbifoaaU24
import Derived.Test.YtpjinngngbifoaaU25
import Derived.Test.YtpjinngngbifoaaU26
import Derived.Test.YtpjinngngbifoaaU27
import Derived.Test.YtpjinngngbifoaaU28
import Derived.Test.YtpjinngngbifoaaU29
import Derived.Test.YtpjinngngbifoaaU30
import Derived.Test.YtpjinngngbifoaaU31
import Derived.Test.YtpjinngngbifoaaU32
import Derived.Test.YtpjinngngbifoaaU33
import Derived.Test.YtpjinngngbifoaaU34
import Derived.Test.YtpjinngngbifoaaU35
import Derived.Test.YtpjinngngbifoaaU36
import Derived.Test.YtpjinngngbifoaaU37
set_option linter.unusedSimpArgs false
set_option linter.unusedVariables false
namespace Go.Proofs.Ytpjinngngbifoaa
open Go.RowKit
set_option maxHeartbeats 400000 in
theorem spoil_row (g n cap : Nat) (cur : List Value) (w : World) (hrow : Row w g 5 cur) (hcl : cur.length = cap) (hnc : n ≤ cap) (hcm : cap ≤ 100000) :
    Calls Try.prog 54 #[.slice (some ⟨g, 0, none⟩) n cap] w fun e w' => e = .returned (.tuple #[]) ∧ (∃ ys, Row w' g 5 ys ∧ ys.length = cap) ∧ Same (fun k => k ≠ g) w w' := by
  have Hcl := Lib.hid hcl
  have Hrow := Lib.hid hrow
  clear hcl hrow
  go_enter Try.func54, Try.ntmps54
  go_wp2
  go_loopw [3] (fun i wr => ∃ (k : Nat) (ys : List Value), k ≤ cap ∧ i = .int .i64 k ∧ Hid (ys.length = cap) ∧ Row wr g 5 ys ∧ Same (fun k => k ≠ g) w wr) (fun i _ => cap - (intOf i).toNat)
  case atStart => exact ⟨0, cur, by omega, rfl, Hcl, Hrow.out, Same.refl _ _⟩
  case round =>
    obtain ⟨k, ys, hk, rfl, hy, hr, hsm⟩ := hrel
    by_cases hlt : k < cap
    · obtain ⟨u, hu⟩ : ∃ u, ys[k]? = some u := ⟨_, List.getElem?_eq_getElem (show k < ys.length by rw [hy.out]; exact hlt)⟩
      have hcell := hr.cell k
      rw [hu] at hcell
      clear hu
      have hfr := hr.frozen k
      go_wp2
      go_roundw
      case rel => exact ⟨k + 1, ys.set k (.int .u8 90), by omega, by go_num, by simpa [Hid] using hy, hr.set_ k _, hsm.setCell (by simp) _⟩
      case measure => simp [intOf]; omega
    · obtain rfl : k = cap := by omega
      go_wp2
      go_end0
      exact ⟨rfl, ⟨ys, hr, hy.out⟩, hsm⟩
/-- Twins that may be spoilt already: the blocks lie from lo up to hi. -/
def Sp (w : World) (lo hi : Nat) (v : Value) (l : List (List UInt8)) : Prop :=
  ∃ vs, w.ownsRow lo 24 1 v l.length vs ∧ ∀ (i : Nat) (u : Value) (y : List UInt8), vs[i]? = some u → l[i]? = some y → ∃ g ys, lo ≤ g ∧ g < hi ∧ u = .slice (some ⟨g, 0, none⟩) y.length (y.length + 3) ∧ Row w g 5 ys ∧ ys.length = y.length + 3
theorem OwnTwins.sp {w w' : World} {B : Nat} {v : Value} {l : List (List UInt8)} (h : OwnTwins w B v l) (hs : Same (fun k => B ≤ k) w w') : Sp w' B w.heap.size v l := by
  obtain ⟨vs, hown, he⟩ := h
  refine ⟨vs, own_keep hown hs fun k hk => own_ge hown hk.symm, fun i u y hu hy => ?_⟩
  obtain ⟨g, hg, rfl, hr⟩ := he i u y hu hy
  exact ⟨g, _, hg, hr.lt, rfl, hr.keep hs hg, by simp [cs8]⟩
theorem Sp.at_ {w : World} {lo hi : Nat} {A : Option Addr} {n c k : Nat} {l : List (List UInt8)} (h : Sp w lo hi (.slice A n c) l) (hk : k < l.length) :
    ∃ ad g ys, A = some ad ∧ w.cell? (ad.add k) = some (.slice (some ⟨g, 0, none⟩) l[k].length (l[k].length + 3)) ∧ lo ≤ g ∧ g < hi ∧ Row w g 5 ys ∧ ys.length = l[k].length + 3 ∧
      ∀ w' zs, Row w' g 5 zs → zs.length = l[k].length + 3 → Same (fun k => k ≠ g) w w' → Sp w' lo hi (.slice A n c) l := by
  obtain ⟨vs, hown, he⟩ := h
  obtain ⟨A', c', e, -, -⟩ := own_cap hown
  injection e with e1 e2 e3
  subst e2
  obtain ⟨ad, u, rfl, hS, hu, hcell⟩ := (Sl.of_own hown).at_ hk
  obtain ⟨g, ys, h1, h2, rfl, h3, h4⟩ := he k u l[k] hu (List.getElem?_eq_getElem hk)
  refine ⟨ad, g, ys, rfl, hcell, h1, h2, h3, h4, fun w' zs hz hzl hs => ⟨vs, own_keep hown hs fun q hq e => ?_, fun i u y hu hy => ?_⟩⟩
  · subst e
    rcases ownsRow_row hown with ⟨q, -, -⟩ | ⟨g', cap, cur, q, -, hr, -⟩
    · rw [q] at hq; cases hq
    · rw [q] at hq
      have hq : some g' = some _ := hq
      injection hq with hq
      subst hq
      exact hr.ne h3 (by decide) rfl
  · obtain ⟨g', ys', k1, k2, rfl, k3, k4⟩ := he i u y hu hy
    by_cases hg : g' = g
    · subst hg
      have e : ys' = ys := by
        unfold Row at k3 h3
        rw [k3] at h3
        injection h3 with h3
        injection h3 with h3 _
        simpa using h3
      exact ⟨g', zs, k1, k2, rfl, hz, by rw [hzl, ← h4, ← e, k4]⟩
    · exact ⟨g', ys', k1, k2, rfl, k3.keep hs hg, k4⟩
theorem flat_mem_le {l : List (List UInt8)} (h : l.flatten.length ≤ 2000) : ∀ x ∈ l, x.length ≤ 20000 := fun x hx => by have := mem_flat_le hx; omega
set_option maxRecDepth 100000 in
set_option maxHeartbeats 4000000 in
theorem do_rewrite (B0 b g r h k : Nat) (F : Nat → Prop) (d : DiskM) (l : WalM) (recs : List (List UInt8)) (o : OpW) (vb vl vk : Value) (w : World) (H : Twos w B0 b g r h F d (some (l, recs))) (HP : PInv k d (some (l, recs))) (hk : k ≤ 41)
    (hL : ByL w (fun k => k < B0) vl o.l) (ho : o.l.length ≤ 10) (hof : o.l.flatten.length ≤ 2000)
    (hki : -9223372036854775808 ≤ o.kind ∧ o.kind ≤ 9223372036854775807) (hkind : placeF o.kind 7 = 2) :
    Calls Try.prog 30 #[ptr b, .agg #[.int .i64 o.kind, .int .i64 o.n, .bool o.made, vb, vl, vk]] w (DoneP B0 b g r h k w) := by
  have hpl := fun w => place_any o.kind 7 w hki (by omega)
  rw [hkind] at hpl
  obtain ⟨p, x, A, c, hrow, hmid, hlo, hTb, hTn, hT0⟩ := H.mid
  have hP1 := HP.rew ho hof
  have hLI := HP.log l recs rfl
  have hst3 : d.steps + 3 < 1000000 := by have := HP.steps; omega
  have hm2 := flat_mem_le hof
  have hfl : (fileW 0 o.l).length ≤ 19000 := by rw [fileW_len]; omega
  obtain ⟨⟨X, d1, l1⟩, hX⟩ : ∃ Z, Z = rewriteW d l o.l := ⟨_, rfl⟩
  rw [← hX] at hP1
  obtain ⟨recs1, hrecs1⟩ : ∃ recs1, recs1 = if X = 0 then o.l else recs := ⟨_, rfl⟩
  have hP1 : PInv (k + 1) d1 (some (l1, recs1)) := hrecs1 ▸ hP1
  have hcc : ∀ wc F S v, ByL wc S v o.l → LogAt wc p g r F d l → Calls Try.prog 21 #[ptr p, v] wc (WPost p g r F wc X d1 l1) := fun wc F S v hv hLg => by
    have := wrewrite_any p g r F S d l v o.l wc hLg (HP.fit (by omega)) hst3 hv (by omega) (Lib.hid fun x hx => by have := mem_flat_le hx; omega) (by omega) (hLI.fit (by omega))
    rw [← hX] at this
    exact this
  have hcd : ∀ wc S u, B0 ≤ wc.heap.size → RdS wc S u o.l → (∀ k, S k → k ≠ x ∧ k ≠ h) → RefWal wc x h B0 l recs (.slice A recs.length c) → RefAt wc h d → Calls Try.prog 57 #[ptr x, u] wc (XPost x h B0 (.slice A recs.length c) wc X d1 l1 recs1) := fun wc S u hB hu hS hx hr => by
    rw [hrecs1]
    have := rrewrite_any x h B0 S d l recs o.l _ u wc hx hr (HP.fit (by omega)) hst3 hB hu (Lib.hid hS) hfl hLI.gen
    rw [← hX] at this
    exact this
  have HLO := Lib.hid hlo
  have HTB := Lib.hid hTb
  have HTN := Lib.hid hTn
  have HT0 := Lib.hid hT0
  have HROW := Lib.hid hrow
  have HMID := Lib.hid hmid
  have HP1 := Lib.hid hP1
  have c2 := hrow.cell 2
  have c3 := hrow.cell 3
  have hb := hrow.lt
  simp at c2 c3
  have hbox : Same (fun _ => True) w (w.alloc (.cells #[.int .i64 o.kind, .int .i64 o.n, .bool o.made, vb, vl, vk] 53)) := (Same.refl _ _).alloc _
  have HBOX := Lib.hid hbox
  have HRB := Lib.hid (Row.new w 53 [.int .i64 o.kind, .int .i64 o.n, .bool o.made, vb, vl, vk])
  have HL := Lib.hid hL
  have htw := twins_any vl o.l _ _ (hL.keep (hbox.mono fun _ _ _ => trivial)) (by omega) hm2
  obtain ⟨A2, cb, vs2, rfl, -, hmb, -⟩ := id hL
  have HM2 := Lib.hid hm2
  obtain ⟨N, hN⟩ : ∃ n, n = o.l.length := ⟨_, rfl⟩
  have HLL := HL.out
  rw [← hN] at HLL htw ho HBOX HRB ⊢
  have HL := Lib.hid HLL
  have HN := Lib.hid hN
  clear hX hkind H HP hrow hmid hlo hTb hTn hT0 hP1 hki hbox hLI hst3 hL hrecs1 hm2 hfl hof hN HLL
  go_enter Try.func30, Try.ntmps30
  go_wp2_with (first | (go_at_call 25; refine (hpl _).mono ?_; rintro e w' ⟨rfl, rfl⟩) | (go_at_call 56; refine stopAt ?_))
  unfold Hid
  refine htw.mono ?_
  rintro e W ⟨u, rfl, hot, hs1⟩
  obtain ⟨vsT, hownT, -⟩ := id hot
  obtain ⟨At, ct, rfl, hct, hmt⟩ := own_cap hownT
  rw [← HN.out] at hot hct hownT ⊢
  have hWs := HBOX.out.trans hs1
  have hst0 := (HMID.out W hWs).keepAll (Same.refl _ _).drew
  have rowW := HROW.out.keep hWs trivial
  have c2W := rowW.cell 2
  have c3W := rowW.cell 3
  have cbW := (HRB.out.keep hs1 trivial).cell 4
  simp at c2W c3W cbW
  have hTbw := HTN.out w.heap.size (Nat.le_refl _)
  have hbyW : ByL W (fun k => k < B0) (.slice A2 N cb) o.l := HL.out.keep (hWs.mono fun _ _ _ => trivial)
  have htl := hot.list
  have hszb : (w.alloc (.cells #[.int .i64 o.kind, .int .i64 o.n, .bool o.made, vb, .slice A2 N cb, vk] 53)).heap.size = w.heap.size + 1 := size_alloc1 _ _
  rw [hszb] at htl hot
  have hcc2 : ∀ wc, Same (Tb g r h p x (.slice A recs.length c)) W wc → ∀ F, LogAt wc p g r F d l → Calls Try.prog 21 #[ptr p, .slice At N ct] wc (WPost p g r F wc X d1 l1) := fun wc hs F hL => hcc wc F _ _ ((htl.keep (hs.mono fun k _ (hk : w.heap.size + 1 ≤ k) => HTN.out k (by omega))).by HM2.out) hL
  have hcd2 : ∀ wc u, Same (Tb g r h p x (.slice A recs.length c)) W wc → RdS wc (fun k => W.heap.size ≤ k) u o.l → RefWal wc x h B0 l recs (.slice A recs.length c) → RefAt wc h d → Calls Try.prog 57 #[ptr x, u] wc (XPost x h B0 (.slice A recs.length c) wc X d1 l1 recs1) := fun wc u hs hu => hcd wc _ u (by have := HLO.out.1; have := rowW.lt; have := hs.size; omega) hu fun k hk => by
    have := HTN.out k (by have := hWs.size; omega)
    exact ⟨this.2.2.2.2.1, this.2.2.1⟩
  have htx : ∀ wc, Same (Tb g r h p x (.slice A recs.length c)) W wc → Calls Try.prog 17 #[.slice A2 N cb] wc (TextsPost o.l wc) := fun wc hs => texts_any _ o.l _ wc (hbyW.keep (hs.mono fun k _ hk => HT0.out k hk)) (by have := HN.out; omega)
  have hkp : ∀ wc, Same (Tb g r h p x (.slice A recs.length c)) W wc → Calls Try.prog 58 #[.slice At N ct, .slice A2 N cb] wc fun e w' => e = .returned (.bool true) ∧ Same (fun _ => True) wc w' := fun wc hs => allkept_any _ _ o.l _ _ wc (htl.keep (hs.mono fun k _ (hk : w.heap.size + 1 ≤ k) => HTN.out k (by omega))) (hbyW.keep (hs.mono fun k _ hk => HT0.out k hk)) HM2.out
  have hrst : ∀ v wc w', RdS wc (fun k => W.heap.size ≤ k) v o.l → Same (Tb g r h p x (.slice A recs.length c)) wc w' → RdS w' (fun k => W.heap.size ≤ k) v o.l := fun v wc w' h1 h2 => h1.keep (h2.mono fun k _ hk => HTN.out k (by have := hWs.size; omega))
  have HWS := Lib.hid hWs
  have HRW := Lib.hid rowW
  have HTX := Lib.hid htx
  have HKP := Lib.hid hkp
  have HOT := Lib.hid hot
  unfold maxLen at hmt
  clear hWs rowW hpl c2 c3 htw hs1 hcc hbyW hkp htx hcd hot htl hownT hszb
  go_wp2
  refine wp_region_st_lit (T := Tb g r h p x (.slice A recs.length c)) (L := [.eq (ptr b), .eq (ptr b), .eq (.pointer (some ⟨b, 2, none⟩)), .eq (ptr p), .eq (.slice At N ct), .eq (.int .i64 X), .eq (ptr b), .eq (ptr b), .eq (.pointer (some ⟨b, 3, none⟩)), .eq (ptr x), .eq (.pointer (some ⟨w.heap.size, 4, none⟩)), .eq (.slice A2 N cb), ⟨fun v Wx => RdS Wx (fun k => W.heap.size ≤ k) v o.l, hrst⟩, .eq (.int .i64 X), .eq (.bool true), .eq (.bool true), .eq (.slice At N ct), .eq (.pointer (some ⟨w.heap.size, 4, none⟩)), .eq (.slice A2 N cb), .eq (.bool true), .eq (.bool true)]) (fun f Wx => Mid w.heap.size W.heap.size B0 b g r h p x (.slice A recs.length c) (cond (f 5) d1 d) (cond (f 13) d1 d) (cond (f 5) l1 l) (cond (f 13) l1 l) (cond (f 13) recs1 recs) (f 13) Wx) 21 (by kernel_rfl) (by kernel_rfl) rfl ?_ ?_ ?_
  · exact hst0
  · refine ⟨?_, ?_, ?_, ?_, ?_, ?_, ?_, ?_, ?_, ?_, ?_, ?_, ?_, ?_, ?_, ?_, ?_, ?_, ?_, ?_, ?_, trivial⟩
    · intro ac wc f hs hst hni hwt hd hz hf hw K hK
      have e0 : ac.eval (.tmp 0) = (ptr b) := hf 0 rfl
      clear hd hz hf hw
      simp only [Region.wanted, if_true, Oper.wp, execOp, resolve, List.map_toArray, List.map_cons, List.map_nil, Option.map_some, Option.map_none, e0]
      go_simp
      exact hK _ _ rfl (Same.refl _ _) hst
    · intro ac wc f hs hst hni hwt hd hz hf hw K hK
      have e0 : ac.eval (.tmp 141) = (ptr b) := hw 0 rfl
      clear hd hz hf hw
      simp only [Region.wanted, if_true, Oper.wp, execOp, resolve, List.map_toArray, List.map_cons, List.map_nil, Option.map_some, Option.map_none, e0]
      go_simp
      exact hK _ _ rfl (Same.refl _ _) hst
    · intro ac wc f hs hst hni hwt hd hz hf hw K hK
      have e0 : ac.eval (.tmp 142) = (ptr b) := hw 1 rfl
      clear hd hz hf hw
      simp only [Region.wanted, if_true, Oper.wp, execOp, resolve, List.map_toArray, List.map_cons, List.map_nil, Option.map_some, Option.map_none, e0]
      go_simp
      exact hK _ _ rfl (Same.refl _ _) hst
    · intro ac wc f hs hst hni hwt hd hz hf hw K hK
      have e0 : ac.eval (.tmp 143) = (.pointer (some ⟨b, 2, none⟩)) := hw 2 rfl
      have m0 : wc.cell? ⟨b, 2, none⟩ = some (ptr p) := hs.cell (p := ⟨b, 2, none⟩) HTB.out c2W
      clear hd hz hf hw
      simp only [Region.wanted, if_true, Oper.wp, execOp, resolve, List.map_toArray, List.map_cons, List.map_nil, Option.map_some, Option.map_none, e0]
      go_simp
      exact hK _ _ rfl (Same.refl _ _) hst
    · intro ac wc f hs hst hni hwt hd hz hf hw K hK
      have e0 : ac.eval (.tmp 8) = (.slice At N ct) := hf 8 rfl
      clear hd hz hf hw
      simp only [Region.wanted, if_true, Oper.wp, execOp, resolve, List.map_toArray, List.map_cons, List.map_nil, Option.map_some, Option.map_none, e0]
      go_simp
      exact hK _ _ rfl (Same.refl _ _) hst
    · intro ac wc f hs hst hni hwt hd hz hf hw K hK
      have e0 : ac.eval (.tmp 144) = (ptr p) := hw 3 rfl
      have e1 : ac.eval (.tmp 145) = (.slice At N ct) := hw 4 rfl
      clear hd hz hf hw
      simp only [Region.wanted, if_true, Oper.wp, execOp, resolve, List.map_toArray, List.map_cons, List.map_nil, Option.map_some, Option.map_none, e0, e1]
      go_simp
      have hM : Mid w.heap.size W.heap.size B0 b g r h p x (.slice A recs.length c) d (cond (f 13) d1 d) l (cond (f 13) l1 l) (cond (f 13) recs1 recs) (f 13) wc := by have q := hst; rw [hni] at q; exact q
      refine (hM.code HLO.out.1 (fun F hL => hcc2 wc hs F hL)).mono ?_
      rintro e w' ⟨rfl, hM', hs'⟩
      exact hK _ _ rfl hs' hM'
    · intro ac wc f hs hst hni hwt hd hz hf hw K hK
      have e0 : ac.eval (.tmp 0) = (ptr b) := hf 0 rfl
      clear hd hz hf hw
      simp only [Region.wanted, if_true, Oper.wp, execOp, resolve, List.map_toArray, List.map_cons, List.map_nil, Option.map_some, Option.map_none, e0]
      go_simp
      exact hK _ _ rfl (Same.refl _ _) hst
    · intro ac wc f hs hst hni hwt hd hz hf hw K hK
      have e0 : ac.eval (.tmp 147) = (ptr b) := hw 6 rfl
      clear hd hz hf hw
      simp only [Region.wanted, if_true, Oper.wp, execOp, resolve, List.map_toArray, List.map_cons, List.map_nil, Option.map_some, Option.map_none, e0]
      go_simp
      exact hK _ _ rfl (Same.refl _ _) hst
    · intro ac wc f hs hst hni hwt hd hz hf hw K hK
      have e0 : ac.eval (.tmp 148) = (ptr b) := hw 7 rfl
      clear hd hz hf hw
      simp only [Region.wanted, if_true, Oper.wp, execOp, resolve, List.map_toArray, List.map_cons, List.map_nil, Option.map_some, Option.map_none, e0]
      go_simp
      exact hK _ _ rfl (Same.refl _ _) hst
    · intro ac wc f hs hst hni hwt hd hz hf hw K hK
      have e0 : ac.eval (.tmp 149) = (.pointer (some ⟨b, 3, none⟩)) := hw 8 rfl
      have m0 : wc.cell? ⟨b, 3, none⟩ = some (ptr x) := hs.cell (p := ⟨b, 3, none⟩) HTB.out c3W
      clear hd hz hf hw
      simp only [Region.wanted, if_true, Oper.wp, execOp, resolve, List.map_toArray, List.map_cons, List.map_nil, Option.map_some, Option.map_none, e0]
      go_simp
      exact hK _ _ rfl (Same.refl _ _) hst
    · intro ac wc f hs hst hni hwt hd hz hf hw K hK
      have e0 : ac.eval (.tmp 3) = (.pointer (some ⟨w.heap.size, 0, none⟩)) := hf 3 rfl
      clear hd hz hf hw
      simp only [Region.wanted, if_true, Oper.wp, execOp, resolve, List.map_toArray, List.map_cons, List.map_nil, Option.map_some, Option.map_none, e0]
      go_simp
      exact hK _ _ rfl (Same.refl _ _) hst
    · intro ac wc f hs hst hni hwt hd hz hf hw K hK
      have e0 : ac.eval (.tmp 151) = (.pointer (some ⟨w.heap.size, 4, none⟩)) := hw 10 rfl
      have m0 : wc.cell? ⟨w.heap.size, 4, none⟩ = some ((.slice A2 N cb)) := hs.cell (p := ⟨w.heap.size, 4, none⟩) hTbw cbW
      clear hd hz hf hw
      simp only [Region.wanted, if_true, Oper.wp, execOp, resolve, List.map_toArray, List.map_cons, List.map_nil, Option.map_some, Option.map_none, e0]
      go_simp
      exact hK _ _ rfl (Same.refl _ _) hst
    · intro ac wc f hs hst hni hwt hd hz hf hw K hK
      have e0 : ac.eval (.tmp 152) = (.slice A2 N cb) := hw 11 rfl
      clear hd hz hf hw
      simp only [Region.wanted, if_true, Oper.wp, execOp, resolve, List.map_toArray, List.map_cons, List.map_nil, Option.map_some, Option.map_none, e0]
      go_simp
      refine (HTX.out wc hs).mono ?_
      rintro e w' ⟨u, rfl, hu, hs'⟩
      exact hK _ _ (hu.rd.mono fun k _ hk => Nat.le_trans hs.size hk) (hs'.mono fun _ _ _ => trivial) (hst.keepAll hs')
    · intro ac wc f hs hst hni hwt hd hz hf hw K hK
      have e0 : ac.eval (.tmp 150) = (ptr x) := hw 9 rfl
      have p1 : (⟨fun v Wx => RdS Wx (fun k => W.heap.size ≤ k) v o.l, hrst⟩ : SPT (Tb g r h p x (.slice A recs.length c))).p (ac.eval (.tmp 153)) wc := hw 12 rfl
      obtain ⟨u1, e1⟩ : ∃ u, ac.eval (.tmp 153) = u := ⟨_, rfl⟩
      rw [e1] at p1
      clear hd hz hf hw
      simp only [Region.wanted, if_true, Oper.wp, execOp, resolve, List.map_toArray, List.map_cons, List.map_nil, Option.map_some, Option.map_none, e0, e1]
      go_simp
      have hM : Mid w.heap.size W.heap.size B0 b g r h p x (.slice A recs.length c) (cond (f 5) d1 d) d (cond (f 5) l1 l) l recs false wc := by have q := hst; rw [hni] at q; exact q
      refine (hM.doc (fun hx hr => hcd2 wc u1 hs p1 hx hr)).mono ?_
      rintro e w' ⟨rfl, hM', hs'⟩
      exact hK _ _ rfl hs' hM'
    · intro ac wc f hs hst hni hwt hd hz hf hw K hK
      have e0 : ac.eval (.tmp 146) = (.int .i64 X) := hw 5 rfl
      have e1 : ac.eval (.tmp 154) = (.int .i64 X) := hw 13 rfl
      clear hd hz hf hw
      simp only [Region.wanted, if_true, Oper.wp, execOp, resolve, List.map_toArray, List.map_cons, List.map_nil, Option.map_some, Option.map_none, e0, e1]
      go_simp
      exact hK _ _ rfl (Same.refl _ _) hst
    · intro ac wc f hs hst hni hwt hd hz hf hw K hK
      have e0 : ac.eval (.tmp 155) = (.bool true) := hw 14 rfl
      clear hd hz hf hw
      simp only [Region.wanted, if_true, Oper.wp, execOp, resolve, List.map_toArray, List.map_cons, List.map_nil, Option.map_some, Option.map_none, e0]
      go_simp
      exact hK _ _ rfl (Same.refl _ _) hst
    · intro ac wc f hs hst hni hwt hd hz hf hw K hK
      have eg : ac.eval (.tmp 156) = .bool true := hw 15 rfl
      refine run_wanted (j := 15) (d := 156) (b := true) rfl rfl hz (of_decide_eq_true rfl) eg ?_
      clear eg
      have e0 : ac.eval (.tmp 8) = (.slice At N ct) := hf 8 rfl
      clear hd hz hf hw
      simp only [Oper.wp, execOp, resolve, List.map_toArray, List.map_cons, List.map_nil, Option.map_some, Option.map_none, e0]
      go_simp
      exact hK _ _ rfl (Same.refl _ _) hst
    · intro ac wc f hs hst hni hwt hd hz hf hw K hK
      have eg : ac.eval (.tmp 156) = .bool true := hw 15 rfl
      refine run_wanted (j := 15) (d := 156) (b := true) rfl rfl hz (of_decide_eq_true rfl) eg ?_
      clear eg
      have e0 : ac.eval (.tmp 3) = (.pointer (some ⟨w.heap.size, 0, none⟩)) := hf 3 rfl
      clear hd hz hf hw
      simp only [Oper.wp, execOp, resolve, List.map_toArray, List.map_cons, List.map_nil, Option.map_some, Option.map_none, e0]
      go_simp
      exact hK _ _ rfl (Same.refl _ _) hst
    · intro ac wc f hs hst hni hwt hd hz hf hw K hK
      have eg : ac.eval (.tmp 156) = .bool true := hw 15 rfl
      refine run_wanted (j := 15) (d := 156) (b := true) rfl rfl hz (of_decide_eq_true rfl) eg ?_
      clear eg
      have e0 : ac.eval (.tmp 158) = (.pointer (some ⟨w.heap.size, 4, none⟩)) := hw 17 rfl
      have m0 : wc.cell? ⟨w.heap.size, 4, none⟩ = some ((.slice A2 N cb)) := hs.cell (p := ⟨w.heap.size, 4, none⟩) hTbw cbW
      clear hd hz hf hw
      simp only [Oper.wp, execOp, resolve, List.map_toArray, List.map_cons, List.map_nil, Option.map_some, Option.map_none, e0]
      go_simp
      exact hK _ _ rfl (Same.refl _ _) hst
    · intro ac wc f hs hst hni hwt hd hz hf hw K hK
      have eg : ac.eval (.tmp 156) = .bool true := hw 15 rfl
      refine run_wanted (j := 15) (d := 156) (b := true) rfl rfl hz (of_decide_eq_true rfl) eg ?_
      clear eg
      have e0 : ac.eval (.tmp 157) = (.slice At N ct) := hw 16 rfl
      have e1 : ac.eval (.tmp 159) = (.slice A2 N cb) := hw 18 rfl
      clear hd hz hf hw
      simp only [Oper.wp, execOp, resolve, List.map_toArray, List.map_cons, List.map_nil, Option.map_some, Option.map_none, e0, e1]
      go_simp
      refine (HKP.out wc hs).mono ?_
      rintro e w' ⟨rfl, hs'⟩
      exact hK _ _ rfl (hs'.mono fun _ _ _ => trivial) (hst.keepAll hs')
    · intro ac wc f hs hst hni hwt hd hz hf hw K hK
      have e0 : ac.eval (.tmp 156) = (.bool true) := hw 15 rfl
      have e1 : ac.eval (.tmp 160) = (.bool true) := hw 19 rfl
      clear hd hz hf hw
      simp only [Region.wanted, if_true, Oper.wp, execOp, resolve, List.map_toArray, List.map_cons, List.map_nil, Option.map_some, Option.map_none, e0, e1]
      go_simp
      exact hK _ _ rfl (Same.refl _ _) hst
  · intro vs wR f hvl hvp hsR hst hfR
    rcases vs with _ | ⟨z0, _ | ⟨z1, _ | ⟨z2, _ | ⟨z3, _ | ⟨z4, _ | ⟨z5, _ | ⟨z6, _ | ⟨z7, _ | ⟨z8, _ | ⟨z9, _ | ⟨z10, _ | ⟨z11, _ | ⟨z12, _ | ⟨z13, _ | ⟨z14, _ | ⟨z15, _ | ⟨z16, _ | ⟨z17, _ | ⟨z18, _ | ⟨z19, _ | ⟨z20, _ | ⟨zz, zr⟩⟩⟩⟩⟩⟩⟩⟩⟩⟩⟩⟩⟩⟩⟩⟩⟩⟩⟩⟩⟩⟩
    rotate_right 1
    · simp at hvl
    · simp at hvl
    · simp at hvl
    · simp at hvl
    · simp at hvl
    · simp at hvl
    · simp at hvl
    · simp at hvl
    · simp at hvl
    · simp at hvl
    · simp at hvl
    · simp at hvl
    · simp at hvl
    · simp at hvl
    · simp at hvl
    · simp at hvl
    · simp at hvl
    · simp at hvl
    · simp at hvl
    · simp at hvl
    · simp at hvl
    · simp at hvl
    · obtain rfl : z0 = (ptr b) := hvp 0 (by omega)
      obtain rfl : z1 = (ptr b) := hvp 1 (by omega)
      obtain rfl : z2 = (.pointer (some ⟨b, 2, none⟩)) := hvp 2 (by omega)
      obtain rfl : z3 = (ptr p) := hvp 3 (by omega)
      obtain rfl : z4 = (.slice At N ct) := hvp 4 (by omega)
      obtain rfl : z5 = (.int .i64 X) := hvp 5 (by omega)
      obtain rfl : z6 = (ptr b) := hvp 6 (by omega)
      obtain rfl : z7 = (ptr b) := hvp 7 (by omega)
      obtain rfl : z8 = (.pointer (some ⟨b, 3, none⟩)) := hvp 8 (by omega)
      obtain rfl : z9 = (ptr x) := hvp 9 (by omega)
      obtain rfl : z10 = (.pointer (some ⟨w.heap.size, 4, none⟩)) := hvp 10 (by omega)
      obtain rfl : z11 = (.slice A2 N cb) := hvp 11 (by omega)
      have htx : (⟨fun v Wx => RdS Wx (fun k => W.heap.size ≤ k) v o.l, hrst⟩ : SPT (Tb g r h p x (.slice A recs.length c))).p z12 wR := hvp 12 (by omega)
      obtain rfl : z13 = (.int .i64 X) := hvp 13 (by omega)
      obtain rfl : z14 = (.bool true) := hvp 14 (by omega)
      obtain rfl : z15 = (.bool true) := hvp 15 (by omega)
      obtain rfl : z16 = (.slice At N ct) := hvp 16 (by omega)
      obtain rfl : z17 = (.pointer (some ⟨w.heap.size, 4, none⟩)) := hvp 17 (by omega)
      obtain rfl : z18 = (.slice A2 N cb) := hvp 18 (by omega)
      obtain rfl : z19 = (.bool true) := hvp 19 (by omega)
      obtain rfl : z20 = (.bool true) := hvp 20 (by omega)
      clear hvl hvp
      simp only [putAll, Act.put, List.setIfInBounds_toArray, List.set_cons_succ, List.set_cons_zero, List.take_succ_cons, List.take_zero, List.drop_succ_cons, List.drop_zero]
      have hM := hst
      rw [hfR 5 (by omega), hfR 13 (by omega)] at hM
      have hM : Mid w.heap.size W.heap.size B0 b g r h p x (.slice A recs.length c) d1 d1 l1 l1 recs1 true wR := hM
      have HM := Lib.hid hM
      have HSR := Lib.hid hsR
      have HSP := Lib.hid (HOT.out.sp (hsR.mono fun k _ (hk : w.heap.size + 1 ≤ k) => HTN.out k (by omega)))
      clear hst hM hsR hst0 hcc2 hcd2 c2W c3W cbW hTbw htx hrst
      go_wp2
      go_loopw [10] (fun i wr => ∃ k : Nat, k ≤ N ∧ i = .int .i64 k ∧ Hid (Sp wr (w.heap.size + 1) W.heap.size (.slice At N ct) o.l) ∧ Hid (Same (fun k => k < w.heap.size ∨ W.heap.size ≤ k) wR wr)) (fun i _ => N - (intOf i).toNat)
      case atStart => exact ⟨0, by omega, rfl, HSP, Lib.hid (Same.refl _ _)⟩
      case round =>
        obtain ⟨k, hkN, rfl, HS, HR⟩ := hrel
        obtain ⟨wo, rfl⟩ : ∃ wo : World, wo = wr := ⟨_, rfl⟩
        by_cases hlt : k < N
        · obtain ⟨ad, tg, ys, rfl, hcell, hg1, hg2, hrw, hyl, hnext⟩ := HS.out.at_ (k := k) (by rw [← HN.out]; exact hlt)
          have hyb := HM2.out o.l[k] (List.getElem_mem _)
          generalize o.l[k].length = yl at hcell hyl hnext hyb
          have hsp := spoil_row tg yl (yl + 3) ys wo hrw hyl (by omega) (by omega)
          have HNX := Lib.hid hnext
          clear hrw hnext hyl HSP HS
          go_wp2_with (go_at_call 54; refine hsp.mono ?_; rintro e w5 ⟨rfl, ⟨zs, hz, hzl⟩, hs5⟩)
          go_roundw
          case rel => exact ⟨k + 1, by omega, by go_num, Lib.hid (HNX.out w5 zs hz hzl hs5), Lib.hid (HR.out.trans (hs5.mono fun q _ hq => by omega))⟩
          case measure => simp [intOf]; omega
        · obtain rfl : N = k := by omega
          go_wp2
          go_ret
          obtain ⟨F', hF'⟩ := (HM.out.keep HR.out).twos ((HRW.out.keep HSR.out HTB.out).keep HR.out (.inl hb)) HLO.out
          exact ⟨rfl, d1, _, F', hF', HP1.out, ((HWS.out.mono fun _ _ _ => trivial).trans (HSR.out.mono fun k _ hk => HT0.out k hk)).trans (HR.out.mono fun q _ (hq : q < B0) => .inl (by have := HLO.out.1; omega))⟩
end Go.Proofs.Ytpjinngngbifoaa
namespace Go.Proofs.Ytpjinngngbifoaa
open Go.RowKit
theorem small_flat {o : OpW} (h : SmallOp o) : o.l.flatten.length ≤ 2000 := by
  have := sumFrom_small (most := 2000) (by omega) o.l 0 (by omega) (by have := h.2.2.1; unfold sumF at this; omega)
  omega
theorem both_do (B0 b g r h k : Nat) (F : Nat → Prop) (d : DiskM) (st : StM) (o : OpW) (vb vl vk : Value) (w : World) (H : Twos w B0 b g r h F d st) (HP : PInv k d st) (hk : k ≤ 41) (ho : SmallOp o)
    (hB : By w (fun k => k < B0) vb o.b) (hL : ByL w (fun k => k < B0) vl o.l) (hK : Ints w (fun k => k < B0) vk o.keep)
    (hki : -9223372036854775808 ≤ o.kind ∧ o.kind ≤ 9223372036854775807) (hn : -9223372036854775808 ≤ o.n ∧ o.n ≤ 9223372036854775807) :
    Calls Try.prog 30 #[ptr b, .agg #[.int .i64 o.kind, .int .i64 o.n, .bool o.made, vb, vl, vk]] w (DoneP B0 b g r h k w) := by
  have hp := placeF_bd o.kind 7
  have hp2 := hp.2 (by omega)
  by_cases h3 : placeF o.kind 7 = 3
  · exact do_arm B0 b g r h k F d st o vb vl vk w H HP hk hki hn h3
  by_cases h4 : placeF o.kind 7 = 4
  · exact do_power B0 b g r h k F d st o vb vl vk w H HP hk hK hki h4
  by_cases h5 : placeF o.kind 7 = 5
  · exact do_open B0 b g r h k F d st o vb vl vk w H HP hk hki h5
  by_cases h6 : placeF o.kind 7 = 6
  · cases hm : o.made with
    | false => exact hm ▸ do_hand_raw B0 b g r h k F d st o vb vl vk w H HP hk hB ho.1 hki hn h6 hm
    | true => exact hm ▸ do_hand_made B0 b g r h k F d st o vb vl vk w H HP hk hB ho.1 hki hn h6 hm
  cases st with
  | none => exact do_nil B0 b g r h k F d o vb vl vk w H HP hki (by omega) (by omega)
  | some z =>
    obtain ⟨l, recs⟩ := z
    by_cases h0 : placeF o.kind 7 = 0
    · exact do_append B0 b g r h k F d l recs o vb vl vk w H HP hk hB ho.1 hki h0
    by_cases h1 : placeF o.kind 7 = 1
    · exact do_sync B0 b g r h k F d l recs o vb vl vk w H HP hk hki h1
    exact do_rewrite B0 b g r h k F d l recs o vb vl vk w H HP hk hL ho.2.1 (small_flat ho) hki (by omega)
end Go.Proofs.Ytpjinngngbifoaa
