/-
  Words, plain models, laws and walks that the claims of this layer share (joined by shake.py). No condition.
-/
import Derived.Test.YtdfojghhpdkpfaaGreatDoorA6
set_option linter.unusedSimpArgs false
set_option linter.unusedVariables false
namespace Go.Proofs.YtdfojghhpdkpfaaGreatDoor
open Go.RowKit
def okA {α : Type} (d : α) (x : PR α) : α := match x with
  | .ok (a, _) => a
  | .error _ => d
def leftA {α : Type} (x : PR α) : List PT := match x with
  | .ok (_, l) => l
  | .error _ => []
theorem asCs_len (p : Value × Asn) : (asCs p).length = 7 := rfl
theorem asOne {w : World} {S : Nat → Prop} {u : Value} {y : Asn} (h : ExR w S u y.e) : ∀ c ∈ asCs (u, y), c.oneCell' = true := by
  intro c hc
  simp only [asCs, exCs, List.mem_cons, List.not_mem_nil, or_false] at hc
  rcases hc with rfl | rfl | rfl | rfl | rfl | rfl | rfl <;> first | rfl | exact h.one
def AsG (gs : Nat) (u : SU) (s : Stm) (y : Asn) (w : World) (v : Value) : Prop := v = .tuple #[] ∧ ∃ z, Row w gs 44 (stCs { u with sets := z } s) ∧ OwnL asCs 7 65 asOk w (gs + 1) z (s.sets ++ [y])
set_option maxRecDepth 100000 in
set_option maxHeartbeats 4000000 in
theorem assign_any (g t gs : Nat) (u : SU) (s : Stm) (l : List PT) (w : World) (h : PS w g t l 0) (hr : Row w gs 44 (stCs u s)) (hg : g < gs ∧ t < gs ∧ 1 < gs) (ho : OwnL asCs 7 65 asOk w (gs + 1) u.sets s.sets) (hlen : s.sets.length ≤ 1000000) :
    Calls Tryz.prog 87 #[pV g, pV gs] w (DoQ (fun q => q ≠ g ∧ q < gs) g t 0 (assignT l) (AsG gs u s) w) := by
  obtain ⟨X, hX⟩ : ∃ X, X = assignT l := ⟨_, rfl⟩
  rw [← hX]
  unfold assignT at hX
  obtain ⟨A0, c0, hu, hA1, hA2⟩ := ho.form
  obtain ⟨kd, tb, its, rws, sts, ft, cd, od, dn, lm⟩ := s
  obtain ⟨ui, ur, us, uc⟩ := u
  simp only at hu ho hlen
  subst hu
  simp only [stCs] at hr
  have HX := Lib.hid hX
  have HP := Lib.hid h
  have HR := Lib.hid hr
  have HO := Lib.hid ho
  have HLG := Lib.hid hg
  have HLEN := Lib.hid hlen
  have HS : Hid (Same (fun q => q ≠ g ∧ q < gs) w w) := Lib.hid (Same.refl _ _)
  have hgG := hg.1
  have HGw := Lib.hid hr.lt
  clear h hr hX ho hg hlen
  go_enter Tryz.func87, Tryz.ntmps87
  go_wp2_with (go_at_call 84; refine stopAt ?_)
  unfold Hid
  refine (name_any g t l 0 _ HP.out).mono ?_
  intro e w1 hR_
  cases hx : nameT l with
  | error p =>
    rw [hx] at hR_
    obtain ⟨rfl, hE⟩ := hR_
    have hq : DoQ (fun q => q ≠ g ∧ q < gs) g t 0 X (AsG gs ⟨ui, ur, .slice A0 sts.length c0, uc⟩ ⟨kd, tb, its, rws, sts, ft, cd, od, dn, lm⟩) w (.panicked [{ v := failV p.1 p.2, recovered := false }]) w1 := by
      rw [HX.out, hx]
      exact ⟨rfl, HS.out.trans (hE.mono fun q _ h => h.1)⟩
    exact ⟨rfl, hq⟩
  | ok q =>
    obtain ⟨nm, l1⟩ := q
    rw [hx] at hR_
    obtain ⟨v, rfl, rfl, hp, hS⟩ := hR_
    have hX := HX.out
    rw [hx, thenT_ok] at hX
    have HX := Lib.hid hX
    clear hX hx
    have hSz := hS.size
    have HR := Lib.hid (HR.out.keep hS (by omega))
    have HO := Lib.hid (HO.out.keep asK hS (fun q hq _ => by omega))
    have HS := Lib.hid (HS.out.trans (hS.mono fun q _ h => h.1))
    have HGw := Lib.hid (Nat.lt_of_lt_of_le HGw.out hS.size)
    have HP := Lib.hid hp
    clear hp hS
    go_wp2_with (go_at_call 40; refine stopAt ?_)
    unfold Hid
    refine (must_at g t l1 0 [[61]] _ HP.out).mono ?_
    intro e w2 hR_
    cases hx : mustT [[61]] l1 with
    | error p =>
      rw [hx] at hR_
      obtain ⟨rfl, hE⟩ := hR_
      have hq : DoQ (fun q => q ≠ g ∧ q < gs) g t 0 X (AsG gs ⟨ui, ur, .slice A0 sts.length c0, uc⟩ ⟨kd, tb, its, rws, sts, ft, cd, od, dn, lm⟩) w (.panicked [{ v := failV p.1 p.2, recovered := false }]) w2 := by
        rw [HX.out, hx]
        exact ⟨rfl, HS.out.trans (hE.mono fun q _ h => h.1)⟩
      exact ⟨rfl, hq⟩
    | ok q =>
      obtain ⟨⟨⟩, l2⟩ := q
      rw [hx] at hR_
      obtain ⟨v, rfl, rfl, hp, hS⟩ := hR_
      have hX := HX.out
      rw [hx, thenT_ok] at hX
      have HX := Lib.hid hX
      clear hX hx
      have hSz := hS.size
      have HR := Lib.hid (HR.out.keep hS (by omega))
      have HO := Lib.hid (HO.out.keep asK hS (fun q hq _ => by omega))
      have HS := Lib.hid (HS.out.trans (hS.mono fun q _ h => h.1))
      have HGw := Lib.hid (Nat.lt_of_lt_of_le HGw.out hS.size)
      have HP := Lib.hid hp
      clear hp hS
      go_upto_region 2 with (fail)
      obtain ⟨x, hxe⟩ : ∃ x, x = exprT l2 := ⟨_, rfl⟩
      have Hxe := Lib.hid hxe
      have hX := HX.out
      rw [← hxe] at hX
      have HXr : Hid (∀ p, x = .error p → X = .error p) := Lib.hid fun p hp => by rw [hX, hp]; rfl
      have HXk : Hid (x = .ok (okA .zero x, leftA x) → X = .ok (⟨nm, okA .zero x⟩, leftA x)) := Lib.hid fun hp => by
        rw [hX]
        conv => lhs; rw [hp]
        rfl
      have HS3 := HS
      have hAS : ∀ U, AppS asCs 7 65 asOk g t 0 gs 44 (.slice A0 sts.length c0) sts (⟨nm, okA .zero x⟩ : Asn) (fun z => [.int .i64 kd, .string (str tb), ui, ur, z, .bool ft, .int .i64 cd.kind, .string (str cd.s), .int .i64 cd.v.kind, .int .i64 cd.v.n, .string (str cd.v.s), uc, .string (str od), .bool dn, .int .i64 lm]) (leftA x) l2 false false false U w2 := fun U => ⟨HP.out, fun _ => HR.out, fun _ => HO.out, fun h => (by cases h), fun h => (by cases h)⟩
      have HST : Hid (∀ U, AppS asCs 7 65 asOk g t 0 gs 44 (.slice A0 sts.length c0) sts (⟨nm, okA .zero x⟩ : Asn) (fun z => [.int .i64 kd, .string (str tb), ui, ur, z, .bool ft, .int .i64 cd.kind, .string (str cd.s), .int .i64 cd.v.kind, .int .i64 cd.v.n, .string (str cd.v.s), uc, .string (str od), .bool dn, .int .i64 lm]) (leftA x) l2 false false false U w2.drew) := Lib.hid fun U => (hAS U).keep asK (Same.refl _ _).drew
      have HOW : Hid (∀ q, some q = Value.ownBlock (.slice A0 sts.length c0) → q < w2.heap.size) := Lib.hid fun q e => (HO.out.ge e).2
      clear hX hxe hAS
      refine wp_region_full_lit (T := TA g (gs) (.slice A0 sts.length c0)) (L := [some (.eq (pV gs)), some (.eq (pV gs)), some (.eq (pV gs)), some (.eq (.pointer (some ⟨gs, 4, none⟩))), some (.eq (.slice A0 sts.length c0)), some (.eq (.string (str nm))), some (.eq (pV g)), some (RuA exK g (gs) (.slice A0 sts.length c0) hgG (fun u => exV u (okA Ex.zero x)) (okA Ex.zero x) (x = .ok (okA Ex.zero x, leftA x))), some (RuA asK g (gs) (.slice A0 sts.length c0) hgG (fun u => .agg #[.string (str nm), .int .i64 (okA Ex.zero x).kind, .string (str (okA Ex.zero x).s), .int .i64 (okA Ex.zero x).v.kind, .int .i64 (okA Ex.zero x).v.n, .string (str (okA Ex.zero x).v.s), u]) ((⟨nm, okA .zero x⟩ : Asn)) (x = .ok (okA Ex.zero x, leftA x))), some (BsA asCs 65 asK g (gs) (.slice A0 sts.length c0) hgG ((⟨nm, okA .zero x⟩ : Asn)) (x = .ok (okA Ex.zero x, leftA x))), some (ApA g (gs) (.slice A0 sts.length c0) ((sts).length + 1) (x = .ok (okA Ex.zero x, leftA x))), some (.eq (pV gs)), some (.eq (.pointer (some ⟨gs, 4, none⟩))), none]) (fun f U W => AppS asCs 7 65 asOk g t 0 (gs) 44 (.slice A0 sts.length c0) (sts) ((⟨nm, okA .zero x⟩ : Asn)) (fun z => [.int .i64 kd, .string (str tb), ui, ur, z, .bool ft, .int .i64 cd.kind, .string (str cd.s), .int .i64 cd.v.kind, .int .i64 cd.v.n, .string (str cd.v.s), uc, .string (str od), .bool dn, .int .i64 lm]) (leftA x) (l2) (f 7) (f 10) (f 13) (U 10) W) (by kernel_rfl) (by kernel_rfl) (by rfl) rfl ?_ ?_ ?_
      · exact HST.out _
      · refine ⟨?_, ?_, ?_, ?_, ?_, ?_, ?_, ?_, ?_, ?_, ?_, ?_, ?_, ?_, trivial⟩
        · intro ac wc f hs hst hni hwt hdn hd hz hf hw K hK
          generalize hU : valF _ ac = U at hst hK
          have e0 : ac.eval (.tmp 1) = (pV gs) := hf 1 rfl
          clear hd hz hf hw
          simp only [Region.wanted, if_true, Oper.wp, execOp, resolve, List.map_toArray, List.map_cons, List.map_nil, Option.map_some, Option.map_none, e0]
          go_simp
          exact hK _ _ (fun _ => rfl) (Same.refl _ _) hst
        · intro ac wc f hs hst hni hwt hdn hd hz hf hw K hK
          generalize hU : valF _ ac = U at hst hK
          have e0 : ac.eval (.tmp 1) = (pV gs) := hf 1 rfl
          clear hd hz hf hw
          simp only [Region.wanted, if_true, Oper.wp, execOp, resolve, List.map_toArray, List.map_cons, List.map_nil, Option.map_some, Option.map_none, e0]
          go_simp
          exact hK _ _ (fun _ => rfl) (Same.refl _ _) hst
        · intro ac wc f hs hst hni hwt hdn hd hz hf hw K hK
          generalize hU : valF _ ac = U at hst hK
          have e0 : ac.eval (.tmp 11) = (pV gs) := hw 1 rfl
          clear hd hz hf hw
          simp only [Region.wanted, if_true, Oper.wp, execOp, resolve, List.map_toArray, List.map_cons, List.map_nil, Option.map_some, Option.map_none, e0]
          go_simp
          exact hK _ _ (fun _ => rfl) (Same.refl _ _) hst
        · intro ac wc f hs hst hni hwt hdn hd hz hf hw K hK
          generalize hU : valF _ ac = U at hst hK
          have e0 : ac.eval (.tmp 12) = (pV gs) := hw 2 rfl
          clear hd hz hf hw
          simp only [Region.wanted, if_true, Oper.wp, execOp, resolve, List.map_toArray, List.map_cons, List.map_nil, Option.map_some, Option.map_none, e0]
          go_simp
          exact hK _ _ (fun _ => rfl) (Same.refl _ _) hst
        · intro ac wc f hs hst hni hwt hdn hd hz hf hw K hK
          generalize hU : valF _ ac = U at hst hK
          have e0 : ac.eval (.tmp 13) = (.pointer (some ⟨gs, 4, none⟩)) := hw 3 rfl
          have h9 : f 13 = false := by
            cases h : f 13 with
            | false => rfl
            | true =>
              have q0 := hdn 13 10 rfl h
              have q1 := hdn 10 4 rfl q0
              rw [hni] at q1
              cases q1
          have hr_ := hst.2.1 h9
          have m_ := hr_.cell 4
          simp only [List.getElem?_cons_zero, List.getElem?_cons_succ] at m_
          clear hr_
          clear hd hz hf hw
          simp only [Region.wanted, if_true, Oper.wp, execOp, resolve, List.map_toArray, List.map_cons, List.map_nil, Option.map_some, Option.map_none, e0]
          go_simp
          exact hK _ _ (fun _ => rfl) (Same.refl _ _) hst
        · intro ac wc f hs hst hni hwt hdn hd hz hf hw K hK
          generalize hU : valF _ ac = U at hst hK
          have e0 : ac.eval (.tmp 4) = (.string (str nm)) := hf 4 rfl
          clear hd hz hf hw
          simp only [Region.wanted, if_true, Oper.wp, execOp, resolve, List.map_toArray, List.map_cons, List.map_nil, Option.map_some, Option.map_none, e0]
          go_simp
          exact hK _ _ (fun _ => rfl) (Same.refl _ _) hst
        · intro ac wc f hs hst hni hwt hdn hd hz hf hw K hK
          generalize hU : valF _ ac = U at hst hK
          have e0 : ac.eval (.tmp 0) = (pV g) := hf 0 rfl
          clear hd hz hf hw
          simp only [Region.wanted, if_true, Oper.wp, execOp, resolve, List.map_toArray, List.map_cons, List.map_nil, Option.map_some, Option.map_none, e0]
          go_simp
          exact hK _ _ (fun _ => rfl) (Same.refl _ _) hst
        · intro ac wc f hs hst hni hwt hdn hd hz hf hw K hK
          generalize hU : valF _ ac = U at hst hK
          have e0 : ac.eval (.tmp 16) = (pV g) := hw 6 rfl
          have Hdf := Lib.hid (show ac.defers = [] from hd)
          have h13 : f 13 = false := by
            cases h : f 13 with
            | false => rfl
            | true =>
              have q0 := h
              have q1 := hdn 13 10 rfl q0
              have q2 := hdn 10 9 rfl q1
              have q3 := hdn 9 8 rfl q2
              have q4 := hdn 8 7 rfl q3
              rw [hni] at q4
              cases q4
          have h10 : f 10 = false := by
            cases h : f 10 with
            | false => rfl
            | true =>
              have q0 := h
              have q1 := hdn 10 9 rfl q0
              have q2 := hdn 9 8 rfl q1
              have q3 := hdn 8 7 rfl q2
              rw [hni] at q3
              cases q3
          have hst2 : AppS asCs 7 65 asOk g t 0 (gs) 44 (.slice A0 sts.length c0) (sts) ((⟨nm, okA .zero x⟩ : Asn)) (fun z => [.int .i64 kd, .string (str tb), ui, ur, z, .bool ft, .int .i64 cd.kind, .string (str cd.s), .int .i64 cd.v.kind, .int .i64 cd.v.n, .string (str cd.v.s), uc, .string (str od), .bool dn, .int .i64 lm]) (leftA x) (l2) (false) (false) (false) (U 10) wc := by
            have h := hst
            simp only [hni, h10, h13] at h
            exact h
          have hps : PS wc g t (l2) 0 := hst2.1
          have HST2 := Lib.hid hst2
          clear hd hz hf hw
          simp only [Region.wanted, if_true, Oper.wp, execOp, resolve, List.map_toArray, List.map_cons, List.map_nil, Option.map_some, Option.map_none, e0]
          go_simp
          refine (expr_any g t l2 wc hps).mono ?_
          intro e wd h1
          cases hx : exprT l2 with
          | error p =>
            rw [hx] at h1
            obtain ⟨rfl, hSp⟩ := h1
            have hq : DoQ (fun q => q ≠ g ∧ q < gs) g t 0 X (AsG gs ⟨ui, ur, .slice A0 sts.length c0, uc⟩ ⟨kd, tb, its, rws, sts, ft, cd, od, dn, lm⟩) w (.panicked [{ v := failV p.1 p.2, recovered := false }]) wd := by
              rw [HXr.out p (Hxe.out.trans hx)]
              exact ⟨rfl, (HS3.out.trans' hs fun q hq h => ⟨h.1, by have := h.2; omega, fun e => by have := (HO.out.ge e).1; omega⟩).trans (hSp.mono fun q _ h => h.1)⟩
            exact ⟨Hdf.out, hq⟩
          | ok q =>
            rw [hx] at h1
            obtain ⟨v', rfl, ⟨u2, rfl, hex⟩, hp2, hS2⟩ := h1
            have hxx : x = .ok (okA Ex.zero x, leftA x) := by rw [Hxe.out, hx]; rfl
            have hx1 : okA Ex.zero x = q.1 := by rw [Hxe.out, hx]; rfl
            have hx2 : leftA x = q.2 := by rw [Hxe.out, hx]; rfl
            have hzc := hs.size
            have hown := HST2.out.2.2.1 rfl
            rw [← hx1] at hex
            rw [← hx2] at hp2
            refine hK _ _ (fun _ => ⟨u2, by rw [hx1], exK.mono hex fun k hk (h : wc.heap.size ≤ k) => ⟨by have := HGw.out; omega, fun e => by have := (hown.ge e).2; omega⟩, hxx⟩) (hS2.mono fun k hk h => h.1) ?_
            show AppS asCs 7 65 asOk g t 0 (gs) 44 (.slice A0 sts.length c0) (sts) ((⟨nm, okA .zero x⟩ : Asn)) (fun z => [.int .i64 kd, .string (str tb), ui, ur, z, .bool ft, .int .i64 cd.kind, .string (str cd.s), .int .i64 cd.v.kind, .int .i64 cd.v.n, .string (str cd.v.s), uc, .string (str od), .bool dn, .int .i64 lm]) (leftA x) (l2) (true) (f 10) (f 13) (U 10) wd
            rw [h10, h13]
            exact AppS.call asK hgG HST2.out hp2 hS2
        · intro ac wc f hs hst hni hwt hdn hd hz hf hw K hK
          generalize hU : valF _ ac = U at hst hK
          have e0 : ac.eval (.tmp 15) = (.string (str nm)) := hw 5 rfl
          have p1 : (RuA exK g (gs) (.slice A0 sts.length c0) hgG (fun u => exV u (okA Ex.zero x)) (okA Ex.zero x) (x = .ok (okA Ex.zero x, leftA x)) : SPT (TA g (gs) (.slice A0 sts.length c0))).p (ac.eval (.tmp 17)) wc := hw 7 rfl
          obtain ⟨u1, e1⟩ : ∃ u, ac.eval (.tmp 17) = u := ⟨_, rfl⟩
          have v1 : U 7 = u1 := by rw [← hU]; exact e1
          rw [e1] at p1
          obtain ⟨u2, rfl, hex2, hxx⟩ := p1
          obtain ⟨A2, c2, rfl, -, -⟩ := (show ExR _ _ _ _ from hex2).toL.form
          have Hxx := Lib.hid hxx
          have Hex2 := Lib.hid hex2
          clear hxx hex2
          clear hd hz hf hw
          simp only [Region.wanted, if_true, Oper.wp, execOp, resolve, List.map_toArray, List.map_cons, List.map_nil, Option.map_some, Option.map_none, e0, e1]
          go_simp
          exact hK _ _ (fun _ => ⟨_, rfl, Hex2.out, Hxx.out⟩) (Same.refl _ _) hst
        · intro ac wc f hs hst hni hwt hdn hd hz hf hw K hK
          generalize hU : valF _ ac = U at hst hK
          have p0 : (RuA asK g (gs) (.slice A0 sts.length c0) hgG (fun u => .agg #[.string (str nm), .int .i64 (okA Ex.zero x).kind, .string (str (okA Ex.zero x).s), .int .i64 (okA Ex.zero x).v.kind, .int .i64 (okA Ex.zero x).v.n, .string (str (okA Ex.zero x).v.s), u]) ((⟨nm, okA .zero x⟩ : Asn)) (x = .ok (okA Ex.zero x, leftA x)) : SPT (TA g (gs) (.slice A0 sts.length c0))).p (ac.eval (.tmp 18)) wc := hw 8 rfl
          obtain ⟨u0, e0⟩ : ∃ u, ac.eval (.tmp 18) = u := ⟨_, rfl⟩
          have v0 : U 8 = u0 := by rw [← hU]; exact e0
          rw [e0] at p0
          obtain ⟨u2, rfl, hex2, hxx⟩ := p0
          obtain ⟨A2, c2, rfl, -, -⟩ := (show ExR _ _ _ _ from hex2).toL.form
          have Hxx := Lib.hid hxx
          have Hex2 := Lib.hid hex2
          clear hxx hex2
          clear hd hz hf hw
          simp only [Region.wanted, if_true, Oper.wp, execOp, resolve, List.map_toArray, List.map_cons, List.map_nil, Option.map_some, Option.map_none, e0]
          go_simp
          have hzc := hs.size
          have hsA := (Same.refl (fun _ => True) wc).alloc (.cells (asCs (.slice A2 (okA Ex.zero x).args.length c2, (⟨nm, okA .zero x⟩ : Asn))).toArray 65)
          have hsb : SA (gs) (.slice A0 sts.length c0) wc.heap.size := ⟨by have := HGw.out; omega, fun e => by have := HOW.out _ e; omega⟩
          exact hK _ _ (fun _ => ⟨_, _, rfl, Row.new wc 65 (asCs (.slice A2 (okA Ex.zero x).args.length c2, (⟨nm, okA .zero x⟩ : Asn))), hsb, asK.keep Hex2.out (hsA.mono fun _ _ _ => trivial), Hxx.out⟩) ((Same.refl _ _).alloc _) (AppS.keep asK hst ((Same.refl _ _).alloc _))
        · intro ac wc f hs hst hni hwt hdn hd hz hf hw K hK
          generalize hU : valF _ ac = U at hst hK
          have e0 : ac.eval (.tmp 14) = (.slice A0 sts.length c0) := hw 4 rfl
          have p1 : (BsA asCs 65 asK g (gs) (.slice A0 sts.length c0) hgG ((⟨nm, okA .zero x⟩ : Asn)) (x = .ok (okA Ex.zero x, leftA x)) : SPT (TA g (gs) (.slice A0 sts.length c0))).p (ac.eval (.tmp 19)) wc := hw 9 rfl
          obtain ⟨u1, e1⟩ : ∃ u, ac.eval (.tmp 19) = u := ⟨_, rfl⟩
          have v1 : U 9 = u1 := by rw [← hU]; exact e1
          rw [e1] at p1
          have d9 : f 9 = true := hwt 9 rfl
          have d8 : f 8 = true := hdn 9 8 rfl d9
          have d7 : f 7 = true := hdn 8 7 rfl d8
          have h13 : f 13 = false := by
            cases h : f 13 with
            | false => rfl
            | true =>
              have q0 := h
              have q1 := hdn 13 10 rfl q0
              rw [hni] at q1
              cases q1
          obtain ⟨b, u2, rfl, hrow, hb, hex2, hxx⟩ := p1
          have hst2 : AppS asCs 7 65 asOk g t 0 (gs) 44 (.slice A0 sts.length c0) (sts) ((⟨nm, okA .zero x⟩ : Asn)) (fun z => [.int .i64 kd, .string (str tb), ui, ur, z, .bool ft, .int .i64 cd.kind, .string (str cd.s), .int .i64 cd.v.kind, .int .i64 cd.v.n, .string (str cd.v.s), uc, .string (str od), .bool dn, .int .i64 lm]) (leftA x) (l2) (true) (false) (false) (U 10) wc := by
            have h := hst
            simp only [hni, d7, h13] at h
            exact h
          have hzc := hs.size
          refine step_appZ TAs asCs_len asK rfl (.tmp 14) (.tmp 19) rfl (hst2.2.2.1 rfl) u2 ((⟨nm, okA .zero x⟩ : Asn)) (asOne hex2) e0 e1 hrow hex2 (by have := HGw.out; omega) (by have := HLEN.out; omega) (by omega) ?_
          intro v' wd hO hS2
          have hK2 := hK v' wd (fun _ => ⟨by obtain ⟨A2, c2, h2, -, -⟩ := hO.form; exact ⟨A2, c2, by rw [h2, List.length_append]; rfl⟩, hxx⟩) (hS2.mono fun q _ h => h.2.2)
          refine hK2 ?_
          show AppS asCs 7 65 asOk g t 0 (gs) 44 (.slice A0 sts.length c0) (sts) ((⟨nm, okA .zero x⟩ : Asn)) (fun z => [.int .i64 kd, .string (str tb), ui, ur, z, .bool ft, .int .i64 cd.kind, .string (str cd.s), .int .i64 cd.v.kind, .int .i64 cd.v.n, .string (str cd.v.s), uc, .string (str od), .bool dn, .int .i64 lm]) (leftA x) (l2) (f 7) (true) (f 13) (v') wd
          rw [d7, h13]
          exact AppS.app HLG.out hst2 hO hS2
        · intro ac wc f hs hst hni hwt hdn hd hz hf hw K hK
          generalize hU : valF _ ac = U at hst hK
          have e0 : ac.eval (.tmp 10) = (pV gs) := hw 0 rfl
          clear hd hz hf hw
          simp only [Region.wanted, if_true, Oper.wp, execOp, resolve, List.map_toArray, List.map_cons, List.map_nil, Option.map_some, Option.map_none, e0]
          go_simp
          exact hK _ _ (fun _ => rfl) (Same.refl _ _) hst
        · intro ac wc f hs hst hni hwt hdn hd hz hf hw K hK
          generalize hU : valF _ ac = U at hst hK
          have e0 : ac.eval (.tmp 21) = (pV gs) := hw 11 rfl
          clear hd hz hf hw
          simp only [Region.wanted, if_true, Oper.wp, execOp, resolve, List.map_toArray, List.map_cons, List.map_nil, Option.map_some, Option.map_none, e0]
          go_simp
          exact hK _ _ (fun _ => rfl) (Same.refl _ _) hst
        · intro ac wc f hs hst hni hwt hdn hd hz hf hw K hK
          generalize hU : valF _ ac = U at hst hK
          have p0 : (ApA g (gs) (.slice A0 sts.length c0) ((sts).length + 1) (x = .ok (okA Ex.zero x, leftA x)) : SPT (TA g (gs) (.slice A0 sts.length c0))).p (ac.eval (.tmp 20)) wc := hw 10 rfl
          obtain ⟨u0, e0⟩ : ∃ u, ac.eval (.tmp 20) = u := ⟨_, rfl⟩
          have v0 : U 10 = u0 := by rw [← hU]; exact e0
          rw [e0] at p0
          have e1 : ac.eval (.tmp 22) = (.pointer (some ⟨gs, 4, none⟩)) := hw 12 rfl
          have d10 : f 10 = true := hwt 10 rfl
          have d9 : f 9 = true := hdn 10 9 rfl d10
          have d8 : f 8 = true := hdn 9 8 rfl d9
          have d7 : f 7 = true := hdn 8 7 rfl d8
          obtain ⟨⟨A2, c2, rfl⟩, hxx⟩ := p0
          have Hxx := Lib.hid hxx
          have hst2 : AppS asCs 7 65 asOk g t 0 (gs) 44 (.slice A0 sts.length c0) (sts) ((⟨nm, okA .zero x⟩ : Asn)) (fun z => [.int .i64 kd, .string (str tb), ui, ur, z, .bool ft, .int .i64 cd.kind, .string (str cd.s), .int .i64 cd.v.kind, .int .i64 cd.v.n, .string (str cd.v.s), uc, .string (str od), .bool dn, .int .i64 lm]) (leftA x) (l2) (true) (true) (false) (.slice A2 ((sts).length + 1) c2) wc := by
            have h := hst
            rw [d7, d10, hni, v0] at h
            exact h
          have hr_ := hst2.2.1 rfl
          have m_ := hr_.cell 4
          simp only [List.getElem?_cons_zero, List.getElem?_cons_succ] at m_
          have n_ := hr_.frozen 4
          have zr := hr_.lt
          have HST2 := Lib.hid hst2
          clear hr_ hst2 hxx
          clear hd hz hf hw
          simp only [Region.wanted, if_true, Oper.wp, execOp, resolve, List.map_toArray, List.map_cons, List.map_nil, Option.map_some, Option.map_none, e0, e1]
          go_simp
          obtain ⟨k1, k2⟩ := AppS.store asK HLG.out HST2.out 4 rfl
          refine hK undef _ (fun h => (by cases h)) k2 ?_
          show AppS asCs 7 65 asOk g t 0 (gs) 44 (.slice A0 sts.length c0) (sts) ((⟨nm, okA .zero x⟩ : Asn)) (fun z => [.int .i64 kd, .string (str tb), ui, ur, z, .bool ft, .int .i64 cd.kind, .string (str cd.s), .int .i64 cd.v.kind, .int .i64 cd.v.n, .string (str cd.v.s), uc, .string (str od), .bool dn, .int .i64 lm]) (leftA x) (l2) (f 7) (f 10) (true) (U 10) _
          rw [d7, d10, v0]
          exact k1
      · intro vs wR f hvl hvp hsR hst hfR
        rcases vs with _ | ⟨z0, _ | ⟨z1, _ | ⟨z2, _ | ⟨z3, _ | ⟨z4, _ | ⟨z5, _ | ⟨z6, _ | ⟨z7, _ | ⟨z8, _ | ⟨z9, _ | ⟨z10, _ | ⟨z11, _ | ⟨z12, _ | ⟨z13, _ | ⟨zz, zr⟩⟩⟩⟩⟩⟩⟩⟩⟩⟩⟩⟩⟩⟩⟩
        rotate_right 1
        · simp at hvl
        · simp at hvl
        · simp at hvl
        · simp at hvl
        · simp at hvl
        · simp at hvl
        · simp at hvl
        · simp at hvl
        · simp at hvl
        · simp at hvl
        · simp at hvl
        · simp at hvl
        · simp at hvl
        · simp at hvl
        · simp at hvl
        · obtain rfl : z0 = (pV gs) := hvp 0 (by simp)
          obtain rfl : z1 = (pV gs) := hvp 1 (by simp)
          obtain rfl : z2 = (pV gs) := hvp 2 (by simp)
          obtain rfl : z3 = (.pointer (some ⟨gs, 4, none⟩)) := hvp 3 (by simp)
          obtain rfl : z4 = (.slice A0 sts.length c0) := hvp 4 (by simp)
          obtain rfl : z5 = (.string (str nm)) := hvp 5 (by simp)
          obtain rfl : z6 = (pV g) := hvp 6 (by simp)
          have hru : (RuA exK g (gs) (.slice A0 sts.length c0) hgG (fun u => exV u (okA Ex.zero x)) (okA Ex.zero x) (x = .ok (okA Ex.zero x, leftA x)) : SPT (TA g (gs) (.slice A0 sts.length c0))).p z7 wR := hvp 7 (by simp)
          have hrb : (RuA asK g (gs) (.slice A0 sts.length c0) hgG (fun u => .agg #[.string (str nm), .int .i64 (okA Ex.zero x).kind, .string (str (okA Ex.zero x).s), .int .i64 (okA Ex.zero x).v.kind, .int .i64 (okA Ex.zero x).v.n, .string (str (okA Ex.zero x).v.s), u]) ((⟨nm, okA .zero x⟩ : Asn)) (x = .ok (okA Ex.zero x, leftA x)) : SPT (TA g (gs) (.slice A0 sts.length c0))).p z8 wR := hvp 8 (by simp)
          have hsb : (BsA asCs 65 asK g (gs) (.slice A0 sts.length c0) hgG ((⟨nm, okA .zero x⟩ : Asn)) (x = .ok (okA Ex.zero x, leftA x)) : SPT (TA g (gs) (.slice A0 sts.length c0))).p z9 wR := hvp 9 (by simp)
          have hap : (ApA g (gs) (.slice A0 sts.length c0) ((sts).length + 1) (x = .ok (okA Ex.zero x, leftA x)) : SPT (TA g (gs) (.slice A0 sts.length c0))).p z10 wR := hvp 10 (by simp)
          obtain rfl : z11 = (pV gs) := hvp 11 (by simp)
          obtain rfl : z12 = (.pointer (some ⟨gs, 4, none⟩)) := hvp 12 (by simp)
          clear hvl hvp
          simp only [putAll, Act.put, List.setIfInBounds_toArray, List.set_cons_succ, List.set_cons_zero, List.take_succ_cons, List.take_zero, List.drop_succ_cons, List.drop_zero]
          clear hru hrb hsb
          have hst := hst
          rw [hfR 7, hfR 10, hfR 13] at hst
          obtain ⟨⟨A9, c9, rfl⟩, hxx⟩ := hap
          obtain ⟨k1, -, -, k2, k3⟩ := hst
          have hp : PS wR g t (leftA x) 0 := k1
          have HP9 := Lib.hid hp
          have HO9 := Lib.hid (k2 rfl)
          have HR9 := Lib.hid (k3 rfl)
          have HSe := Lib.hid (HS.out.trans' hsR fun q hq h => ⟨h.1, by have := h.2; omega, fun e => by have := (HO.out.ge e).1; have := h.2; omega⟩)
          have HXe := Lib.hid (HXk.out hxx)
          clear k1 k2 k3 hp hxx
          go_wp2
          go_end0
          rw [HXe.out]
          exact ⟨_, rfl, ⟨rfl, _, HR9.out, HO9.out⟩, HP9.out, HSe.out⟩
theorem then_assoc {α β γ : Type} (x : PR α) (f : α → List PT → PR β) (h : β → List PT → PR γ) : thenT (thenT x f) h = thenT x fun a l => thenT (f a l) h := by
  cases x <;> rfl
theorem rwCs_len (p : Value × List Ex) : (rwCs p).length = 1 := rfl
theorem exCsP_len (p : Value × Ex) : (exCsP p).length = 6 := rfl
theorem exOne {w : World} {S : Nat → Prop} {u : Value} {y : Ex} (h : ExR w S u y) : ∀ c ∈ exCsP (u, y), c.oneCell' = true := by
  intro c hc
  simp only [exCsP, exCs, List.mem_cons, List.not_mem_nil, or_false] at hc
  rcases hc with rfl | rfl | rfl | rfl | rfl | rfl <;> first | rfl | exact h.one
theorem is_eq {n : Nat} {k : Nat} (h : n = k) : ((n : Int) == (k : Int)) = true := by subst h; simp
def RwG (gs : Nat) (u : SU) (s : Stm) (y : List Ex) (w : World) (v : Value) : Prop := v = .tuple #[] ∧ ∃ z, Row w gs 44 (stCs { u with rows := z } s) ∧ OwnL rwCs 1 32 rwOk w (gs + 1) z (s.rows ++ [y])
set_option maxRecDepth 100000 in
set_option maxHeartbeats 4000000 in
theorem row_any (g t gs : Nat) (u : SU) (s : Stm) (l : List PT) (w : World) (h : PS w g t l 0) (hr : Row w gs 44 (stCs u s)) (hg : g < gs ∧ t < gs ∧ 1 < gs) (ho : OwnL rwCs 1 32 rwOk w (gs + 1) u.rows s.rows) (hlen : s.rows.length ≤ 1000000) :
    Calls Tryz.prog 85 #[pV g, pV gs] w (DoQ (fun q => q ≠ g ∧ q < gs) g t 0 (rowT l) (RwG gs u s) w) := by
  obtain ⟨X, hX⟩ : ∃ X, X = rowT l := ⟨_, rfl⟩
  rw [← hX]
  unfold rowT at hX
  obtain ⟨A0, c0, hu, hA1, hA2⟩ := ho.form
  obtain ⟨kd, tb, its, rws, sts, ft, cd, od, dn, lm⟩ := s
  obtain ⟨ui, ur, us, uc⟩ := u
  simp only at hu ho hlen
  subst hu
  simp only [stCs] at hr
  have HX := Lib.hid hX
  have HP := Lib.hid h
  have HR := Lib.hid hr
  have HO := Lib.hid ho
  have HLG := Lib.hid hg
  have HLEN := Lib.hid hlen
  have HS : Hid (Same (fun q => q ≠ g) w w) := Lib.hid (Same.refl _ _)
  have hgG := hg.1
  have HGw := Lib.hid hr.lt
  have HSH := Lib.hid h.short
  unfold maxLen at hA2
  clear h hr hX ho hg hlen
  go_enter Tryz.func85, Tryz.ntmps85
  have HGw0 := HGw
  go_wp2_with (go_at_call 40; refine stopAt ?_)
  unfold Hid
  refine (must_at g t l 0 [[40]] _ HP.out).mono ?_
  intro e w1 hR_
  cases hx : mustT [[40]] l with
  | error p =>
    rw [hx] at hR_
    obtain ⟨rfl, hE⟩ := hR_
    have hq : DoQ (fun q => q ≠ g ∧ q < gs) g t 0 X (RwG gs ⟨ui, .slice A0 rws.length c0, us, uc⟩ ⟨kd, tb, its, rws, sts, ft, cd, od, dn, lm⟩) w (.panicked [{ v := failV p.1 p.2, recovered := false }]) w1 := by
      rw [HX.out, hx]
      exact ⟨rfl, (HS.out.trans hE).mono fun q _ h => h.1⟩
    exact ⟨rfl, hq⟩
  | ok q =>
    obtain ⟨⟨⟩, l1⟩ := q
    rw [hx] at hR_
    obtain ⟨v, rfl, rfl, hp, hS⟩ := hR_
    have hX := HX.out
    rw [hx, thenT_ok] at hX
    have HX := Lib.hid hX
    clear hX hx
    have hSz := hS.size
    have HS := Lib.hid (HS.out.trans hS)
    have HP := Lib.hid hp
    clear hp hS
    have hX := HX.out
    unfold listT at hX
    rw [then_assoc] at hX
    have HX := Lib.hid hX
    clear hX
    go_wp2_with (go_at_call 113; refine stopAt ?_)
    unfold Hid
    refine (expr_any g t l1 _ HP.out).mono ?_
    intro e w2 hR_
    cases hx : exprT l1 with
    | error p =>
      rw [hx] at hR_
      obtain ⟨rfl, hE⟩ := hR_
      have hq : DoQ (fun q => q ≠ g ∧ q < gs) g t 0 X (RwG gs ⟨ui, .slice A0 rws.length c0, us, uc⟩ ⟨kd, tb, its, rws, sts, ft, cd, od, dn, lm⟩) w (.panicked [{ v := failV p.1 p.2, recovered := false }]) w2 := by
        rw [HX.out, hx]
        exact ⟨rfl, (HS.out.trans hE).mono fun q _ h => h.1⟩
      exact ⟨rfl, hq⟩
    | ok q =>
      obtain ⟨e, l2⟩ := q
      rw [hx] at hR_
      obtain ⟨v, rfl, ⟨u0, rfl, hex⟩, hp, hS⟩ := hR_
      have hX := HX.out
      rw [hx, thenT_ok] at hX
      have HX := Lib.hid hX
      clear hX hx
      have hSz := hS.size
      have HS := Lib.hid (HS.out.trans hS)
      have HP := Lib.hid hp
      clear hp hS
      have HEX := Lib.hid hex
      clear hex
      obtain ⟨Au, cu, rfl, -, -⟩ := HEX.out.toL.form
      have hO1 := OwnL.one (B := w.heap.size) (e := 34) exCsP_len exK (HEX.out.mono (S' := fun q => w.heap.size ≤ q) fun q _ (h : w1.heap.size ≤ q) => by omega) (by omega)
      have hS2 := (Same.refl (fun _ => True) w2).alloc (.cells (exCsP (.slice Au e.args.length cu, e)).toArray 34)
      have hp2 := HP.out.keep hS2
      have hS2 := HS.out.trans (hS2.mono (S' := fun q => q ≠ g) fun _ _ _ => trivial)
      have HO1 := Lib.hid hO1
      have HP := Lib.hid hp2
      have HS := Lib.hid hS2
      have hX := HX.out
      have HX : Hid (X = thenT (sepT (isT [44]) exprT leadsT 6 l2.length [e] l2) (fun r l2 => thenT (mustT [[41]] l2) fun _ l3 => (.ok (r, l3) : PR (List Ex)))) := Lib.hid hX
      have HL3 : Hid (g < w.heap.size ∧ t < w.heap.size ∧ 1 < w.heap.size) := Lib.hid (by have := HLG.out; have := HGw0.out; omega)
      have HSH2 := Lib.hid HP.out.short
      clear hO1 hS2 hp2 hX
      go_wp2
      simp only [exCsP, exCs] at HO1 HP HS
      revert HO1 HP HS
      generalize w2.alloc _ = wl
      intro HO1 HP HS
      go_loopw [4] (fun v wr => ∃ (k : Nat) (acc : List Ex) (l' : List PT), X = thenT (sepT (isT [44]) exprT leadsT 6 k acc l') (fun r l2 => thenT (mustT [[41]] l2) fun _ l3 => (.ok (r, l3) : PR (List Ex))) ∧ l'.length ≤ k ∧ acc.length + l'.length ≤ 1000001 ∧ OwnL exCsP 6 34 ExR wr w.heap.size v acc ∧ PS wr g t l' 0 ∧ Same (fun q => q ≠ g) w wr) (fun _ wr => tokLen wr g)
      case atStart => exact ⟨_, [e], l2, HX.out, Nat.le_refl _, by have := HSH2.out; simp; omega, HO1.out, HP.out, HS.out⟩
      case round =>
        clear HX HP HO1 HS
        obtain ⟨k, acc, l', hX, hlk, hal, hov, hp, hS⟩ := hrel
        obtain ⟨Av, cv, rfl, hv1, hv2⟩ := hov.form
        have hpos := hp.end_.pos
        obtain ⟨k', rfl⟩ : ∃ k', k = k' + 1 := ⟨k - 1, by omega⟩
        unfold sepT at hX
        unfold maxLen at hv2
        have HX := Lib.hid hX
        have HLK := Lib.hid hlk
        have HAL := Lib.hid hal
        have HOV := Lib.hid hov
        have HP := Lib.hid hp
        have HPr := HP
        have HS := Lib.hid hS
        have hl3' := HL3.out
        clear hX hlk hal hov hp hS
        go_wp2_with (go_at_call 37; refine stopAt ?_)
        unfold Hid
        refine (take_any g t l' 0 [44] _ HP.out).mono ?_
        rintro e w3 ⟨rfl, hp, hS⟩
        have hSz := hS.size
        have HS := Lib.hid (HS.out.trans hS)
        have HOV := Lib.hid (HOV.out.keep exK hS fun q hq _ => by omega)
        clear hS
        cases hq : isT [44] l'
        · rw [hq, if_neg (by simp)] at hp
          have hX := HX.out
          rw [hq, if_neg (by simp)] at hX
          have HX := Lib.hid hX
          have HP := Lib.hid hp
          have HQ := Lib.hid hq
          clear hX hq hp
          have hX := HX.out
          rw [thenT_ok] at hX
          have HX := Lib.hid hX
          clear hX
          go_wp2_with (go_at_call 40; refine stopAt ?_)
          unfold Hid
          refine (must_at g t l' 0 [[41]] _ HP.out).mono ?_
          intro e wf hR_
          cases hx : mustT [[41]] l' with
          | error p =>
            rw [hx] at hR_
            obtain ⟨rfl, hE⟩ := hR_
            have hq : DoQ (fun q => q ≠ g ∧ q < gs) g t 0 X (RwG gs ⟨ui, .slice A0 rws.length c0, us, uc⟩ ⟨kd, tb, its, rws, sts, ft, cd, od, dn, lm⟩) w (.panicked [{ v := failV p.1 p.2, recovered := false }]) wf := by
              rw [HX.out, hx]
              exact ⟨rfl, (HS.out.trans hE).mono fun q _ h => h.1⟩
            exact ⟨rfl, hq⟩
          | ok q =>
            obtain ⟨⟨⟩, l3⟩ := q
            rw [hx] at hR_
            obtain ⟨v, rfl, rfl, hp, hS⟩ := hR_
            have hX := HX.out
            rw [hx, thenT_ok] at hX
            have HX := Lib.hid hX
            clear hX hx
            have hSz := hS.size
            have HS := Lib.hid (HS.out.trans hS)
            have HOV := Lib.hid (HOV.out.keep exK hS fun q hq _ => by omega)
            have HP := Lib.hid hp
            clear hp hS
            have hr := HR.out.keep HS.out (by omega)
            have hown := HO.out.keep rwK HS.out fun q hq _ => by omega
            have hls := ls_exL.1 (HOV.out.ls exK exCsP_len)
            have hHB : w.heap.size ≤ wf.heap.size := HS.out.size
            have c3 := hr.cell 3
            simp only [List.getElem?_cons_zero, List.getElem?_cons_succ] at c3
            have HR2 := Lib.hid hr
            have HO2 := Lib.hid hown
            have HL2 := Lib.hid hls
            clear hr hown hls
            go_wp2_with (at_builtin; refine stopAt ?_)
            unfold Hid
            refine wpList_appZ TRw rwCs_len rwK rfl (.tmp 34) (.tmp 36) rfl (.slice Av acc.length cv) acc (by intro c hc; simp only [rwCs, List.mem_cons, List.not_mem_nil, or_false] at hc; subst hc; rfl) rfl rfl rfl HO2.out (ExL.mono HL2.out fun q _ (h : w.heap.size ≤ q) => ⟨by have := HGw.out; omega, fun e => by have := (HO.out.ge e).2; omega⟩) (by have := HGw.out; omega) (by have := HLEN.out; simp only [maxLen]; omega) (by have := HLEN.out; omega) ?_
            intro z wz hOz hSz2 hbz
            obtain ⟨Az, cz, rfl, hz1, hz2⟩ := hOz.form
            rw [List.length_append] at hOz ⊢
            have hne : ∀ q, q ≤ gs → some q ≠ Value.ownBlock (.slice A0 rws.length c0) := fun q hq e => by have := (HO.out.ge e).1; omega
            have hr := HR2.out.keep hSz2 (hne gs (Nat.le_refl _))
            have c3 := hr.cell 3
            simp only [List.getElem?_cons_zero, List.getElem?_cons_succ] at c3
            have f3 := hr.frozen 3
            have zr := hr.lt
            have hlg := HLG.out
            have hp := HP.out.keepB hSz2 (hne g (by omega)) (hne t (by omega)) (hne _ (by omega))
            have hS := (HS.out.mono (S' := fun q => q ≠ g ∧ q < gs) fun q _ h => h.1).trans (hSz2.mono fun q _ h => hne q (by omega))
            have hs3 : Same (fun q => q ≠ gs) wz (wz.setCell ⟨gs, 3, none⟩ (.slice Az (rws.length + 1) cz)) := (Same.refl _ _).setCell (fun _ h => h rfl) _
            have hr3 := hr.set_ 3 (.slice Az (rws.length + 1) cz)
            have hp3 := hp.keepB hs3 (by omega) (by omega) (by omega)
            have hO3 := hOz.keep rwK hs3 fun q hq _ => by omega
            have hS3 := hS.trans (hs3.mono fun q _ h => by have := h.2; omega)
            have HR3 := Lib.hid hr3
            have HP3 := Lib.hid hp3
            have HO3 := Lib.hid hO3
            have HS3 := Lib.hid hS3
            clear hr hp hS hs3 hr3 hp3 hO3 hS3 hOz hSz2 hlg
            go_wp2
            go_end0
            rw [HX.out]
            exact ⟨_, rfl, ⟨rfl, _, HR3.out, HO3.out⟩, HP3.out, HS3.out⟩
        · rw [hq, if_pos rfl] at hp
          have hX := HX.out
          rw [hq, if_pos rfl] at hX
          have HX := Lib.hid hX
          have HP := Lib.hid hp
          have HQ := Lib.hid hq
          clear hX hq hp
          have htl := HPr.out.end_.tail (isT_kind HQ.out)
          have HTL := Lib.hid htl
          clear htl
          go_wp2_with (go_at_call 112; refine stopAt ?_)
          unfold Hid
          refine (leads_any g t l'.tail 0 w3 HP.out).mono ?_
          rintro e w4 ⟨rfl, hS⟩
          have hp := HP.out.keep hS
          have hS := hS.mono (S' := fun q => q ≠ g) fun _ _ _ => trivial
          have hSz := hS.size
          have HS := Lib.hid (HS.out.trans hS)
          have HOV := Lib.hid (HOV.out.keep exK hS fun q hq _ => by omega)
          have HP := Lib.hid hp
          clear hp hS
          cases hb : leadsT l'.tail
          · have hX := HX.out
            rw [hb, Bool.false_and, if_neg (by simp)] at hX
            rw [then_assoc] at hX
            have HX := Lib.hid hX
            clear hX hb
            go_wp2_with (go_at_call 113; refine stopAt ?_)
            unfold Hid
            refine (expr_any g t l'.tail w4 HP.out).mono ?_
            intro e w5 hR_
            have hgB5 : w.heap.size ≤ w4.heap.size := HS.out.size
            have HOV5 := HOV
            cases hx : exprT l'.tail with
            | error p =>
              rw [hx] at hR_
              obtain ⟨rfl, hE⟩ := hR_
              have hq : DoQ (fun q => q ≠ g ∧ q < gs) g t 0 X (RwG gs ⟨ui, .slice A0 rws.length c0, us, uc⟩ ⟨kd, tb, its, rws, sts, ft, cd, od, dn, lm⟩) w (.panicked [{ v := failV p.1 p.2, recovered := false }]) w5 := by
                rw [HX.out, hx]
                exact ⟨rfl, (HS.out.trans hE).mono fun q _ h => h.1⟩
              exact ⟨rfl, hq⟩
            | ok q =>
              obtain ⟨e2, l4⟩ := q
              have hxk := hx
              rw [hx] at hR_
              obtain ⟨v, rfl, ⟨_, rfl, hex⟩, hp, hS⟩ := hR_
              have hX := HX.out
              rw [hx, thenT_ok] at hX
              have HX := Lib.hid hX
              clear hX hx
              have hSz := hS.size
              have HS := Lib.hid (HS.out.trans hS)
              have HOV := Lib.hid (HOV.out.keep exK hS fun q hq _ => by omega)
              have HP := Lib.hid hp
              clear hp hS
              have HEX := Lib.hid hex
              clear hex
              obtain ⟨Au2, cu2, rfl, -, -⟩ := HEX.out.toL.form
              have hfit := expr_fit l'.tail HTL.out.1 e2 l4 hxk
              have hlen2 : acc.length + 1 + l4.length ≤ 1000001 := by have := hfit.2; have := HTL.out.2; have := HAL.out; omega
              have hlk : l4.length ≤ k' := by have := hfit.2; have := HTL.out.2; have := HLK.out; omega
              have hms : l4.length < l'.length := by have := hfit.2; have := HTL.out.2; omega
              have hHB : w.heap.size ≤ w5.heap.size := HS.out.size
              have hgB : w.heap.size ≤ w4.heap.size := hgB5
              clear hfit
              go_wp2_with (at_builtin; refine stopAt ?_)
              unfold Hid
              refine wpList_appZ TEx exCsP_len exK rfl (.tmp 22) (.tmp 25) rfl (.slice Au2 e2.args.length cu2) e2 (exOne HEX.out) rfl rfl rfl HOV.out (HEX.out.mono fun q _ (h : w4.heap.size ≤ q) => ⟨by omega, fun e => by have := (HOV5.out.ge e).2; omega⟩) (by omega) (by simp only [maxLen]; omega) (by omega) ?_
              intro z wz hOz hSz2 hbz
              obtain ⟨Az, cz, rfl, hz1, hz2⟩ := hOz.form
              rw [List.length_append] at hOz ⊢
              have hne : ∀ q, q < w.heap.size → some q ≠ Value.ownBlock (.slice Av acc.length cv) := fun q hq e => by have := (HOV.out.ge e).1; omega
              have hl3 := HL3.out
              have hp := HP.out.keepB hSz2 (hne g (by omega)) (hne t (by omega)) (hne _ (by omega))
              have hS := HS.out.trans' hSz2 fun q hq _ => hne q hq
              have HP := Lib.hid hp
              have HS := Lib.hid hS
              have HOZ := Lib.hid hOz
              have hla := HP.out.len
              have hlb := HPr.out.len
              clear hp hS hOz hSz2 hl3
              go_wp2
              go_roundw
              case rel => exact ⟨k', acc ++ [e2], l4, HX.out, hlk, by rw [List.length_append]; exact hlen2, HOZ.out, HP.out, HS.out⟩
              case measure => omega
          · by_cases h6 : acc.length = 6
            · have e6 : ((acc.length : Int) == 6) = true := is_eq h6
              have hX := HX.out
              rw [hb, Bool.true_and, if_pos (by simpa using h6)] at hX
              have HX := Lib.hid hX
              clear hX hb h6
              go_wp2_with (go_at_call 39; refine stopAt ?_)
              unfold Hid
              refine (wrong_any g t l'.tail 0 3 w4 HP.out).mono ?_
              rintro e w5 ⟨rfl, hE⟩
              have hq : DoQ (fun q => q ≠ g ∧ q < gs) g t 0 X (RwG gs ⟨ui, .slice A0 rws.length c0, us, uc⟩ ⟨kd, tb, its, rws, sts, ft, cd, od, dn, lm⟩) w (.panicked [{ v := failV (hdT l'.tail).1 3, recovered := false }]) w5 := by
                rw [HX.out]
                exact ⟨rfl, (HS.out.trans hE).mono fun q _ h => h.1⟩
              exact ⟨rfl, hq⟩
            · have e6 : ((acc.length : Int) == 6) = false := no_k h6
              have hX := HX.out
              rw [hb, Bool.true_and, if_neg (by simpa using h6)] at hX
              rw [then_assoc] at hX
              have HX := Lib.hid hX
              clear hX hb h6
              go_wp2_with (go_at_call 113; refine stopAt ?_)
              unfold Hid
              refine (expr_any g t l'.tail w4 HP.out).mono ?_
              intro e w5 hR_
              have hgB5 : w.heap.size ≤ w4.heap.size := HS.out.size
              have HOV5 := HOV
              cases hx : exprT l'.tail with
              | error p =>
                rw [hx] at hR_
                obtain ⟨rfl, hE⟩ := hR_
                have hq : DoQ (fun q => q ≠ g ∧ q < gs) g t 0 X (RwG gs ⟨ui, .slice A0 rws.length c0, us, uc⟩ ⟨kd, tb, its, rws, sts, ft, cd, od, dn, lm⟩) w (.panicked [{ v := failV p.1 p.2, recovered := false }]) w5 := by
                  rw [HX.out, hx]
                  exact ⟨rfl, (HS.out.trans hE).mono fun q _ h => h.1⟩
                exact ⟨rfl, hq⟩
              | ok q =>
                obtain ⟨e2, l4⟩ := q
                have hxk := hx
                rw [hx] at hR_
                obtain ⟨v, rfl, ⟨_, rfl, hex⟩, hp, hS⟩ := hR_
                have hX := HX.out
                rw [hx, thenT_ok] at hX
                have HX := Lib.hid hX
                clear hX hx
                have hSz := hS.size
                have HS := Lib.hid (HS.out.trans hS)
                have HOV := Lib.hid (HOV.out.keep exK hS fun q hq _ => by omega)
                have HP := Lib.hid hp
                clear hp hS
                have HEX := Lib.hid hex
                clear hex
                obtain ⟨Au2, cu2, rfl, -, -⟩ := HEX.out.toL.form
                have hfit := expr_fit l'.tail HTL.out.1 e2 l4 hxk
                have hlen2 : acc.length + 1 + l4.length ≤ 1000001 := by have := hfit.2; have := HTL.out.2; have := HAL.out; omega
                have hlk : l4.length ≤ k' := by have := hfit.2; have := HTL.out.2; have := HLK.out; omega
                have hms : l4.length < l'.length := by have := hfit.2; have := HTL.out.2; omega
                have hHB : w.heap.size ≤ w5.heap.size := HS.out.size
                have hgB : w.heap.size ≤ w4.heap.size := hgB5
                clear hfit
                go_wp2_with (at_builtin; refine stopAt ?_)
                unfold Hid
                refine wpList_appZ TEx exCsP_len exK rfl (.tmp 22) (.tmp 25) rfl (.slice Au2 e2.args.length cu2) e2 (exOne HEX.out) rfl rfl rfl HOV.out (HEX.out.mono fun q _ (h : w4.heap.size ≤ q) => ⟨by omega, fun e => by have := (HOV5.out.ge e).2; omega⟩) (by omega) (by simp only [maxLen]; omega) (by omega) ?_
                intro z wz hOz hSz2 hbz
                obtain ⟨Az, cz, rfl, hz1, hz2⟩ := hOz.form
                rw [List.length_append] at hOz ⊢
                have hne : ∀ q, q < w.heap.size → some q ≠ Value.ownBlock (.slice Av acc.length cv) := fun q hq e => by have := (HOV.out.ge e).1; omega
                have hl3 := HL3.out
                have hp := HP.out.keepB hSz2 (hne g (by omega)) (hne t (by omega)) (hne _ (by omega))
                have hS := HS.out.trans' hSz2 fun q hq _ => hne q hq
                have HP := Lib.hid hp
                have HS := Lib.hid hS
                have HOZ := Lib.hid hOz
                have hla := HP.out.len
                have hlb := HPr.out.len
                clear hp hS hOz hSz2 hl3
                go_wp2
                go_roundw
                case rel => exact ⟨k', acc ++ [e2], l4, HX.out, hlk, by rw [List.length_append]; exact hlen2, HOZ.out, HP.out, HS.out⟩
                case measure => omega
abbrev itV (u : Value) (x : Itm) : Value := .agg #[.int .i64 x.kind, .int .i64 x.e.kind, .string (str x.e.s), .int .i64 x.e.v.kind, .int .i64 x.e.v.n, .string (str x.e.v.s), u]
def zit : List Value := [.int .i64 0, .int .i64 0, .string ⟨#[]⟩, .int .i64 0, .int .i64 0, .string ⟨#[]⟩, .slice none 0 0]
def ItG (B : Nat) (x : Itm) (w : World) (v : Value) : Prop := ∃ u, v = itV u x ∧ ExR w (fun q => B ≤ q) u x.e
theorem item_results {W : World} {k : Nat} {u : Value} {x : Itm} (R : Row W k 63 (itCs (u, x))) {tmps : Array Value} (h1 : tmps.getD 2 undef = .pointer (some ⟨k, 0, none⟩)) :
    (results Tryz.f111 tmps).run Tryz.prog W = .ok (itV u x) W := by
  have d0 : W.cell? ⟨k, 0, none⟩ = some (.int .i64 x.kind) := R.cell 0
  have d1 : W.cell? ⟨k, 1, none⟩ = some (.int .i64 x.e.kind) := R.cell 1
  have d2 : W.cell? ⟨k, 2, none⟩ = some (.string (str x.e.s)) := R.cell 2
  have d3 : W.cell? ⟨k, 3, none⟩ = some (.int .i64 x.e.v.kind) := R.cell 3
  have d4 : W.cell? ⟨k, 4, none⟩ = some (.int .i64 x.e.v.n) := R.cell 4
  have d5 : W.cell? ⟨k, 5, none⟩ = some (.string (str x.e.v.s)) := R.cell 5
  have d6 : W.cell? ⟨k, 6, none⟩ = some (u) := R.cell 6
  simp at h1
  simp [results, Tryz.results111, h1, go_sem, d0, d1, d2, d3, d4, d5, d6]
set_option maxRecDepth 100000 in
set_option maxHeartbeats 4000000 in
theorem item_any (g t : Nat) (l : List PT) (w : World) (h : PS w g t l 0) : Calls Tryz.prog 111 #[pV g] w (DoP g t 0 (itemT l) (ItG w.heap.size) w) := by
  obtain ⟨X, hX⟩ : ∃ X, X = itemT l := ⟨_, rfl⟩
  rw [← hX]
  unfold itemT at hX
  have HX := Lib.hid hX
  have HL3 := Lib.hid h.lt3
  have hS0 := (Same.refl (fun _ => True) w).alloc (.cells zit.toArray 63)
  have HRR := Lib.hid (Row.new w 63 zit)
  have hz0 : (w.alloc (.cells zit.toArray 63)).heap.size = w.heap.size + 1 := by simp
  have HP := Lib.hid (h.keep hS0)
  have HS := Lib.hid (hS0.mono (S' := fun q => q ≠ g) fun _ _ _ => trivial)
  obtain ⟨l3, l4, l5⟩ := h.lt3
  clear h hX hS0
  go_enter Tryz.func111, Tryz.ntmps111
  go_upto_region 1 with (fail)
  simp only [zit] at HRR HP HS hz0
  revert HRR HP HS hz0
  generalize w.alloc _ = w0
  intro HRR hz0 HP HS
  go_wp2_with (go_at_call 37; refine stopAt ?_)
  unfold Hid
  refine (take_any g t l 0 wCOUNT _ HP.out).mono ?_
  rintro e w1 ⟨rfl, hp, hS⟩
  have hSz := hS.size
  have HRR := Lib.hid (HRR.out.keep hS (by omega))
  have HS := Lib.hid (HS.out.trans hS)
  clear hS
  cases hq : isT wCOUNT l
  · rw [hq, if_neg (by simp)] at hp
    have hX := HX.out
    rw [hq, if_neg (by simp)] at hX
    have HX := Lib.hid hX
    have HP := Lib.hid hp
    clear hX hq hp
    go_wp2_with (go_at_call 37; refine stopAt ?_)
    unfold Hid
    refine (take_any g t l 0 wSUM _ HP.out).mono ?_
    rintro e w2 ⟨rfl, hp, hS⟩
    have hSz := hS.size
    have HRR := Lib.hid (HRR.out.keep hS (by omega))
    have HS := Lib.hid (HS.out.trans hS)
    clear hS
    cases hq : isT wSUM l
    · rw [hq, if_neg (by simp)] at hp
      have hX := HX.out
      rw [hq, if_neg (by simp)] at hX
      have HX := Lib.hid hX
      have HP := Lib.hid hp
      clear hX hq hp
      go_wp2_with (go_at_call 113; refine stopAt ?_)
      unfold Hid
      refine (expr_any g t l w2 HP.out).mono ?_
      intro e w3 hR_
      cases hx : exprT l with
      | error p =>
        rw [hx] at hR_
        obtain ⟨rfl, hE⟩ := hR_
        have hq : DoP g t 0 X (ItG w.heap.size) w (.panicked [{ v := failV p.1 p.2, recovered := false }]) w3 := by
          rw [HX.out, hx]
          exact ⟨rfl, HS.out.trans hE⟩
        exact ⟨rfl, hq⟩
      | ok q =>
        obtain ⟨e, l1⟩ := q
        rw [hx] at hR_
        obtain ⟨v, rfl, ⟨ue, rfl, hex⟩, hp, hS⟩ := hR_
        have hX := HX.out
        rw [hx, thenT_ok] at hX
        have HX := Lib.hid hX
        clear hX hx
        have hSz := hS.size
        have HRR := Lib.hid (HRR.out.keep hS (by omega))
        have HS := Lib.hid (HS.out.trans hS)
        have HP := Lib.hid hp
        clear hp hS
        have HEX := Lib.hid hex
        clear hex
        obtain ⟨Au, cu, rfl, -, -⟩ := HEX.out.toL.form
        generalize e.args.length = nu at *
        have hB2 : w.heap.size + 1 ≤ w2.heap.size := by omega
        have rr := HRR.out
        have q0 := rr.cell 0
        have q1 := rr.cell 1
        have q2 := rr.cell 2
        have q3 := rr.cell 3
        have q4 := rr.cell 4
        have q5 := rr.cell 5
        have q6 := rr.cell 6
        simp only [List.getElem?_cons_zero, List.getElem?_cons_succ] at q0 q1 q2 q3 q4 q5 q6
        have x0 := rr.frozen 0
        have x1 := rr.frozen 1
        have x2 := rr.frozen 2
        have x3 := rr.frozen 3
        have x4 := rr.frozen 4
        have x5 := rr.frozen 5
        have x6 := rr.frozen 6
        have zr := rr.lt
        have hHB : w.heap.size < w3.heap.size := rr.lt
        obtain ⟨hD, hB, hC⟩ := fin_cs (cs := itCs (.slice Au nu cu, (⟨2, e⟩ : Itm))) HP.out l3 l4 l5 rr
        have HE9 : Hid (ExR (setsW w3 w.heap.size 0 (itCs (.slice Au nu cu, (⟨2, e⟩ : Itm)))) (fun q => w.heap.size ≤ q) (.slice Au nu cu) ((⟨2, e⟩ : Itm)).e) := Lib.hid ((HEX.out.keep (hC.mono fun q _ (h : w2.heap.size ≤ q) => by omega)).mono fun q _ (h : w2.heap.size ≤ q) => by omega)
        have HD := Lib.hid hD
        have HB := Lib.hid hB
        have HS9 : Hid (Same (fun q => q ≠ g) w (setsW w3 w.heap.size 0 (itCs (.slice Au nu cu, (⟨2, e⟩ : Itm))))) := Lib.hid (Same.sets' (Nat.le_refl _) _ 0 HS.out)
        clear rr hD hB hC
        go_wp2
        refine bodyPost_ret (item_results (u := .slice Au nu cu) (x := (⟨2, e⟩ : Itm)) (show Row _ _ _ (itCs (.slice Au nu cu, (⟨2, e⟩ : Itm))) from HD.out) rfl) rfl ?_
        rw [HX.out]
        exact ⟨_, rfl, ⟨_, rfl, HE9.out⟩, HB.out, HS9.out⟩
    · rw [hq, if_pos rfl] at hp
      have hX := HX.out
      rw [hq, if_pos rfl] at hX
      have HX := Lib.hid hX
      have HP := Lib.hid hp
      clear hX hq hp
      go_wp2_with (go_at_call 40; refine stopAt ?_)
      unfold Hid
      refine (must_at g t l.tail 0 [[40]] _ HP.out).mono ?_
      intro e w3 hR_
      cases hx : mustT [[40]] l.tail with
      | error p =>
        rw [hx] at hR_
        obtain ⟨rfl, hE⟩ := hR_
        have hq : DoP g t 0 X (ItG w.heap.size) w (.panicked [{ v := failV p.1 p.2, recovered := false }]) w3 := by
          rw [HX.out, hx]
          exact ⟨rfl, HS.out.trans hE⟩
        exact ⟨rfl, hq⟩
      | ok q =>
        obtain ⟨⟨⟩, l1⟩ := q
        rw [hx] at hR_
        obtain ⟨v, rfl, rfl, hp, hS⟩ := hR_
        have hX := HX.out
        rw [hx, thenT_ok] at hX
        have HX := Lib.hid hX
        clear hX hx
        have hSz := hS.size
        have HRR := Lib.hid (HRR.out.keep hS (by omega))
        have HS := Lib.hid (HS.out.trans hS)
        have HP := Lib.hid hp
        clear hp hS
        go_wp2_with (go_at_call 113; refine stopAt ?_)
        unfold Hid
        refine (expr_any g t l1 _ HP.out).mono ?_
        intro e w4 hR_
        cases hx : exprT l1 with
        | error p =>
          rw [hx] at hR_
          obtain ⟨rfl, hE⟩ := hR_
          have hq : DoP g t 0 X (ItG w.heap.size) w (.panicked [{ v := failV p.1 p.2, recovered := false }]) w4 := by
            rw [HX.out, hx]
            exact ⟨rfl, HS.out.trans hE⟩
          exact ⟨rfl, hq⟩
        | ok q =>
          obtain ⟨e, l2⟩ := q
          rw [hx] at hR_
          obtain ⟨v, rfl, ⟨u, rfl, hex⟩, hp, hS⟩ := hR_
          have hX := HX.out
          rw [hx, thenT_ok] at hX
          have HX := Lib.hid hX
          clear hX hx
          have hSz := hS.size
          have HRR := Lib.hid (HRR.out.keep hS (by omega))
          have HS := Lib.hid (HS.out.trans hS)
          have HP := Lib.hid hp
          clear hp hS
          have HEX := Lib.hid hex
          clear hex
          obtain ⟨Au, cu, rfl, -, -⟩ := HEX.out.toL.form
          generalize e.args.length = nu at *
          have hB2 : w.heap.size + 1 ≤ w3.heap.size := by omega
          have hB3 : w3.heap.size ≤ w4.heap.size := by omega
          have hre := Row.new w4 34 (exCs (.slice Au nu cu) e)
          have hSe := (Same.refl (fun _ => True) w4).alloc (.cells (exCs (.slice Au nu cu) e).toArray 34)
          have hze : (w4.alloc (.cells (exCs (.slice Au nu cu) e).toArray 34)).heap.size = w4.heap.size + 1 := by simp
          have hpe := HP.out.keep hSe
          have hee := HEX.out.keepAll hSe
          have hSe := hSe.mono (S' := fun q => q ≠ g) fun _ _ _ => trivial
          have hrr := HRR.out.keep hSe (by omega)
          have hss := HS.out.trans hSe
          have HRE := Lib.hid hre
          have HP := Lib.hid hpe
          have HEX := Lib.hid hee
          have HRR := Lib.hid hrr
          have HS := Lib.hid hss
          clear hre hpe hee hSe hrr hss
          go_wp2_with (go_at_call 40; refine stopAt ?_)
          unfold Hid
          simp only [exCs] at HRE HP HEX HRR HS hze
          revert HRE HP HEX HRR HS hze
          generalize w4.alloc _ = w5
          intro hze HRE HP HEX HRR HS

          rw [← hze]
          refine (must_at g t l2 0 [[41]] _ HP.out).mono ?_
          intro e w6 hR_
          cases hx : mustT [[41]] l2 with
          | error p =>
            rw [hx] at hR_
            obtain ⟨rfl, hE⟩ := hR_
            have hq : DoP g t 0 X (ItG w.heap.size) w (.panicked [{ v := failV p.1 p.2, recovered := false }]) w6 := by
              rw [HX.out, hx]
              exact ⟨rfl, HS.out.trans hE⟩
            exact ⟨rfl, hq⟩
          | ok q =>
            obtain ⟨⟨⟩, l6⟩ := q
            rw [hx] at hR_
            obtain ⟨v, rfl, rfl, hp, hS⟩ := hR_
            have hX := HX.out
            rw [hx, thenT_ok] at hX
            have HX := Lib.hid hX
            clear hX hx
            have hSz := hS.size
            have HRR := Lib.hid (HRR.out.keep hS (by omega))
            have HS := Lib.hid (HS.out.trans hS)
            have HEX := Lib.hid (HEX.out.keep (hS.mono fun q _ (h : w3.heap.size ≤ q) => by omega))
            have HRE := Lib.hid (HRE.out.keep hS (by omega))
            have HP := Lib.hid hp
            clear hp hS
            have hyr := HRE.out
            have y0 := hyr.cell 0
            have y1 := hyr.cell 1
            have y2 := hyr.cell 2
            have y3 := hyr.cell 3
            have y4 := hyr.cell 4
            have y5 := hyr.cell 5
            simp only [List.getElem?_cons_zero, List.getElem?_cons_succ] at y0 y1 y2 y3 y4 y5
            clear hyr
            have rr := HRR.out
            have q0 := rr.cell 0
            have q1 := rr.cell 1
            have q2 := rr.cell 2
            have q3 := rr.cell 3
            have q4 := rr.cell 4
            have q5 := rr.cell 5
            have q6 := rr.cell 6
            simp only [List.getElem?_cons_zero, List.getElem?_cons_succ] at q0 q1 q2 q3 q4 q5 q6
            have x0 := rr.frozen 0
            have x1 := rr.frozen 1
            have x2 := rr.frozen 2
            have x3 := rr.frozen 3
            have x4 := rr.frozen 4
            have x5 := rr.frozen 5
            have x6 := rr.frozen 6
            have zr := rr.lt
            have hHB : w.heap.size < w6.heap.size := rr.lt
            obtain ⟨hD, hB, hC⟩ := fin_cs (cs := itCs (.slice Au nu cu, (⟨4, e⟩ : Itm))) HP.out l3 l4 l5 rr
            have HE9 : Hid (ExR (setsW w6 w.heap.size 0 (itCs (.slice Au nu cu, (⟨4, e⟩ : Itm)))) (fun q => w.heap.size ≤ q) (.slice Au nu cu) ((⟨4, e⟩ : Itm)).e) := Lib.hid ((HEX.out.keep (hC.mono fun q _ (h : w3.heap.size ≤ q) => by omega)).mono fun q _ (h : w3.heap.size ≤ q) => by omega)
            have HD := Lib.hid hD
            have HB := Lib.hid hB
            have HS9 : Hid (Same (fun q => q ≠ g) w (setsW w6 w.heap.size 0 (itCs (.slice Au nu cu, (⟨4, e⟩ : Itm))))) := Lib.hid (Same.sets' (Nat.le_refl _) _ 0 HS.out)
            clear rr hD hB hC
            go_wp2
            refine bodyPost_ret (item_results (u := .slice Au nu cu) (x := (⟨4, e⟩ : Itm)) (show Row _ _ _ (itCs (.slice Au nu cu, (⟨4, e⟩ : Itm))) from HD.out) rfl) rfl ?_
            rw [HX.out]
            exact ⟨_, rfl, ⟨_, rfl, HE9.out⟩, HB.out, HS9.out⟩
  · rw [hq, if_pos rfl] at hp
    have hX := HX.out
    rw [hq, if_pos rfl] at hX
    have HX := Lib.hid hX
    have HP := Lib.hid hp
    clear hX hq hp
    go_wp2_with (go_at_call 40; refine stopAt ?_)
    unfold Hid
    refine (must_at g t l.tail 0 [[40], [42], [41]] _ HP.out).mono ?_
    intro e w2 hR_
    cases hx : mustT [[40], [42], [41]] l.tail with
    | error p =>
      rw [hx] at hR_
      obtain ⟨rfl, hE⟩ := hR_
      have hq : DoP g t 0 X (ItG w.heap.size) w (.panicked [{ v := failV p.1 p.2, recovered := false }]) w2 := by
        rw [HX.out, hx]
        exact ⟨rfl, HS.out.trans hE⟩
      exact ⟨rfl, hq⟩
    | ok q =>
      obtain ⟨⟨⟩, l1⟩ := q
      rw [hx] at hR_
      obtain ⟨v, rfl, rfl, hp, hS⟩ := hR_
      have hX := HX.out
      rw [hx, thenT_ok] at hX
      have HX := Lib.hid hX
      clear hX hx
      have hSz := hS.size
      have HRR := Lib.hid (HRR.out.keep hS (by omega))
      have HS := Lib.hid (HS.out.trans hS)
      have HP := Lib.hid hp
      clear hp hS
      have HX : Hid (X = .ok (⟨3, .zero⟩, l1)) := Lib.hid HX.out
      have rr := HRR.out
      have q0 := rr.cell 0
      have q1 := rr.cell 1
      have q2 := rr.cell 2
      have q3 := rr.cell 3
      have q4 := rr.cell 4
      have q5 := rr.cell 5
      have q6 := rr.cell 6
      simp only [List.getElem?_cons_zero, List.getElem?_cons_succ] at q0 q1 q2 q3 q4 q5 q6
      have x0 := rr.frozen 0
      have x1 := rr.frozen 1
      have x2 := rr.frozen 2
      have x3 := rr.frozen 3
      have x4 := rr.frozen 4
      have x5 := rr.frozen 5
      have x6 := rr.frozen 6
      have zr := rr.lt
      have hHB : w.heap.size < w2.heap.size := rr.lt
      obtain ⟨hD, hB, hC⟩ := fin_cs (cs := itCs (.slice none 0 0, (⟨3, .zero⟩ : Itm))) HP.out l3 l4 l5 rr
      have HE9 : Hid (ExR (setsW w2 w.heap.size 0 (itCs (.slice none 0 0, (⟨3, .zero⟩ : Itm)))) (fun q => w.heap.size ≤ q) (.slice none 0 0) ((⟨3, .zero⟩ : Itm)).e) := Lib.hid (ExR.lf _ _ _ _ _)
      have HD := Lib.hid hD
      have HB := Lib.hid hB
      have HS9 : Hid (Same (fun q => q ≠ g) w (setsW w2 w.heap.size 0 (itCs (.slice none 0 0, (⟨3, .zero⟩ : Itm))))) := Lib.hid (Same.sets' (Nat.le_refl _) _ 0 HS.out)
      clear rr hD hB hC
      go_wp2
      refine bodyPost_ret (item_results (u := .slice none 0 0) (x := (⟨3, .zero⟩ : Itm)) (show Row _ _ _ (itCs (.slice none 0 0, (⟨3, .zero⟩ : Itm))) from HD.out) rfl) rfl ?_
      rw [HX.out]
      exact ⟨_, rfl, ⟨_, rfl, HE9.out⟩, HB.out, HS9.out⟩
def zst : List Value := [.int .i64 0, .string ⟨#[]⟩, .slice none 0 0, .slice none 0 0, .slice none 0 0, .bool false, .int .i64 0, .string ⟨#[]⟩, .int .i64 0, .int .i64 0, .string ⟨#[]⟩, .slice none 0 0, .string ⟨#[]⟩, .bool false, .int .i64 0]
def StG (B : Nat) (s : Stm) (w : World) (v : Value) : Prop := ∃ u, v = stV u s ∧ StR w (fun q => B ≤ q) u s
theorem where_ok {s s' : Stm} {l l' : List PT} (h : whereT s l = .ok (s', l')) (hf : s.filt = false) (hc : s.cond = .zero) : ∃ ft cd, s' = { s with filt := ft, cond := cd } := by
  unfold whereT at h
  split at h
  · obtain ⟨e, l1, _, h2⟩ := thenT_inv h
    injection h2 with h2
    injection h2 with h2 _
    exact ⟨_, _, h2.symm⟩
  · injection h with h
    injection h with h _
    exact ⟨false, .zero, by rw [← hf, ← hc]; exact h.symm⟩
theorem itCs_len (p : Value × Itm) : (itCs p).length = 7 := rfl
theorem itOne {w : World} {S : Nat → Prop} {u : Value} {y : Itm} (h : ExR w S u y.e) : ∀ c ∈ itCs (u, y), c.oneCell' = true := by
  intro c hc
  simp only [itCs, exCs, List.mem_cons, List.not_mem_nil, or_false] at hc
  rcases hc with rfl | rfl | rfl | rfl | rfl | rfl | rfl <;> first | rfl | exact h.one
theorem where_ok2 {k lm : Int} {tb od : List UInt8} {its : List Itm} {rs : List (List Ex)} {ss : List Asn} {dn : Bool} {s' : Stm} {l l' : List PT} (h : whereT ⟨k, tb, its, rs, ss, false, .zero, od, dn, lm⟩ l = .ok (s', l')) :
    ∃ ft cd, s' = ⟨k, tb, its, rs, ss, ft, cd, od, dn, lm⟩ := where_ok h rfl rfl
/-- SELECT's rest, behind what it tells; behind its WHERE. -/
def ordlimF (s : Stm) (l : List PT) : PR Stm := thenT (orderT s l) fun s l5 => limitT s l5
def chooseF (its : List Itm) (l : List PT) : PR Stm := thenT (mustT [wFROM] l) fun _ l2 => thenT (nameT l2) fun tb l3 => thenT (whereT ⟨1, tb, its, [], [], false, .zero, [], false, -1⟩ l3) ordlimF
theorem choose_eq (l : List PT) : chooseT l = thenT (itemsT l) chooseF := rfl
def itemB (l : List PT) : Bool := leadsT l || beginsT [wCOUNT, wSUM] l
theorem items_eq (l : List PT) : itemsT l = if isT [42] l then .ok ([⟨1, .zero⟩], l.tail) else thenT (itemT l) fun a l1 => sepT (isT [44]) itemT itemB 6 l1.length [a] l1 := rfl
theorem choose_results {W : World} {k : Nat} {u : SU} {s : Stm} (R : Row W k 44 (stCs u s)) {tmps : Array Value} (h1 : tmps.getD 2 undef = .pointer (some ⟨k, 0, none⟩)) :
    (results Tryz.f83 tmps).run Tryz.prog W = .ok (stV u s) W := by
  have d0 : W.cell? ⟨k, 0, none⟩ = some (.int .i64 s.kind) := R.cell 0
  have d1 : W.cell? ⟨k, 1, none⟩ = some (.string (str s.table)) := R.cell 1
  have d2 : W.cell? ⟨k, 2, none⟩ = some (u.items) := R.cell 2
  have d3 : W.cell? ⟨k, 3, none⟩ = some (u.rows) := R.cell 3
  have d4 : W.cell? ⟨k, 4, none⟩ = some (u.sets) := R.cell 4
  have d5 : W.cell? ⟨k, 5, none⟩ = some (.bool s.filt) := R.cell 5
  have d6 : W.cell? ⟨k, 6, none⟩ = some (.int .i64 s.cond.kind) := R.cell 6
  have d7 : W.cell? ⟨k, 7, none⟩ = some (.string (str s.cond.s)) := R.cell 7
  have d8 : W.cell? ⟨k, 8, none⟩ = some (.int .i64 s.cond.v.kind) := R.cell 8
  have d9 : W.cell? ⟨k, 9, none⟩ = some (.int .i64 s.cond.v.n) := R.cell 9
  have d10 : W.cell? ⟨k, 10, none⟩ = some (.string (str s.cond.v.s)) := R.cell 10
  have d11 : W.cell? ⟨k, 11, none⟩ = some (u.cond) := R.cell 11
  have d12 : W.cell? ⟨k, 12, none⟩ = some (.string (str s.order)) := R.cell 12
  have d13 : W.cell? ⟨k, 13, none⟩ = some (.bool s.down) := R.cell 13
  have d14 : W.cell? ⟨k, 14, none⟩ = some (.int .i64 s.limit) := R.cell 14
  simp at h1
  simp [results, Tryz.results83, h1, go_sem, d0, d1, d2, d3, d4, d5, d6, d7, d8, d9, d10, d11, d12, d13, d14]
theorem stmt_results {W : World} {k : Nat} {u : SU} {s : Stm} (R : Row W k 44 (stCs u s)) {tmps : Array Value} (h1 : tmps.getD 2 undef = .pointer (some ⟨k, 0, none⟩)) :
    (results Tryz.f36 tmps).run Tryz.prog W = .ok (stV u s) W := by
  have d0 : W.cell? ⟨k, 0, none⟩ = some (.int .i64 s.kind) := R.cell 0
  have d1 : W.cell? ⟨k, 1, none⟩ = some (.string (str s.table)) := R.cell 1
  have d2 : W.cell? ⟨k, 2, none⟩ = some (u.items) := R.cell 2
  have d3 : W.cell? ⟨k, 3, none⟩ = some (u.rows) := R.cell 3
  have d4 : W.cell? ⟨k, 4, none⟩ = some (u.sets) := R.cell 4
  have d5 : W.cell? ⟨k, 5, none⟩ = some (.bool s.filt) := R.cell 5
  have d6 : W.cell? ⟨k, 6, none⟩ = some (.int .i64 s.cond.kind) := R.cell 6
  have d7 : W.cell? ⟨k, 7, none⟩ = some (.string (str s.cond.s)) := R.cell 7
  have d8 : W.cell? ⟨k, 8, none⟩ = some (.int .i64 s.cond.v.kind) := R.cell 8
  have d9 : W.cell? ⟨k, 9, none⟩ = some (.int .i64 s.cond.v.n) := R.cell 9
  have d10 : W.cell? ⟨k, 10, none⟩ = some (.string (str s.cond.v.s)) := R.cell 10
  have d11 : W.cell? ⟨k, 11, none⟩ = some (u.cond) := R.cell 11
  have d12 : W.cell? ⟨k, 12, none⟩ = some (.string (str s.order)) := R.cell 12
  have d13 : W.cell? ⟨k, 13, none⟩ = some (.bool s.down) := R.cell 13
  have d14 : W.cell? ⟨k, 14, none⟩ = some (.int .i64 s.limit) := R.cell 14
  simp at h1
  simp [results, Tryz.results36, h1, go_sem, d0, d1, d2, d3, d4, d5, d6, d7, d8, d9, d10, d11, d12, d13, d14]
end Go.Proofs.YtdfojghhpdkpfaaGreatDoor
