/-
  The walk of Light: cells that are not too great.
-/
import Derived.Test.YtoldelocfmpccaaMvCoW
set_option linter.unusedSimpArgs false
set_option linter.unusedVariables false
namespace Go.Proofs.Ytoldelocfmpccaa
open Go.RowKit

/-- What Light tells. -/
def LightCP (cs : List Cel) (w : World) (e : Ending) (w' : World) : Prop := ∃ b, e = .returned (.bool b) ∧ (b = true → cs.length ≤ 60 ∧ ∀ c ∈ cs, c.vers.length ≤ 30) ∧ w = w'
theorem light_no {cs : List Cel} {w : World} : LightCP cs w (.returned (.bool false)) w := ⟨false, rfl, (fun h => by cases h), rfl⟩
set_option maxRecDepth 100000 in
set_option maxHeartbeats 2000000 in
theorem lightc_any (v : Value) (cs : List Cel) (S : Nat → Prop) (w : World) (hv : CelR w S v cs) (hl : CelL cs) :
    Calls Try.prog 36 #[v] w (LightCP cs w) := by
  obtain ⟨A, cp, rfl, hc, hm⟩ := hv.form
  have Hv := Lib.hid hv
  have HL := Lib.hid hl
  unfold maxLen at hm
  clear hv hl
  by_cases hlong : (60 : Int) < cs.length
  · go_enter Try.func36, Try.ntmps36
    go_wp2
    go_ret
    exact light_no
  · go_enter Try.func36, Try.ntmps36
    go_wp2
    go_loop [3, 4] (fun i _ => ∃ k : Nat, k ≤ cs.length ∧ (∀ c ∈ cs.take k, c.vers.length ≤ 30) ∧ i = .int .i64 k) (fun i _ => cs.length - (intOf i).toNat)
    case atStart => exact ⟨0, by omega, by simp, rfl⟩
    case round =>
      obtain ⟨k, hk, hft, rfl⟩ := hrel
      by_cases hlt : k < cs.length
      · obtain ⟨ad, u, rfl, -, hvr, c0, c1, c2, c3, c4, c5, c6, c7, c8, c9, c10, c11⟩ := CelR.cells12 Hv.out hlt
        obtain ⟨Au, cu, rfl, hq1, hq2⟩ := hvr.form
        unfold maxLen at hq2
        have x1 : (0 : Int) ≤ (k : Int) := by omega
        have x2 : (k : Int) < (cs.length : Int) := by omega
        obtain ⟨l1, l2, l3⟩ := HL.out cs[k] (List.getElem_mem hlt)
        have hnx : cs[k].vers.length ≤ 30 → ∀ c ∈ cs.take (k + 1), c.vers.length ≤ 30 := fun h c hc => by
          rw [List.take_succ_eq_append_getElem hlt] at hc
          rcases List.mem_append.1 hc with hc | hc
          · exact hft c hc
          · obtain rfl := List.mem_singleton.1 hc
            exact h
        have s1 : (str cs[k].key).size = cs[k].key.length := str_size _
        have s2 : (str cs[k].lock.data).size = cs[k].lock.data.length := str_size _
        have c11' : w.cell? ⟨(ad.add (k * 12)).block, (ad.add (k * 12)).off + 3 + 8, none⟩ = some (.string (str cs[k].lock.data)) := c11
        have Hnx := Lib.hid hnx
        have Hvr := Lib.hid hvr
        have L3 := Lib.hid l3
        unfold maxLen at l1 l2
        clear hnx hft hvr l3
        generalize cs[k] = c at *
        by_cases h1 : (30 : Int) < c.vers.length
        · go_wp2
          go_ret
          exact light_no
        · have HNX := Lib.hid (Hnx.out (by omega))
          clear Hnx
          go_wp2
          all_goals try (go_ret; exact light_no)
          go_loop [4] (fun i => ∃ j : Nat, j ≤ c.vers.length ∧ i = .int .i64 j) (fun i => c.vers.length - (intOf i).toNat)
          case atStart => exact ⟨0, by omega, rfl⟩
          case round =>
            obtain ⟨j, hj, rfl⟩ := hrel
            by_cases hjl : j < c.vers.length
            · obtain ⟨ad2, rfl, -, d0, d1, d2, d3⟩ := VerR.cells Hvr.out hjl
              have x3 : (0 : Int) ≤ (j : Int) := by omega
              have x4 : (j : Int) < (c.vers.length : Int) := by omega
              have l4 := L3.out c.vers[j] (List.getElem_mem hjl)
              have s3 : (str c.vers[j].data).size = c.vers[j].data.length := str_size _
              unfold maxLen at l4
              generalize c.vers[j] = y at *
              go_wp2
              all_goals first
                | (go_ret; exact light_no)
                | exact ⟨⟨j + 1, by omega, by go_num⟩, by simp [intOf]; omega⟩
            · obtain rfl : j = c.vers.length := by omega
              go_wp2
              exact ⟨⟨k + 1, by omega, HNX.out, by go_num⟩, by simp [intOf]; omega⟩
      · obtain rfl : k = cs.length := by omega
        rw [List.take_length] at hft
        have Hf := Lib.hid hft
        clear hft
        go_wp2
        go_ret
        exact ⟨true, rfl, fun _ => ⟨by omega, Hf.out⟩, rfl⟩
end Go.Proofs.Ytoldelocfmpccaa
