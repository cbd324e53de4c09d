/-
  Plain laws of scans, cell by cell.
-/
import Derived.Test.YtoldelocfmpccaaMvPRW
set_option linter.unusedSimpArgs false
set_option linter.unusedVariables false
namespace Go.Proofs.Ytoldelocfmpccaa

theorem get_own {cs : List Cel} (h : Good cs) {k : Nat} (hk : k < cs.length) (a : St) : getF cs cs[k].key a = tellsF cs[k].vers a := by
  have hp : posF cs cs[k].key = k := by
    refine posF_eq (by omega) (fun i hi hik => ?_) (fun i hi hki => ?_)
    · exact List.pairwise_iff_getElem.1 h.sort i k hi hk hik
    · rcases Nat.lt_or_ge k i with h1 | h1
      · exact ltB_asymm (List.pairwise_iff_getElem.1 h.sort k i hk hi h1)
      · obtain rfl : i = k := by omega
        exact ltB_irrefl _
  have e := getF_hit (cs := cs) (key := cs[k].key) (a := a) (by unfold foundF; rw [hp, List.getElem?_eq_getElem hk]; simp) (by omega)
  simpa only [hp] using e
theorem within_step {cs : List Cel} (lo hi : List UInt8) (a : St) {k : Nat} (hk : k < cs.length) : pairsF a (withinF (cs.take (k + 1)) lo hi) = pairsF a (withinF (cs.take k) lo hi) ++ (if inB lo hi cs[k].key = true then pairF a cs[k] else []) := by
  unfold withinF pairsF
  rw [List.take_succ_eq_append_getElem hk, List.filter_append, List.flatMap_append]
  congr 1
  cases h : inB lo hi cs[k].key <;> simp [h]
theorem within_pre (cs : List Cel) (lo hi : List UInt8) (a : St) (k : Nat) : pairsF a (withinF cs lo hi) = pairsF a (withinF (cs.take k) lo hi) ++ pairsF a (withinF (cs.drop k) lo hi) := by
  unfold withinF pairsF
  rw [← List.flatMap_append, ← List.filter_append, List.take_append_drop]
theorem pairs_few (cs : List Cel) (lo hi : List UInt8) (a : St) : (pairsF a (withinF cs lo hi)).length ≤ cs.length := Nat.le_trans (pairs_len a _) (List.length_filter_le _ _)
theorem scan_small {cs : List Cel} (lo hi : List UInt8) (a : St) (h : cs.length ≤ 1000) : scanF cs lo hi a 1000 = (pairsF a (withinF cs lo hi), 0) := by
  have := pairs_few cs lo hi a
  unfold scanF
  rw [if_neg (by omega)]
theorem scan_less {cs : List Cel} (lo hi : List UInt8) (a : St) {m : Int} (hm : m = ((pairsF a (withinF cs lo hi)).length : Int) - 1) (h : 0 < (pairsF a (withinF cs lo hi)).length) : scanF cs lo hi a m = ([], 3) := by
  unfold scanF
  rw [if_pos (by omega)]
/-- What a scan has at a cell that it holds. -/
theorem scan_hit {cs L : List Cel} {P : List (List UInt8 × List UInt8)} {lo hi : List UInt8} {a : St} {k n : Nat} {d : List UInt8} (hP : P = pairsF a (withinF cs lo hi)) (hn : n = (pairsF a (withinF (cs.take k) lo hi)).length) (hk : k < cs.length) (hin : inB lo hi cs[k].key = true) (ht : tellsF cs[k].vers a = (d, true)) :
    ∃ h : n < P.length, P[n] = (cs[k].key, d) := by
  have e := within_pre cs lo hi a (k + 1)
  rw [within_step lo hi a hk, if_pos hin, ← hP] at e
  have ep : pairF a cs[k] = [(cs[k].key, d)] := by unfold pairF; rw [ht]; rfl
  rw [ep] at e
  subst hn
  have h : (pairsF a (withinF (cs.take k) lo hi)).length < P.length := by rw [e]; simp
  refine ⟨h, ?_⟩
  have h2 : P[(pairsF a (withinF (cs.take k) lo hi)).length]? = some (cs[k].key, d) := by rw [e]; simp
  rw [List.getElem?_eq_getElem h] at h2
  exact Option.some.inj h2
end Go.Proofs.Ytoldelocfmpccaa
