/-
  A guarded operation of a drawn region whose guard was itself left out: it is left out.
-/
import Derived.Test.YtpbekhcogpkbpaaDoorReg3
set_option linter.unusedSimpArgs false
set_option linter.unusedVariables false
namespace Go.Proofs.YtpbekhcogpkbpaaDoor

theorem skip_undef {ops : Array Oper} {o : Oper} {a : Act} {j d n : Nat} {want : Bool} {A B : Prop} (hg : o.guard = some (j, want)) (ho : (ops[j]?).bind (·.dst) = some d) (hn : a.tmps.size = n) (hd : d < n) (e : a.eval (.tmp d) = undef) (h : B) :
    if Region.wanted o (yielded ops a.tmps) = true then A else B := by
  have hw : Region.wanted o (yielded ops a.tmps) = false := by
    unfold Region.wanted
    rw [hg]
    have hy : yielded ops a.tmps j = none := by
      unfold yielded
      rw [ho]
      have h1 : a.tmps[d]? = some undef := by
        have : a.tmps.getD d undef = undef := e
        rw [Array.getD_eq_getD_getElem?, Array.getElem?_eq_getElem (by omega)] at this
        rw [Array.getElem?_eq_getElem (by omega)]
        simpa using this
      simp [h1, undef]
    simp [hy]
  rw [if_neg (by rw [hw]; simp)]
  exact h
end Go.Proofs.YtpbekhcogpkbpaaDoor
