/-
  Rows of pairs that are read: their cells.
-/
import Derived.Test.YtoldelocfmpccaaQ15
set_option linter.unusedSimpArgs false
set_option linter.unusedVariables false
namespace Go.Proofs.Ytoldelocfmpccaa
open Go.RowKit

theorem OwnP.cells {w : World} {B : Nat} {A : Option Addr} {n c : Nat} {l : List (List UInt8 × List UInt8)} (h : OwnP w B (.slice A n c) l) {i : Nat} (hi : i < l.length) : ∃ ad, A = some ad ∧ B ≤ ad.block ∧
    w.cell? (ad.add (i * 2)) = some (.string (str l[i].1)) ∧ w.cell? ⟨(ad.add (i * 2)).block, (ad.add (i * 2)).off + 1, none⟩ = some (.string (str l[i].2)) := by
  obtain ⟨ad, c, h1, h2, h3, h4, h5⟩ := RowR.at_ ((OwnR.wr h).row fun _ => rfl) (fun _ => rfl) hi
  injection h1 with h1 _ _
  exact ⟨ad, h1, h4, by have := h5 0 (by omega); rwa [add_zero] at this, h5 1 (by omega)⟩
theorem OwnP.form {w : World} {B : Nat} {v : Value} {l : List (List UInt8 × List UInt8)} (h : OwnP w B v l) : ∃ A c, v = .slice A l.length c ∧ l.length ≤ c ∧ c ≤ maxLen := OwnR.form h
theorem scan_trim {a b : St} (hab : lessB b a = false) (lo hi : List UInt8) (cs : List Cel) (most : Int) : scanF (trimF cs a) lo hi b most = scanF cs lo hi b most := by
  unfold scanF
  rw [pairs_trim hab]
end Go.Proofs.Ytoldelocfmpccaa
