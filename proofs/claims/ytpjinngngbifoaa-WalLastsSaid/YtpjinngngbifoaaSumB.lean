/-
  Words that the laws of bytes share: a constant's bytes, a conversion to a string, an element of a list of bytes.
-/
import Derived.Test.YtpjinngngbifoaaBase2
import Derived.Lib.SlBytesConst
set_option linter.unusedSimpArgs false
set_option linter.unusedVariables false
namespace Go.Proofs.Ytpjinngngbifoaa
open Go.RowKit

theorem conv_const (w : World) (C : Array Value) (n c k : Nat) (h : k = w.heap.size) :
    (convert 24 24 (.slice (some ⟨k, 0, none⟩) n c)).run Try.prog (w.alloc (.cells C 5)) = .ok (.slice (some ⟨k, 0, none⟩) n c) (w.alloc (.cells C 5 (C.size, C.size + 1))) := by
  subst h
  exact Lib.run_convert_bytes_const (P := Try.prog) w 24 5 C n c Try.underlying24 Try.underlying5
/-- A constant's row, marked or not, reads as its bytes. -/
theorem By.lit {w : World} {S : Nat → Prop} {g : Nat} {bs : List UInt8} {n c : Nat} {e : TypeId} {fr : Nat × Nat} (h : w.heap[g]? = some (.cells (cs8 bs).toArray e fr)) (hs : S g) (hn : n = bs.length) (hc : n ≤ c) (hm : c ≤ maxLen) :
    By w S (.slice (some ⟨g, 0, none⟩) n c) bs := by
  subst hn
  refine ⟨_, c, rfl, hc, hm, by simp [cs8], fun _ => ⟨_, rfl, hs, fun j u hu => ?_⟩⟩
  have e0 : (⟨g, 0, none⟩ : Addr).add j = ⟨g, j, none⟩ := by unfold Addr.add; split <;> simp_all
  rw [e0, cell_of_row w g j _ e fr h]
  simpa using hu

def TrueP (w : World) (e : Ending) (w' : World) : Prop := e = .returned (.bool true) ∧ Same (fun _ => True) w w'

set_option maxRecDepth 100000 in
theorem conv_by {w : World} {S : Nat → Prop} {A : Option Addr} {n c : Nat} {bs : List UInt8} (h : By w S (.slice A n c) bs) : (convert 24 9 (.slice A n c)).run Try.prog w = .ok (.string (str bs)) w := by
  obtain ⟨A', c', e, h1, h2, h3⟩ := h
  injection e with e1 e2 e3
  subst e1 e2 e3
  exact conv_str (P := Try.prog) c 24 9 5 Try.underlying24 Try.underlying5 Try.underlying9 h3
theorem ByL.at_ {w : World} {S : Nat → Prop} {A : Option Addr} {n c k : Nat} {l : List (List UInt8)} (h : ByL w S (.slice A n c) l) (hk : k < l.length) :
    ∃ ad A2 c2, A = some ad ∧ n = l.length ∧ w.cell? (ad.add k) = some (.slice A2 l[k].length c2) ∧ By w S (.slice A2 l[k].length c2) l[k] := by
  obtain ⟨A', c', vs, e, h1, h2, h3, h4⟩ := h
  injection e with e1 e2 e3
  subst e1
  obtain ⟨ad, u, rfl, -, hu, hc⟩ := h3.at_ hk
  have hb := h4 k u l[k] hu (List.getElem?_eq_getElem hk)
  obtain ⟨A2, c2, rfl, -⟩ := id hb
  exact ⟨ad, A2, c2, rfl, e2, hc, hb⟩
theorem By.drop {w : World} {S : Nat → Prop} {A : Option Addr} {n c k : Nat} {bs : List UInt8} (h : By w S (.slice A n c) bs) (hk : k ≤ bs.length) :
    By w S (.slice (if c = k then A else A.map (·.add k)) (n - k) (c - k)) (bs.drop k) := by
  obtain ⟨A', c', e, h1, h2, h3⟩ := h
  injection e with e1 e2 e3
  subst e1 e2 e3
  have hc := h3.cut (cap := c) hk h1
  have hl : (bs.drop k).length = bs.length - k := List.length_drop
  refine ⟨_, c - k, by rw [hl], by rw [hl]; omega, by omega, ?_⟩
  rw [hl]
  rw [Nat.mul_one] at hc
  rwa [show (cs8 bs).drop k = cs8 (bs.drop k) by simp [cs8]] at hc
theorem sumFrom_ge {most : Int} : ∀ (l : List (List UInt8)) (n : Int), 0 ≤ most → n ≤ sumFrom most n l ∨ most < sumFrom most n l := by
  intro l
  induction l with
  | nil => intro n _; left; exact Int.le_refl _
  | cons b l ih =>
    intro n h0
    unfold sumFrom
    split
    · split
      · right; omega
      · rcases ih (n + b.length) h0 with h | h
        · left; omega
        · right; exact h
    · left; omega
theorem sumFrom_small {most : Int} (h0 : 0 ≤ most) : ∀ (l : List (List UInt8)) (n : Int), n ≤ most → sumFrom most n l ≤ most → n + l.flatten.length ≤ most ∧ ∀ b ∈ l, (b.length : Int) ≤ most := by
  intro l
  induction l with
  | nil => intro n hn _; simpa using hn
  | cons b l ih =>
    intro n hn h
    unfold sumFrom at h
    rw [if_pos hn] at h
    by_cases hb : most < (b.length : Int)
    · rw [if_pos hb] at h; omega
    · rw [if_neg hb] at h
      have hle : n + b.length ≤ most := by
        rcases sumFrom_ge l (n + b.length) h0 with h1 | h1 <;> omega
      obtain ⟨h1, h2⟩ := ih _ hle h
      refine ⟨by simp only [List.flatten_cons, List.length_append]; omega, fun x hx => ?_⟩
      rcases List.mem_cons.1 hx with rfl | hx
      · omega
      · exact h2 x hx

end Go.Proofs.Ytpjinngngbifoaa
