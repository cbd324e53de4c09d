/-
  The log of layer 5 as plain data, and what a look at a file tells; the short methods' walks.
-/
import Derived.Test.YtpjinngngbifoaaDiskP
import Derived.Test.YtpjinngngbifoaaFrmC
import Derived.BigQuiet
set_option linter.unusedSimpArgs false
set_option linter.unusedVariables false
namespace Go.Proofs.Ytpjinngngbifoaa
open Go.RowKit

structure WalM where
  lives : Nat
  done : Bool
  f : Int
  gen : Nat
  count : Nat
  bytes : Nat
/-- A log in memory: its struct at p, over the disk at g. -/
def WalAt (w : World) (p g : Nat) (l : WalM) : Prop :=
  Row w p 66 [ptr g, .int .i64 l.lives, .bool l.done, .int .i64 l.f, .int .u64 l.gen, .int .i64 l.count, .int .i64 l.bytes]
theorem WalAt.keep {w w' : World} {p g : Nat} {S : Nat → Prop} {l : WalM} (h : WalAt w p g l) (hs : Same S w w') (hp : S p) : WalAt w' p g l := Row.keep h hs hp
theorem WalAt.keepAll {w w' : World} {p g : Nat} {l : WalM} (h : WalAt w p g l) (hs : Same (fun _ => True) w w') : WalAt w' p g l := h.keep hs trivial
theorem wnone_any (p g : Nat) (l : WalM) (w : World) (h : WalAt w p g l) :
    Calls Try.prog 41 #[ptr p] w fun e w' => e = .returned (.bool false) ∧ w = w' := by
  have c0 := h.cell 0
  simp at c0
  clear h
  go_enter Try.func41, Try.ntmps41
  go_wp2
  go_ret
  exact ⟨rfl, rfl⟩
def WalM.over (l : WalM) (d : DiskM) : Bool := l.done || decide (d.lives ≠ l.lives)
set_option maxRecDepth 100000 in
theorem wover_any (p g r : Nat) (F : Nat → Prop) (d : DiskM) (l : WalM) (w : World) (h : WalAt w p g l) (hd : DiskAt w g r F d) :
    Calls Try.prog 42 #[ptr p] w (GrowPost (.bool (l.over d)) w) := by
  have hl' := fun n => ((dlives_any g r F d (w.drewN n) (hd.keepAll ((Same.refl _ _).drewN n))).mono (fun e w' h => (⟨h.1, h.2.symm⟩ : e = .returned (.int .i64 d.lives) ∧ w' = w.drewN n)))
  have c0 := h.cell 0
  have c1 := h.cell 1
  have c2 := h.cell 2
  simp at c0 c1 c2
  obtain ⟨b, hb⟩ : ∃ b, b = l.done := ⟨_, rfl⟩
  rw [← hb] at c2
  unfold WalM.over
  rw [← hb]
  clear h hd hb
  cases b
  · go_enter Try.func42, Try.ntmps42
    go_wp2
    go_quiet ((go_at_call 38; exact Calls.quiet_of_same (hl' _)))
    go_wp2
    go_ret
    refine ⟨?_, (Same.refl _ _).drewN _⟩
    simp
    by_cases h : d.lives = l.lives
    · simp [h]
    · have h2 : (d.lives : Int) ≠ l.lives := by omega
      simp [h, h2]
  · go_enter Try.func42, Try.ntmps42
    go_wp2
    go_quiet (fail)
    go_wp2
    go_ret
    exact ⟨rfl, (Same.refl _ _).drewN _⟩
def WalM.fails (l : WalM) (e : Int) : WalM := { l with done := l.done || decide (e ≠ 0) }
theorem wfails_any (p g : Nat) (l : WalM) (x : Int) (w : World) (h : WalAt w p g l) :
    Calls Try.prog 44 #[ptr p, .int .i64 x] w fun e w' => e = .returned (.int .i64 x) ∧ WalAt w' p g (l.fails x) ∧ Same (fun k => k ≠ p) w w' := by
  have c2 := h.cell 2
  have z2 := h.frozen 2
  simp at c2
  have H := Lib.hid h
  clear h
  by_cases hx : x = 0
  · subst hx
    go_enter Try.func44, Try.ntmps44
    go_wp2
    go_ret
    exact ⟨rfl, by simpa [WalM.fails] using H.out, Same.refl _ _⟩
  · go_enter Try.func44, Try.ntmps44
    go_wp2
    go_ret
    refine ⟨rfl, ?_, (Same.refl _ _).setCell (fun _ h => h rfl) _⟩
    have h1 := Row.set_ H.out 2 (.bool true)
    have e : l.fails x = { l with done := true } := by simp [WalM.fails, hx]
    rw [e]
    exact h1
/-! ### what a look at a file tells -/
def walkL : List (List UInt8) → Bool → List (List UInt8) → Option (List (List UInt8) × Bool)
  | [], whole, acc => if whole then some (acc, false) else none
  | r :: rs, whole, acc => if r.head? = some 82 then walkL rs whole (acc ++ [r.tail]) else if whole then some (acc, true) else if r = [69] then walkL rs true acc else none
structure LookM where
  gen : Nat
  recs : List (List UInt8)
  spoil : Bool
def lookL (l : List (List UInt8)) (sp : Bool) : Option LookM :=
  match l with
  | [] => none
  | r :: rs => if r.length ≠ 9 ∨ r.head? ≠ some 71 then none else if getN (r.drop 1) = 0 ∨ 4611686018427387904 ≤ getN (r.drop 1) then none else
    (walkL rs false []).map fun x => ⟨getN (r.drop 1), x.1, sp || x.2⟩
/-- What a look at bytes gives. -/
def LookF (b : List UInt8) (m : Option LookM) : Prop := ∃ l a, ScanF b l a ∧ m = lookL l (decide (a < b.length))
theorem LookF.uniq {b : List UInt8} {m n : Option LookM} (h : LookF b m) (h' : LookF b n) : m = n := by
  obtain ⟨l, a, h1, rfl⟩ := h
  obtain ⟨l', a', h2, rfl⟩ := h'
  obtain ⟨rfl, rfl⟩ := h1.uniq h2
  rfl
end Go.Proofs.Ytpjinngngbifoaa
