/-
  No cell of these rows narrows 'for every input' (looked for: loops, veiled, ifaces, maps, wideKeys, modest, calm, conditions, laid).
  DERIVED. THE GIVEN ROWS OF THIS SEAT. 6 by the template 'for every input the law returns true; each argument reads behind the call as it read before'; 0 by the template 'total and deterministic' (their statements: YtpjinngngbifoaaTotals.lean).
  GIVEN WITH THE SEED: the statements are not yours to turn. If you find one false, say at which input.
  Laid BY PROGRAM, IN A SANDBOX (cutbox-rows.mjs): the forced cells as the released guide's own fill.sh prints them over the translation b2b91c6ae90242f4… (all of the seat's roots in one cut). By AI agents, Wed Nov 11 2026. No macro, syntax, notation, axiom, sorry.
-/
import Derived.Test.YtpjinngngbifoaaChecked
import GoSem.Claim
import GoSem.ClaimJoined
import GoSem.ClaimMapViews
import Derived.JoinedTies
import Derived.KernelRfl
namespace Go.Proofs.Ytpjinngngbifoaa
/- THE CELL 'sum', in the pinned program and in every row, IS THE sha256 OF THE DUMP (.gsa) THAT YtpjinngngbifoaaProg.lean LOADS. Nothing in Lean hashes anything: it is a label: what it is worth is what the hold of that sum in a sandbox is worth. -/
noncomputable def Try.pinned : Pinned := { name := "ytpjinngngbifoaa", sum := "b2b91c6ae90242f433cecfb97d8954fd775646b3f32064591c81253387861296", checked := Try.checked }
namespace Rows
def none {H : Type} : Left H := { results := [], args := [] }

/-- 'antipodelaw5.WalPicks': WHATEVER THE INPUT: true; the input reads as it did. -/
def walPicksSpec : ChangeSpec := { name := "walPicks", fn := fun _ => fun
  | [d1, d2, d3, d4, d5, d6] => { results := [.lit (.bool true)], args := [d1, d2, d3, d4, d5, d6] }
  | _ => none }
def walPicksRow : OpenClaim := { program := "ytpjinngngbifoaa", sum := "b2b91c6ae90242f433cecfb97d8954fd775646b3f32064591c81253387861296", func := "antipode/antipodelaw5.WalPicks", spec := "walPicks", apart := false }
def WalPicksSaid : Prop := walPicksRow.holds Try.pinned (OpenSpec.ofChange walPicksSpec)

/-- ITS FALSE NEIGHBOUR: 'it returns false'. Refute it at one input. -/
def walPicksWrong : ChangeSpec := { name := "walPicks", fn := fun _ => fun
  | [d1, d2, d3, d4, d5, d6] => { results := [.lit (.bool false)], args := [d1, d2, d3, d4, d5, d6] }
  | _ => none }
def WalPicksWrongFalsely : Prop := walPicksRow.holds Try.pinned (OpenSpec.ofChange walPicksWrong)

/-- 'antipodelaw5.WalLast': WHATEVER THE INPUT: true; the input reads as it did. -/
def walLastSpec : ChangeSpec := { name := "walLast", fn := fun _ => fun
  | [d1, d2, d3] => { results := [.lit (.bool true)], args := [d1, d2, d3] }
  | _ => none }
def walLastRow : OpenClaim := { program := "ytpjinngngbifoaa", sum := "b2b91c6ae90242f433cecfb97d8954fd775646b3f32064591c81253387861296", func := "antipode/antipodelaw5.WalLast", spec := "walLast", apart := false }
def WalLastSaid : Prop := walLastRow.holds Try.pinned (OpenSpec.ofChange walLastSpec)

/-- ITS FALSE NEIGHBOUR: 'it returns false'. Refute it at one input. -/
def walLastWrong : ChangeSpec := { name := "walLast", fn := fun _ => fun
  | [d1, d2, d3] => { results := [.lit (.bool false)], args := [d1, d2, d3] }
  | _ => none }
def WalLastWrongFalsely : Prop := walLastRow.holds Try.pinned (OpenSpec.ofChange walLastWrong)

/-- 'antipodelaw5.WalLasts': WHATEVER THE INPUT: true; the input reads as it did. -/
def walLastsSpec : ChangeSpec := { name := "walLasts", fn := fun _ => fun
  | [d1, d2, d3, d4, d5] => { results := [.lit (.bool true)], args := [d1, d2, d3, d4, d5] }
  | _ => none }
def walLastsRow : OpenClaim := { program := "ytpjinngngbifoaa", sum := "b2b91c6ae90242f433cecfb97d8954fd775646b3f32064591c81253387861296", func := "antipode/antipodelaw5.WalLasts", spec := "walLasts", apart := false }
def WalLastsSaid : Prop := walLastsRow.holds Try.pinned (OpenSpec.ofChange walLastsSpec)

/-- ITS FALSE NEIGHBOUR: 'it returns false'. Refute it at one input. -/
def walLastsWrong : ChangeSpec := { name := "walLasts", fn := fun _ => fun
  | [d1, d2, d3, d4, d5] => { results := [.lit (.bool false)], args := [d1, d2, d3, d4, d5] }
  | _ => none }
def WalLastsWrongFalsely : Prop := walLastsRow.holds Try.pinned (OpenSpec.ofChange walLastsWrong)

/-- 'antipodelaw5.WalGoes': WHATEVER THE INPUT: true; the input reads as it did. -/
def walGoesSpec : ChangeSpec := { name := "walGoes", fn := fun _ => fun
  | [d1, d2] => { results := [.lit (.bool true)], args := [d1, d2] }
  | _ => none }
def walGoesRow : OpenClaim := { program := "ytpjinngngbifoaa", sum := "b2b91c6ae90242f433cecfb97d8954fd775646b3f32064591c81253387861296", func := "antipode/antipodelaw5.WalGoes", spec := "walGoes", apart := false }
def WalGoesSaid : Prop := walGoesRow.holds Try.pinned (OpenSpec.ofChange walGoesSpec)

/-- ITS FALSE NEIGHBOUR: 'it returns false'. Refute it at one input. -/
def walGoesWrong : ChangeSpec := { name := "walGoes", fn := fun _ => fun
  | [d1, d2] => { results := [.lit (.bool false)], args := [d1, d2] }
  | _ => none }
def WalGoesWrongFalsely : Prop := walGoesRow.holds Try.pinned (OpenSpec.ofChange walGoesWrong)

/-- 'antipodelaw5.WalAll': WHATEVER THE INPUT: true; the input reads as it did. -/
def walAllSpec : ChangeSpec := { name := "walAll", fn := fun _ => fun
  | [d] => { results := [.lit (.bool true)], args := [d] }
  | _ => none }
def walAllRow : OpenClaim := { program := "ytpjinngngbifoaa", sum := "b2b91c6ae90242f433cecfb97d8954fd775646b3f32064591c81253387861296", func := "antipode/antipodelaw5.WalAll", spec := "walAll", apart := false }
def WalAllSaid : Prop := walAllRow.holds Try.pinned (OpenSpec.ofChange walAllSpec)

/-- ITS FALSE NEIGHBOUR: 'it returns false'. Refute it at one input. -/
def walAllWrong : ChangeSpec := { name := "walAll", fn := fun _ => fun
  | [d] => { results := [.lit (.bool false)], args := [d] }
  | _ => none }
def WalAllWrongFalsely : Prop := walAllRow.holds Try.pinned (OpenSpec.ofChange walAllWrong)

/-- 'antipodelaw5.WalNone': WHATEVER THE INPUT: true; the input reads as it did. -/
def walNoneSpec : ChangeSpec := { name := "walNone", fn := fun _ => fun
  | [] => { results := [.lit (.bool true)], args := [] }
  | _ => none }
def walNoneRow : OpenClaim := { program := "ytpjinngngbifoaa", sum := "b2b91c6ae90242f433cecfb97d8954fd775646b3f32064591c81253387861296", func := "antipode/antipodelaw5.WalNone", spec := "walNone", apart := false }
def WalNoneSaid : Prop := walNoneRow.holds Try.pinned (OpenSpec.ofChange walNoneSpec)

/-- ITS FALSE NEIGHBOUR: 'it returns false'. Refute it at one input. -/
def walNoneWrong : ChangeSpec := { name := "walNone", fn := fun _ => fun
  | [] => { results := [.lit (.bool false)], args := [] }
  | _ => none }
def WalNoneWrongFalsely : Prop := walNoneRow.holds Try.pinned (OpenSpec.ofChange walNoneWrong)

/- THE SECOND FORM. 'bulk': how many values and letters a reading holds, each counted each time it is reached (what is shared counts as often as it is met; a slice's spare places count too). A statement '..UptoSaid' is the law's where the arguments, and the package variables that the reading takes, are together of bulk at most 1048576: NARROWER than '..Said'. Prove '..Said' where nothing that the law and all that it calls make is longer than what came in: it says more and counts as full. Else prove '..UptoSaid'. A law counts once. -/
mutual
def uptoBulk {H : Type} : DataW H → Nat
  | .lit (.string bytes) => bytes.length + 1
  | .lit _ => 1
  | .nil => 1
  | .ptr d => uptoBulk d + 1
  | .slice elems spare => uptoBulkAll elems + uptoBulkAll spare + 1
  | .agg parts => uptoBulkAll parts + 1
  | .iface _ d => uptoBulk d + 1
  | .map entries => uptoBulkEntries entries + 1
  | .held _ => 1
def uptoBulkAll {H : Type} : List (DataW H) → Nat
  | [] => 0
  | d :: r => uptoBulk d + uptoBulkAll r
def uptoBulkEntries {H : Type} : List (Lit × DataW H) → Nat
  | [] => 0
  | x :: r => uptoBulkEntry x + uptoBulkEntries r
def uptoBulkEntry {H : Type} : Lit × DataW H → Nat
  | (.string bytes, d) => bytes.length + uptoBulk d + 1
  | (_, d) => uptoBulk d + 1
 end
def uptoSmall : (H : Type) → List (DataW H) → Bool := fun _ ds => decide (uptoBulkAll ds ≤ 1048576)
def OpenSpec.upto (s : _root_.Go.ChangeSpec) : _root_.Go.OpenSpec := { _root_.Go.OpenSpec.ofChange s with cond := some uptoSmall }

/-- 'antipodelaw5.WalPicks', WHERE WHAT IT READS IS OF BULK AT MOST 1048576: true; the input reads as it did. -/
def walPicksUptoRow : OpenClaim := { program := "ytpjinngngbifoaa", sum := "b2b91c6ae90242f433cecfb97d8954fd775646b3f32064591c81253387861296", func := "antipode/antipodelaw5.WalPicks", spec := "walPicks", apart := false, narrowed := true }
def WalPicksUptoSaid : Prop := walPicksUptoRow.holds Try.pinned (OpenSpec.upto walPicksSpec)

/-- 'antipodelaw5.WalLast', WHERE WHAT IT READS IS OF BULK AT MOST 1048576: true; the input reads as it did. -/
def walLastUptoRow : OpenClaim := { program := "ytpjinngngbifoaa", sum := "b2b91c6ae90242f433cecfb97d8954fd775646b3f32064591c81253387861296", func := "antipode/antipodelaw5.WalLast", spec := "walLast", apart := false, narrowed := true }
def WalLastUptoSaid : Prop := walLastUptoRow.holds Try.pinned (OpenSpec.upto walLastSpec)

/-- 'antipodelaw5.WalLasts', WHERE WHAT IT READS IS OF BULK AT MOST 1048576: true; the input reads as it did. -/
def walLastsUptoRow : OpenClaim := { program := "ytpjinngngbifoaa", sum := "b2b91c6ae90242f433cecfb97d8954fd775646b3f32064591c81253387861296", func := "antipode/antipodelaw5.WalLasts", spec := "walLasts", apart := false, narrowed := true }
def WalLastsUptoSaid : Prop := walLastsUptoRow.holds Try.pinned (OpenSpec.upto walLastsSpec)

/-- 'antipodelaw5.WalGoes', WHERE WHAT IT READS IS OF BULK AT MOST 1048576: true; the input reads as it did. -/
def walGoesUptoRow : OpenClaim := { program := "ytpjinngngbifoaa", sum := "b2b91c6ae90242f433cecfb97d8954fd775646b3f32064591c81253387861296", func := "antipode/antipodelaw5.WalGoes", spec := "walGoes", apart := false, narrowed := true }
def WalGoesUptoSaid : Prop := walGoesUptoRow.holds Try.pinned (OpenSpec.upto walGoesSpec)

/-- 'antipodelaw5.WalAll', WHERE WHAT IT READS IS OF BULK AT MOST 1048576: true; the input reads as it did. -/
def walAllUptoRow : OpenClaim := { program := "ytpjinngngbifoaa", sum := "b2b91c6ae90242f433cecfb97d8954fd775646b3f32064591c81253387861296", func := "antipode/antipodelaw5.WalAll", spec := "walAll", apart := false, narrowed := true }
def WalAllUptoSaid : Prop := walAllUptoRow.holds Try.pinned (OpenSpec.upto walAllSpec)

/-- 'antipodelaw5.WalNone', WHERE WHAT IT READS IS OF BULK AT MOST 1048576: true; the input reads as it did. -/
def walNoneUptoRow : OpenClaim := { program := "ytpjinngngbifoaa", sum := "b2b91c6ae90242f433cecfb97d8954fd775646b3f32064591c81253387861296", func := "antipode/antipodelaw5.WalNone", spec := "walNone", apart := false, narrowed := true }
def WalNoneUptoSaid : Prop := walNoneUptoRow.holds Try.pinned (OpenSpec.upto walNoneSpec)

end Rows
end Go.Proofs.Ytpjinngngbifoaa
