/-
  NARROWER THAN 'FOR EVERY INPUT', by the rows' own cells (each row's printed sentence says how): ExprTypes: loops · ExprValues: loops · ExprLogic: loops · ExprNull: loops · ExprKinds: loops.
  DERIVED. THE GIVEN ROWS OF THIS SEAT. 7 by the template 'for every input the law returns true; each argument reads behind the call as it read before'; 0 by the template 'total and deterministic' (their statements: YtakbikibahhepaaTotals.lean).
  GIVEN WITH THE SEED: the statements are not yours to turn. If you find one false, say at which input.
  Laid BY PROGRAM, IN A SANDBOX (cutbox-rows.mjs): the forced cells as the released guide's own fill.sh prints them over the translation bacfa11b6863d455… (all of the seat's roots in one cut). By AI agents, Wed Nov 11 2026. No macro, syntax, notation, axiom, sorry.
-/
import Derived.Test.YtakbikibahhepaaChecked
import GoSem.Claim
import GoSem.ClaimJoined
import GoSem.ClaimMapViews
import Derived.JoinedTies
import Derived.KernelRfl
namespace Go.Proofs.Ytakbikibahhepaa
/- THE CELL 'sum', in the pinned program and in every row, IS THE sha256 OF THE DUMP (.gsa) THAT YtakbikibahhepaaProg.lean LOADS. Nothing in Lean hashes anything: it is a label: what it is worth is what the hold of that sum in a sandbox is worth. -/
noncomputable def Try.pinned : Pinned := { name := "ytakbikibahhepaa", sum := "bacfa11b6863d4553a6c7e18490d279c6d0f73deb21ebb2af426eb7e902bcb02", checked := Try.checked }
namespace Rows
def none {H : Type} : Left H := { results := [], args := [] }

/-- 'antipodelaw19.ExprTypes': WHATEVER THE INPUT: true; the input reads as it did. -/
def exprTypesSpec : ChangeSpec := { name := "exprTypes", fn := fun _ => fun
  | [d1, d2, d3] => { results := [.lit (.bool true)], args := [d1, d2, d3] }
  | _ => none }
def exprTypesRow : OpenClaim := { program := "ytakbikibahhepaa", sum := "bacfa11b6863d4553a6c7e18490d279c6d0f73deb21ebb2af426eb7e902bcb02", func := "antipode/antipodelaw19.ExprTypes", spec := "exprTypes", inPlace := ["internal/bytealg.abigen_runtime_cmpstring"], unfollowed := true, recurses := true, loops := true, apart := false }
def ExprTypesSaid : Prop := exprTypesRow.holds Try.pinned (OpenSpec.ofChange exprTypesSpec)

/-- ITS FALSE NEIGHBOUR: 'it returns false'. Refute it at one input. -/
def exprTypesWrong : ChangeSpec := { name := "exprTypes", fn := fun _ => fun
  | [d1, d2, d3] => { results := [.lit (.bool false)], args := [d1, d2, d3] }
  | _ => none }
def ExprTypesWrongFalsely : Prop := exprTypesRow.holds Try.pinned (OpenSpec.ofChange exprTypesWrong)

/-- 'antipodelaw19.ExprValues': WHATEVER THE INPUT: true; the input reads as it did. -/
def exprValuesSpec : ChangeSpec := { name := "exprValues", fn := fun _ => fun
  | [d1, d2] => { results := [.lit (.bool true)], args := [d1, d2] }
  | _ => none }
def exprValuesRow : OpenClaim := { program := "ytakbikibahhepaa", sum := "bacfa11b6863d4553a6c7e18490d279c6d0f73deb21ebb2af426eb7e902bcb02", func := "antipode/antipodelaw19.ExprValues", spec := "exprValues", inPlace := ["internal/bytealg.abigen_runtime_cmpstring"], unfollowed := true, recurses := true, loops := true, apart := false }
def ExprValuesSaid : Prop := exprValuesRow.holds Try.pinned (OpenSpec.ofChange exprValuesSpec)

/-- ITS FALSE NEIGHBOUR: 'it returns false'. Refute it at one input. -/
def exprValuesWrong : ChangeSpec := { name := "exprValues", fn := fun _ => fun
  | [d1, d2] => { results := [.lit (.bool false)], args := [d1, d2] }
  | _ => none }
def ExprValuesWrongFalsely : Prop := exprValuesRow.holds Try.pinned (OpenSpec.ofChange exprValuesWrong)

/-- 'antipodelaw19.ExprLogic': WHATEVER THE INPUT: true; the input reads as it did. -/
def exprLogicSpec : ChangeSpec := { name := "exprLogic", fn := fun _ => fun
  | [d1, d2, d3, d4] => { results := [.lit (.bool true)], args := [d1, d2, d3, d4] }
  | _ => none }
def exprLogicRow : OpenClaim := { program := "ytakbikibahhepaa", sum := "bacfa11b6863d4553a6c7e18490d279c6d0f73deb21ebb2af426eb7e902bcb02", func := "antipode/antipodelaw19.ExprLogic", spec := "exprLogic", inPlace := ["internal/bytealg.abigen_runtime_cmpstring"], unfollowed := true, recurses := true, loops := true, apart := false }
def ExprLogicSaid : Prop := exprLogicRow.holds Try.pinned (OpenSpec.ofChange exprLogicSpec)

/-- ITS FALSE NEIGHBOUR: 'it returns false'. Refute it at one input. -/
def exprLogicWrong : ChangeSpec := { name := "exprLogic", fn := fun _ => fun
  | [d1, d2, d3, d4] => { results := [.lit (.bool false)], args := [d1, d2, d3, d4] }
  | _ => none }
def ExprLogicWrongFalsely : Prop := exprLogicRow.holds Try.pinned (OpenSpec.ofChange exprLogicWrong)

/-- 'antipodelaw19.ExprOrder': WHATEVER THE INPUT: true; the input reads as it did. -/
def exprOrderSpec : ChangeSpec := { name := "exprOrder", fn := fun _ => fun
  | [d1, d2, d3] => { results := [.lit (.bool true)], args := [d1, d2, d3] }
  | _ => none }
def exprOrderRow : OpenClaim := { program := "ytakbikibahhepaa", sum := "bacfa11b6863d4553a6c7e18490d279c6d0f73deb21ebb2af426eb7e902bcb02", func := "antipode/antipodelaw19.ExprOrder", spec := "exprOrder", inPlace := ["internal/bytealg.abigen_runtime_cmpstring"], unfollowed := true, recurses := true, apart := false }
def ExprOrderSaid : Prop := exprOrderRow.holds Try.pinned (OpenSpec.ofChange exprOrderSpec)

/-- ITS FALSE NEIGHBOUR: 'it returns false'. Refute it at one input. -/
def exprOrderWrong : ChangeSpec := { name := "exprOrder", fn := fun _ => fun
  | [d1, d2, d3] => { results := [.lit (.bool false)], args := [d1, d2, d3] }
  | _ => none }
def ExprOrderWrongFalsely : Prop := exprOrderRow.holds Try.pinned (OpenSpec.ofChange exprOrderWrong)

/-- 'antipodelaw19.ExprSums': WHATEVER THE INPUT: true; the input reads as it did. -/
def exprSumsSpec : ChangeSpec := { name := "exprSums", fn := fun _ => fun
  | [d1, d2] => { results := [.lit (.bool true)], args := [d1, d2] }
  | _ => none }
def exprSumsRow : OpenClaim := { program := "ytakbikibahhepaa", sum := "bacfa11b6863d4553a6c7e18490d279c6d0f73deb21ebb2af426eb7e902bcb02", func := "antipode/antipodelaw19.ExprSums", spec := "exprSums", inPlace := ["internal/bytealg.abigen_runtime_cmpstring"], unfollowed := true, recurses := true, apart := false }
def ExprSumsSaid : Prop := exprSumsRow.holds Try.pinned (OpenSpec.ofChange exprSumsSpec)

/-- ITS FALSE NEIGHBOUR: 'it returns false'. Refute it at one input. -/
def exprSumsWrong : ChangeSpec := { name := "exprSums", fn := fun _ => fun
  | [d1, d2] => { results := [.lit (.bool false)], args := [d1, d2] }
  | _ => none }
def ExprSumsWrongFalsely : Prop := exprSumsRow.holds Try.pinned (OpenSpec.ofChange exprSumsWrong)

/-- 'antipodelaw19.ExprNull': WHATEVER THE INPUT: true; the input reads as it did. -/
def exprNullSpec : ChangeSpec := { name := "exprNull", fn := fun _ => fun
  | [d1, d2, d3] => { results := [.lit (.bool true)], args := [d1, d2, d3] }
  | _ => none }
def exprNullRow : OpenClaim := { program := "ytakbikibahhepaa", sum := "bacfa11b6863d4553a6c7e18490d279c6d0f73deb21ebb2af426eb7e902bcb02", func := "antipode/antipodelaw19.ExprNull", spec := "exprNull", inPlace := ["internal/bytealg.abigen_runtime_cmpstring"], unfollowed := true, recurses := true, loops := true, apart := false }
def ExprNullSaid : Prop := exprNullRow.holds Try.pinned (OpenSpec.ofChange exprNullSpec)

/-- ITS FALSE NEIGHBOUR: 'it returns false'. Refute it at one input. -/
def exprNullWrong : ChangeSpec := { name := "exprNull", fn := fun _ => fun
  | [d1, d2, d3] => { results := [.lit (.bool false)], args := [d1, d2, d3] }
  | _ => none }
def ExprNullWrongFalsely : Prop := exprNullRow.holds Try.pinned (OpenSpec.ofChange exprNullWrong)

/-- 'antipodelaw19.ExprKinds': WHATEVER THE INPUT: true; the input reads as it did. -/
def exprKindsSpec : ChangeSpec := { name := "exprKinds", fn := fun _ => fun
  | [d1, d2] => { results := [.lit (.bool true)], args := [d1, d2] }
  | _ => none }
def exprKindsRow : OpenClaim := { program := "ytakbikibahhepaa", sum := "bacfa11b6863d4553a6c7e18490d279c6d0f73deb21ebb2af426eb7e902bcb02", func := "antipode/antipodelaw19.ExprKinds", spec := "exprKinds", inPlace := ["internal/bytealg.abigen_runtime_cmpstring"], unfollowed := true, recurses := true, loops := true, apart := false }
def ExprKindsSaid : Prop := exprKindsRow.holds Try.pinned (OpenSpec.ofChange exprKindsSpec)

/-- ITS FALSE NEIGHBOUR: 'it returns false'. Refute it at one input. -/
def exprKindsWrong : ChangeSpec := { name := "exprKinds", fn := fun _ => fun
  | [d1, d2] => { results := [.lit (.bool false)], args := [d1, d2] }
  | _ => none }
def ExprKindsWrongFalsely : Prop := exprKindsRow.holds Try.pinned (OpenSpec.ofChange exprKindsWrong)

/- THE SECOND FORM. 'bulk': how many values and letters a reading holds, each counted each time it is reached (what is shared counts as often as it is met; a slice's spare places count too). A statement '..UptoSaid' is the law's where the arguments, and the package variables that the reading takes, are together of bulk at most 1048576: NARROWER than '..Said'. Prove '..Said' where nothing that the law and all that it calls make is longer than what came in: it says more and counts as full. Else prove '..UptoSaid'. A law counts once. -/
mutual
def uptoBulk {H : Type} : DataW H → Nat
  | .lit (.string bytes) => bytes.length + 1
  | .lit _ => 1
  | .nil => 1
  | .ptr d => uptoBulk d + 1
  | .slice elems spare => uptoBulkAll elems + uptoBulkAll spare + 1
  | .agg parts => uptoBulkAll parts + 1
  | .iface _ d => uptoBulk d + 1
  | .map entries => uptoBulkEntries entries + 1
  | .held _ => 1
def uptoBulkAll {H : Type} : List (DataW H) → Nat
  | [] => 0
  | d :: r => uptoBulk d + uptoBulkAll r
def uptoBulkEntries {H : Type} : List (Lit × DataW H) → Nat
  | [] => 0
  | x :: r => uptoBulkEntry x + uptoBulkEntries r
def uptoBulkEntry {H : Type} : Lit × DataW H → Nat
  | (.string bytes, d) => bytes.length + uptoBulk d + 1
  | (_, d) => uptoBulk d + 1
 end
def uptoSmall : (H : Type) → List (DataW H) → Bool := fun _ ds => decide (uptoBulkAll ds ≤ 1048576)
def OpenSpec.upto (s : _root_.Go.ChangeSpec) : _root_.Go.OpenSpec := { _root_.Go.OpenSpec.ofChange s with cond := some uptoSmall }

/-- 'antipodelaw19.ExprTypes', WHERE WHAT IT READS IS OF BULK AT MOST 1048576: true; the input reads as it did. -/
def exprTypesUptoRow : OpenClaim := { program := "ytakbikibahhepaa", sum := "bacfa11b6863d4553a6c7e18490d279c6d0f73deb21ebb2af426eb7e902bcb02", func := "antipode/antipodelaw19.ExprTypes", spec := "exprTypes", inPlace := ["internal/bytealg.abigen_runtime_cmpstring"], unfollowed := true, recurses := true, loops := true, apart := false, narrowed := true }
def ExprTypesUptoSaid : Prop := exprTypesUptoRow.holds Try.pinned (OpenSpec.upto exprTypesSpec)

/-- 'antipodelaw19.ExprValues', WHERE WHAT IT READS IS OF BULK AT MOST 1048576: true; the input reads as it did. -/
def exprValuesUptoRow : OpenClaim := { program := "ytakbikibahhepaa", sum := "bacfa11b6863d4553a6c7e18490d279c6d0f73deb21ebb2af426eb7e902bcb02", func := "antipode/antipodelaw19.ExprValues", spec := "exprValues", inPlace := ["internal/bytealg.abigen_runtime_cmpstring"], unfollowed := true, recurses := true, loops := true, apart := false, narrowed := true }
def ExprValuesUptoSaid : Prop := exprValuesUptoRow.holds Try.pinned (OpenSpec.upto exprValuesSpec)

/-- 'antipodelaw19.ExprLogic', WHERE WHAT IT READS IS OF BULK AT MOST 1048576: true; the input reads as it did. -/
def exprLogicUptoRow : OpenClaim := { program := "ytakbikibahhepaa", sum := "bacfa11b6863d4553a6c7e18490d279c6d0f73deb21ebb2af426eb7e902bcb02", func := "antipode/antipodelaw19.ExprLogic", spec := "exprLogic", inPlace := ["internal/bytealg.abigen_runtime_cmpstring"], unfollowed := true, recurses := true, loops := true, apart := false, narrowed := true }
def ExprLogicUptoSaid : Prop := exprLogicUptoRow.holds Try.pinned (OpenSpec.upto exprLogicSpec)

/-- 'antipodelaw19.ExprOrder', WHERE WHAT IT READS IS OF BULK AT MOST 1048576: true; the input reads as it did. -/
def exprOrderUptoRow : OpenClaim := { program := "ytakbikibahhepaa", sum := "bacfa11b6863d4553a6c7e18490d279c6d0f73deb21ebb2af426eb7e902bcb02", func := "antipode/antipodelaw19.ExprOrder", spec := "exprOrder", inPlace := ["internal/bytealg.abigen_runtime_cmpstring"], unfollowed := true, recurses := true, apart := false, narrowed := true }
def ExprOrderUptoSaid : Prop := exprOrderUptoRow.holds Try.pinned (OpenSpec.upto exprOrderSpec)

/-- 'antipodelaw19.ExprSums', WHERE WHAT IT READS IS OF BULK AT MOST 1048576: true; the input reads as it did. -/
def exprSumsUptoRow : OpenClaim := { program := "ytakbikibahhepaa", sum := "bacfa11b6863d4553a6c7e18490d279c6d0f73deb21ebb2af426eb7e902bcb02", func := "antipode/antipodelaw19.ExprSums", spec := "exprSums", inPlace := ["internal/bytealg.abigen_runtime_cmpstring"], unfollowed := true, recurses := true, apart := false, narrowed := true }
def ExprSumsUptoSaid : Prop := exprSumsUptoRow.holds Try.pinned (OpenSpec.upto exprSumsSpec)

/-- 'antipodelaw19.ExprNull', WHERE WHAT IT READS IS OF BULK AT MOST 1048576: true; the input reads as it did. -/
def exprNullUptoRow : OpenClaim := { program := "ytakbikibahhepaa", sum := "bacfa11b6863d4553a6c7e18490d279c6d0f73deb21ebb2af426eb7e902bcb02", func := "antipode/antipodelaw19.ExprNull", spec := "exprNull", inPlace := ["internal/bytealg.abigen_runtime_cmpstring"], unfollowed := true, recurses := true, loops := true, apart := false, narrowed := true }
def ExprNullUptoSaid : Prop := exprNullUptoRow.holds Try.pinned (OpenSpec.upto exprNullSpec)

/-- 'antipodelaw19.ExprKinds', WHERE WHAT IT READS IS OF BULK AT MOST 1048576: true; the input reads as it did. -/
def exprKindsUptoRow : OpenClaim := { program := "ytakbikibahhepaa", sum := "bacfa11b6863d4553a6c7e18490d279c6d0f73deb21ebb2af426eb7e902bcb02", func := "antipode/antipodelaw19.ExprKinds", spec := "exprKinds", inPlace := ["internal/bytealg.abigen_runtime_cmpstring"], unfollowed := true, recurses := true, loops := true, apart := false, narrowed := true }
def ExprKindsUptoSaid : Prop := exprKindsUptoRow.holds Try.pinned (OpenSpec.upto exprKindsSpec)

end Rows
end Go.Proofs.Ytakbikibahhepaa
