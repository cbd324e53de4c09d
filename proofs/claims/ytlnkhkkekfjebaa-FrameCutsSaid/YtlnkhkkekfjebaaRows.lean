/-
  No cell of these rows narrows 'for every input' (looked for: loops, veiled, ifaces, maps, wideKeys, modest, calm, conditions, laid).
  DERIVED. THE GIVEN ROWS OF THIS SEAT. 23 by the template 'for every input the law returns true; each argument reads behind the call as it read before'; 0 by the template 'total and deterministic' (their statements: YtlnkhkkekfjebaaTotals.lean).
  GIVEN WITH THE SEED: the statements are not yours to turn. If you find one false, say at which input.
  Laid BY PROGRAM, IN A SANDBOX (cutbox-rows.mjs): the forced cells as the released guide's own fill.sh prints them over the translation 6f6f662e60c22548… (all of the seat's roots in one cut). By AI agents, Wed Nov 11 2026. No macro, syntax, notation, axiom, sorry.
-/
import Derived.Test.YtlnkhkkekfjebaaChecked
import GoSem.Claim
import GoSem.ClaimJoined
import GoSem.ClaimMapViews
import Derived.JoinedTies
import Derived.KernelRfl
namespace Go.Proofs.Ytlnkhkkekfjebaa
/- THE CELL 'sum', in the pinned program and in every row, IS THE sha256 OF THE DUMP (.gsa) THAT YtlnkhkkekfjebaaProg.lean LOADS. Nothing in Lean hashes anything: it is a label: what it is worth is what the hold of that sum in a sandbox is worth. -/
noncomputable def Try.pinned : Pinned := { name := "ytlnkhkkekfjebaa", sum := "6f6f662e60c22548714c0002ba77427acaccb816e43aa942ecf9f95d44f9203c", checked := Try.checked }
namespace Rows
def none {H : Type} : Left H := { results := [], args := [] }

/-- 'antipodelaw2.SumAll': WHATEVER THE INPUT: true; the input reads as it did. -/
def sumAllSpec : ChangeSpec := { name := "sumAll", fn := fun _ => fun
  | [d1, d2] => { results := [.lit (.bool true)], args := [d1, d2] }
  | _ => none }
def sumAllRow : OpenClaim := { program := "ytlnkhkkekfjebaa", sum := "6f6f662e60c22548714c0002ba77427acaccb816e43aa942ecf9f95d44f9203c", func := "antipode/antipodelaw2.SumAll", spec := "sumAll", apart := false }
def SumAllSaid : Prop := sumAllRow.holds Try.pinned (OpenSpec.ofChange sumAllSpec)

/-- ITS FALSE NEIGHBOUR: 'it returns false'. Refute it at one input. -/
def sumAllWrong : ChangeSpec := { name := "sumAll", fn := fun _ => fun
  | [d1, d2] => { results := [.lit (.bool false)], args := [d1, d2] }
  | _ => none }
def SumAllWrongFalsely : Prop := sumAllRow.holds Try.pinned (OpenSpec.ofChange sumAllWrong)

/-- 'antipodelaw2.SumCuts': WHATEVER THE INPUT: true; the input reads as it did. -/
def sumCutsSpec : ChangeSpec := { name := "sumCuts", fn := fun _ => fun
  | [d1, d2] => { results := [.lit (.bool true)], args := [d1, d2] }
  | _ => none }
def sumCutsRow : OpenClaim := { program := "ytlnkhkkekfjebaa", sum := "6f6f662e60c22548714c0002ba77427acaccb816e43aa942ecf9f95d44f9203c", func := "antipode/antipodelaw2.SumCuts", spec := "sumCuts", apart := false }
def SumCutsSaid : Prop := sumCutsRow.holds Try.pinned (OpenSpec.ofChange sumCutsSpec)

/-- ITS FALSE NEIGHBOUR: 'it returns false'. Refute it at one input. -/
def sumCutsWrong : ChangeSpec := { name := "sumCuts", fn := fun _ => fun
  | [d1, d2] => { results := [.lit (.bool false)], args := [d1, d2] }
  | _ => none }
def SumCutsWrongFalsely : Prop := sumCutsRow.holds Try.pinned (OpenSpec.ofChange sumCutsWrong)

/-- 'antipodelaw2.SumBursts': WHATEVER THE INPUT: true; the input reads as it did. -/
def sumBurstsSpec : ChangeSpec := { name := "sumBursts", fn := fun _ => fun
  | [d1, d2, d3] => { results := [.lit (.bool true)], args := [d1, d2, d3] }
  | _ => none }
def sumBurstsRow : OpenClaim := { program := "ytlnkhkkekfjebaa", sum := "6f6f662e60c22548714c0002ba77427acaccb816e43aa942ecf9f95d44f9203c", func := "antipode/antipodelaw2.SumBursts", spec := "sumBursts", apart := false }
def SumBurstsSaid : Prop := sumBurstsRow.holds Try.pinned (OpenSpec.ofChange sumBurstsSpec)

/-- ITS FALSE NEIGHBOUR: 'it returns false'. Refute it at one input. -/
def sumBurstsWrong : ChangeSpec := { name := "sumBursts", fn := fun _ => fun
  | [d1, d2, d3] => { results := [.lit (.bool false)], args := [d1, d2, d3] }
  | _ => none }
def SumBurstsWrongFalsely : Prop := sumBurstsRow.holds Try.pinned (OpenSpec.ofChange sumBurstsWrong)

/-- 'antipodelaw2.SumLines': WHATEVER THE INPUT: true; the input reads as it did. -/
def sumLinesSpec : ChangeSpec := { name := "sumLines", fn := fun _ => fun
  | [d1, d2, d3] => { results := [.lit (.bool true)], args := [d1, d2, d3] }
  | _ => none }
def sumLinesRow : OpenClaim := { program := "ytlnkhkkekfjebaa", sum := "6f6f662e60c22548714c0002ba77427acaccb816e43aa942ecf9f95d44f9203c", func := "antipode/antipodelaw2.SumLines", spec := "sumLines", apart := false }
def SumLinesSaid : Prop := sumLinesRow.holds Try.pinned (OpenSpec.ofChange sumLinesSpec)

/-- ITS FALSE NEIGHBOUR: 'it returns false'. Refute it at one input. -/
def sumLinesWrong : ChangeSpec := { name := "sumLines", fn := fun _ => fun
  | [d1, d2, d3] => { results := [.lit (.bool false)], args := [d1, d2, d3] }
  | _ => none }
def SumLinesWrongFalsely : Prop := sumLinesRow.holds Try.pinned (OpenSpec.ofChange sumLinesWrong)

/-- 'antipodelaw2.SumOnward': WHATEVER THE INPUT: true; the input reads as it did. -/
def sumOnwardSpec : ChangeSpec := { name := "sumOnward", fn := fun _ => fun
  | [d1, d2] => { results := [.lit (.bool true)], args := [d1, d2] }
  | _ => none }
def sumOnwardRow : OpenClaim := { program := "ytlnkhkkekfjebaa", sum := "6f6f662e60c22548714c0002ba77427acaccb816e43aa942ecf9f95d44f9203c", func := "antipode/antipodelaw2.SumOnward", spec := "sumOnward", apart := false }
def SumOnwardSaid : Prop := sumOnwardRow.holds Try.pinned (OpenSpec.ofChange sumOnwardSpec)

/-- ITS FALSE NEIGHBOUR: 'it returns false'. Refute it at one input. -/
def sumOnwardWrong : ChangeSpec := { name := "sumOnward", fn := fun _ => fun
  | [d1, d2] => { results := [.lit (.bool false)], args := [d1, d2] }
  | _ => none }
def SumOnwardWrongFalsely : Prop := sumOnwardRow.holds Try.pinned (OpenSpec.ofChange sumOnwardWrong)

/-- 'antipodelaw4.DiskTails': WHATEVER THE INPUT: true; the input reads as it did. -/
def diskTailsSpec : ChangeSpec := { name := "diskTails", fn := fun _ => fun
  | [d1, d2, d3] => { results := [.lit (.bool true)], args := [d1, d2, d3] }
  | _ => none }
def diskTailsRow : OpenClaim := { program := "ytlnkhkkekfjebaa", sum := "6f6f662e60c22548714c0002ba77427acaccb816e43aa942ecf9f95d44f9203c", func := "antipode/antipodelaw4.DiskTails", spec := "diskTails", apart := false }
def DiskTailsSaid : Prop := diskTailsRow.holds Try.pinned (OpenSpec.ofChange diskTailsSpec)

/-- ITS FALSE NEIGHBOUR: 'it returns false'. Refute it at one input. -/
def diskTailsWrong : ChangeSpec := { name := "diskTails", fn := fun _ => fun
  | [d1, d2, d3] => { results := [.lit (.bool false)], args := [d1, d2, d3] }
  | _ => none }
def DiskTailsWrongFalsely : Prop := diskTailsRow.holds Try.pinned (OpenSpec.ofChange diskTailsWrong)

/-- 'antipodelaw4.DiskLasts': WHATEVER THE INPUT: true; the input reads as it did. -/
def diskLastsSpec : ChangeSpec := { name := "diskLasts", fn := fun _ => fun
  | [d1, d2, d3] => { results := [.lit (.bool true)], args := [d1, d2, d3] }
  | _ => none }
def diskLastsRow : OpenClaim := { program := "ytlnkhkkekfjebaa", sum := "6f6f662e60c22548714c0002ba77427acaccb816e43aa942ecf9f95d44f9203c", func := "antipode/antipodelaw4.DiskLasts", spec := "diskLasts", apart := false }
def DiskLastsSaid : Prop := diskLastsRow.holds Try.pinned (OpenSpec.ofChange diskLastsSpec)

/-- ITS FALSE NEIGHBOUR: 'it returns false'. Refute it at one input. -/
def diskLastsWrong : ChangeSpec := { name := "diskLasts", fn := fun _ => fun
  | [d1, d2, d3] => { results := [.lit (.bool false)], args := [d1, d2, d3] }
  | _ => none }
def DiskLastsWrongFalsely : Prop := diskLastsRow.holds Try.pinned (OpenSpec.ofChange diskLastsWrong)

/-- 'antipodelaw4.DiskAll': WHATEVER THE INPUT: true; the input reads as it did. -/
def diskAllSpec : ChangeSpec := { name := "diskAll", fn := fun _ => fun
  | [d] => { results := [.lit (.bool true)], args := [d] }
  | _ => none }
def diskAllRow : OpenClaim := { program := "ytlnkhkkekfjebaa", sum := "6f6f662e60c22548714c0002ba77427acaccb816e43aa942ecf9f95d44f9203c", func := "antipode/antipodelaw4.DiskAll", spec := "diskAll", apart := false }
def DiskAllSaid : Prop := diskAllRow.holds Try.pinned (OpenSpec.ofChange diskAllSpec)

/-- ITS FALSE NEIGHBOUR: 'it returns false'. Refute it at one input. -/
def diskAllWrong : ChangeSpec := { name := "diskAll", fn := fun _ => fun
  | [d] => { results := [.lit (.bool false)], args := [d] }
  | _ => none }
def DiskAllWrongFalsely : Prop := diskAllRow.holds Try.pinned (OpenSpec.ofChange diskAllWrong)

/-- 'antipodelaw4.DiskArmed': WHATEVER THE INPUT: true; the input reads as it did. -/
def diskArmedSpec : ChangeSpec := { name := "diskArmed", fn := fun _ => fun
  | [d1, d2] => { results := [.lit (.bool true)], args := [d1, d2] }
  | _ => none }
def diskArmedRow : OpenClaim := { program := "ytlnkhkkekfjebaa", sum := "6f6f662e60c22548714c0002ba77427acaccb816e43aa942ecf9f95d44f9203c", func := "antipode/antipodelaw4.DiskArmed", spec := "diskArmed", apart := false }
def DiskArmedSaid : Prop := diskArmedRow.holds Try.pinned (OpenSpec.ofChange diskArmedSpec)

/-- ITS FALSE NEIGHBOUR: 'it returns false'. Refute it at one input. -/
def diskArmedWrong : ChangeSpec := { name := "diskArmed", fn := fun _ => fun
  | [d1, d2] => { results := [.lit (.bool false)], args := [d1, d2] }
  | _ => none }
def DiskArmedWrongFalsely : Prop := diskArmedRow.holds Try.pinned (OpenSpec.ofChange diskArmedWrong)

/-- 'antipodelaw3.FrameWrites': WHATEVER THE INPUT: true; the input reads as it did. -/
def frameWritesSpec : ChangeSpec := { name := "frameWrites", fn := fun _ => fun
  | [d1, d2] => { results := [.lit (.bool true)], args := [d1, d2] }
  | _ => none }
def frameWritesRow : OpenClaim := { program := "ytlnkhkkekfjebaa", sum := "6f6f662e60c22548714c0002ba77427acaccb816e43aa942ecf9f95d44f9203c", func := "antipode/antipodelaw3.FrameWrites", spec := "frameWrites", apart := false }
def FrameWritesSaid : Prop := frameWritesRow.holds Try.pinned (OpenSpec.ofChange frameWritesSpec)

/-- ITS FALSE NEIGHBOUR: 'it returns false'. Refute it at one input. -/
def frameWritesWrong : ChangeSpec := { name := "frameWrites", fn := fun _ => fun
  | [d1, d2] => { results := [.lit (.bool false)], args := [d1, d2] }
  | _ => none }
def FrameWritesWrongFalsely : Prop := frameWritesRow.holds Try.pinned (OpenSpec.ofChange frameWritesWrong)

/-- 'antipodelaw3.FrameReads': WHATEVER THE INPUT: true; the input reads as it did. -/
def frameReadsSpec : ChangeSpec := { name := "frameReads", fn := fun _ => fun
  | [d1, d2] => { results := [.lit (.bool true)], args := [d1, d2] }
  | _ => none }
def frameReadsRow : OpenClaim := { program := "ytlnkhkkekfjebaa", sum := "6f6f662e60c22548714c0002ba77427acaccb816e43aa942ecf9f95d44f9203c", func := "antipode/antipodelaw3.FrameReads", spec := "frameReads", apart := false }
def FrameReadsSaid : Prop := frameReadsRow.holds Try.pinned (OpenSpec.ofChange frameReadsSpec)

/-- ITS FALSE NEIGHBOUR: 'it returns false'. Refute it at one input. -/
def frameReadsWrong : ChangeSpec := { name := "frameReads", fn := fun _ => fun
  | [d1, d2] => { results := [.lit (.bool false)], args := [d1, d2] }
  | _ => none }
def FrameReadsWrongFalsely : Prop := frameReadsRow.holds Try.pinned (OpenSpec.ofChange frameReadsWrong)

/-- 'antipodelaw3.FrameCuts': WHATEVER THE INPUT: true; the input reads as it did. -/
def frameCutsSpec : ChangeSpec := { name := "frameCuts", fn := fun _ => fun
  | [d1, d2] => { results := [.lit (.bool true)], args := [d1, d2] }
  | _ => none }
def frameCutsRow : OpenClaim := { program := "ytlnkhkkekfjebaa", sum := "6f6f662e60c22548714c0002ba77427acaccb816e43aa942ecf9f95d44f9203c", func := "antipode/antipodelaw3.FrameCuts", spec := "frameCuts", apart := false }
def FrameCutsSaid : Prop := frameCutsRow.holds Try.pinned (OpenSpec.ofChange frameCutsSpec)

/-- ITS FALSE NEIGHBOUR: 'it returns false'. Refute it at one input. -/
def frameCutsWrong : ChangeSpec := { name := "frameCuts", fn := fun _ => fun
  | [d1, d2] => { results := [.lit (.bool false)], args := [d1, d2] }
  | _ => none }
def FrameCutsWrongFalsely : Prop := frameCutsRow.holds Try.pinned (OpenSpec.ofChange frameCutsWrong)

/-- 'antipodelaw3.FrameTurned': WHATEVER THE INPUT: true; the input reads as it did. -/
def frameTurnedSpec : ChangeSpec := { name := "frameTurned", fn := fun _ => fun
  | [d1, d2, d3, d4] => { results := [.lit (.bool true)], args := [d1, d2, d3, d4] }
  | _ => none }
def frameTurnedRow : OpenClaim := { program := "ytlnkhkkekfjebaa", sum := "6f6f662e60c22548714c0002ba77427acaccb816e43aa942ecf9f95d44f9203c", func := "antipode/antipodelaw3.FrameTurned", spec := "frameTurned", apart := false }
def FrameTurnedSaid : Prop := frameTurnedRow.holds Try.pinned (OpenSpec.ofChange frameTurnedSpec)

/-- ITS FALSE NEIGHBOUR: 'it returns false'. Refute it at one input. -/
def frameTurnedWrong : ChangeSpec := { name := "frameTurned", fn := fun _ => fun
  | [d1, d2, d3, d4] => { results := [.lit (.bool false)], args := [d1, d2, d3, d4] }
  | _ => none }
def FrameTurnedWrongFalsely : Prop := frameTurnedRow.holds Try.pinned (OpenSpec.ofChange frameTurnedWrong)

/-- 'antipodelaw3.FrameAgain': WHATEVER THE INPUT: true; the input reads as it did. -/
def frameAgainSpec : ChangeSpec := { name := "frameAgain", fn := fun _ => fun
  | [d] => { results := [.lit (.bool true)], args := [d] }
  | _ => none }
def frameAgainRow : OpenClaim := { program := "ytlnkhkkekfjebaa", sum := "6f6f662e60c22548714c0002ba77427acaccb816e43aa942ecf9f95d44f9203c", func := "antipode/antipodelaw3.FrameAgain", spec := "frameAgain", apart := false }
def FrameAgainSaid : Prop := frameAgainRow.holds Try.pinned (OpenSpec.ofChange frameAgainSpec)

/-- ITS FALSE NEIGHBOUR: 'it returns false'. Refute it at one input. -/
def frameAgainWrong : ChangeSpec := { name := "frameAgain", fn := fun _ => fun
  | [d] => { results := [.lit (.bool false)], args := [d] }
  | _ => none }
def FrameAgainWrongFalsely : Prop := frameAgainRow.holds Try.pinned (OpenSpec.ofChange frameAgainWrong)

/-- 'antipodelaw3.FrameForged': WHATEVER THE INPUT: true; the input reads as it did. -/
def frameForgedSpec : ChangeSpec := { name := "frameForged", fn := fun _ => fun
  | [d1, d2, d3, d4] => { results := [.lit (.bool true)], args := [d1, d2, d3, d4] }
  | _ => none }
def frameForgedRow : OpenClaim := { program := "ytlnkhkkekfjebaa", sum := "6f6f662e60c22548714c0002ba77427acaccb816e43aa942ecf9f95d44f9203c", func := "antipode/antipodelaw3.FrameForged", spec := "frameForged", apart := false }
def FrameForgedSaid : Prop := frameForgedRow.holds Try.pinned (OpenSpec.ofChange frameForgedSpec)

/-- ITS FALSE NEIGHBOUR: 'it returns false'. Refute it at one input. -/
def frameForgedWrong : ChangeSpec := { name := "frameForged", fn := fun _ => fun
  | [d1, d2, d3, d4] => { results := [.lit (.bool false)], args := [d1, d2, d3, d4] }
  | _ => none }
def FrameForgedWrongFalsely : Prop := frameForgedRow.holds Try.pinned (OpenSpec.ofChange frameForgedWrong)

/-- 'antipodelaw4.DiskCopies': WHATEVER THE INPUT: true; the input reads as it did. -/
def diskCopiesSpec : ChangeSpec := { name := "diskCopies", fn := fun _ => fun
  | [d1, d2] => { results := [.lit (.bool true)], args := [d1, d2] }
  | _ => none }
def diskCopiesRow : OpenClaim := { program := "ytlnkhkkekfjebaa", sum := "6f6f662e60c22548714c0002ba77427acaccb816e43aa942ecf9f95d44f9203c", func := "antipode/antipodelaw4.DiskCopies", spec := "diskCopies", apart := false }
def DiskCopiesSaid : Prop := diskCopiesRow.holds Try.pinned (OpenSpec.ofChange diskCopiesSpec)

/-- ITS FALSE NEIGHBOUR: 'it returns false'. Refute it at one input. -/
def diskCopiesWrong : ChangeSpec := { name := "diskCopies", fn := fun _ => fun
  | [d1, d2] => { results := [.lit (.bool false)], args := [d1, d2] }
  | _ => none }
def DiskCopiesWrongFalsely : Prop := diskCopiesRow.holds Try.pinned (OpenSpec.ofChange diskCopiesWrong)

/-- 'antipodelaw4.DiskNone': WHATEVER THE INPUT: true; the input reads as it did. -/
def diskNoneSpec : ChangeSpec := { name := "diskNone", fn := fun _ => fun
  | [] => { results := [.lit (.bool true)], args := [] }
  | _ => none }
def diskNoneRow : OpenClaim := { program := "ytlnkhkkekfjebaa", sum := "6f6f662e60c22548714c0002ba77427acaccb816e43aa942ecf9f95d44f9203c", func := "antipode/antipodelaw4.DiskNone", spec := "diskNone", apart := false }
def DiskNoneSaid : Prop := diskNoneRow.holds Try.pinned (OpenSpec.ofChange diskNoneSpec)

/-- ITS FALSE NEIGHBOUR: 'it returns false'. Refute it at one input. -/
def diskNoneWrong : ChangeSpec := { name := "diskNone", fn := fun _ => fun
  | [] => { results := [.lit (.bool false)], args := [] }
  | _ => none }
def DiskNoneWrongFalsely : Prop := diskNoneRow.holds Try.pinned (OpenSpec.ofChange diskNoneWrong)

/-- 'antipodelaw5.WalPicks': WHATEVER THE INPUT: true; the input reads as it did. -/
def walPicksSpec : ChangeSpec := { name := "walPicks", fn := fun _ => fun
  | [d1, d2, d3, d4, d5, d6] => { results := [.lit (.bool true)], args := [d1, d2, d3, d4, d5, d6] }
  | _ => none }
def walPicksRow : OpenClaim := { program := "ytlnkhkkekfjebaa", sum := "6f6f662e60c22548714c0002ba77427acaccb816e43aa942ecf9f95d44f9203c", func := "antipode/antipodelaw5.WalPicks", spec := "walPicks", apart := false }
def WalPicksSaid : Prop := walPicksRow.holds Try.pinned (OpenSpec.ofChange walPicksSpec)

/-- ITS FALSE NEIGHBOUR: 'it returns false'. Refute it at one input. -/
def walPicksWrong : ChangeSpec := { name := "walPicks", fn := fun _ => fun
  | [d1, d2, d3, d4, d5, d6] => { results := [.lit (.bool false)], args := [d1, d2, d3, d4, d5, d6] }
  | _ => none }
def WalPicksWrongFalsely : Prop := walPicksRow.holds Try.pinned (OpenSpec.ofChange walPicksWrong)

/-- 'antipodelaw5.WalLast': WHATEVER THE INPUT: true; the input reads as it did. -/
def walLastSpec : ChangeSpec := { name := "walLast", fn := fun _ => fun
  | [d1, d2, d3] => { results := [.lit (.bool true)], args := [d1, d2, d3] }
  | _ => none }
def walLastRow : OpenClaim := { program := "ytlnkhkkekfjebaa", sum := "6f6f662e60c22548714c0002ba77427acaccb816e43aa942ecf9f95d44f9203c", func := "antipode/antipodelaw5.WalLast", spec := "walLast", apart := false }
def WalLastSaid : Prop := walLastRow.holds Try.pinned (OpenSpec.ofChange walLastSpec)

/-- ITS FALSE NEIGHBOUR: 'it returns false'. Refute it at one input. -/
def walLastWrong : ChangeSpec := { name := "walLast", fn := fun _ => fun
  | [d1, d2, d3] => { results := [.lit (.bool false)], args := [d1, d2, d3] }
  | _ => none }
def WalLastWrongFalsely : Prop := walLastRow.holds Try.pinned (OpenSpec.ofChange walLastWrong)

/-- 'antipodelaw5.WalLasts': WHATEVER THE INPUT: true; the input reads as it did. -/
def walLastsSpec : ChangeSpec := { name := "walLasts", fn := fun _ => fun
  | [d1, d2, d3, d4, d5] => { results := [.lit (.bool true)], args := [d1, d2, d3, d4, d5] }
  | _ => none }
def walLastsRow : OpenClaim := { program := "ytlnkhkkekfjebaa", sum := "6f6f662e60c22548714c0002ba77427acaccb816e43aa942ecf9f95d44f9203c", func := "antipode/antipodelaw5.WalLasts", spec := "walLasts", apart := false }
def WalLastsSaid : Prop := walLastsRow.holds Try.pinned (OpenSpec.ofChange walLastsSpec)

/-- ITS FALSE NEIGHBOUR: 'it returns false'. Refute it at one input. -/
def walLastsWrong : ChangeSpec := { name := "walLasts", fn := fun _ => fun
  | [d1, d2, d3, d4, d5] => { results := [.lit (.bool false)], args := [d1, d2, d3, d4, d5] }
  | _ => none }
def WalLastsWrongFalsely : Prop := walLastsRow.holds Try.pinned (OpenSpec.ofChange walLastsWrong)

/-- 'antipodelaw5.WalGoes': WHATEVER THE INPUT: true; the input reads as it did. -/
def walGoesSpec : ChangeSpec := { name := "walGoes", fn := fun _ => fun
  | [d1, d2] => { results := [.lit (.bool true)], args := [d1, d2] }
  | _ => none }
def walGoesRow : OpenClaim := { program := "ytlnkhkkekfjebaa", sum := "6f6f662e60c22548714c0002ba77427acaccb816e43aa942ecf9f95d44f9203c", func := "antipode/antipodelaw5.WalGoes", spec := "walGoes", apart := false }
def WalGoesSaid : Prop := walGoesRow.holds Try.pinned (OpenSpec.ofChange walGoesSpec)

/-- ITS FALSE NEIGHBOUR: 'it returns false'. Refute it at one input. -/
def walGoesWrong : ChangeSpec := { name := "walGoes", fn := fun _ => fun
  | [d1, d2] => { results := [.lit (.bool false)], args := [d1, d2] }
  | _ => none }
def WalGoesWrongFalsely : Prop := walGoesRow.holds Try.pinned (OpenSpec.ofChange walGoesWrong)

/-- 'antipodelaw5.WalAll': WHATEVER THE INPUT: true; the input reads as it did. -/
def walAllSpec : ChangeSpec := { name := "walAll", fn := fun _ => fun
  | [d] => { results := [.lit (.bool true)], args := [d] }
  | _ => none }
def walAllRow : OpenClaim := { program := "ytlnkhkkekfjebaa", sum := "6f6f662e60c22548714c0002ba77427acaccb816e43aa942ecf9f95d44f9203c", func := "antipode/antipodelaw5.WalAll", spec := "walAll", apart := false }
def WalAllSaid : Prop := walAllRow.holds Try.pinned (OpenSpec.ofChange walAllSpec)

/-- ITS FALSE NEIGHBOUR: 'it returns false'. Refute it at one input. -/
def walAllWrong : ChangeSpec := { name := "walAll", fn := fun _ => fun
  | [d] => { results := [.lit (.bool false)], args := [d] }
  | _ => none }
def WalAllWrongFalsely : Prop := walAllRow.holds Try.pinned (OpenSpec.ofChange walAllWrong)

/-- 'antipodelaw5.WalNone': WHATEVER THE INPUT: true; the input reads as it did. -/
def walNoneSpec : ChangeSpec := { name := "walNone", fn := fun _ => fun
  | [] => { results := [.lit (.bool true)], args := [] }
  | _ => none }
def walNoneRow : OpenClaim := { program := "ytlnkhkkekfjebaa", sum := "6f6f662e60c22548714c0002ba77427acaccb816e43aa942ecf9f95d44f9203c", func := "antipode/antipodelaw5.WalNone", spec := "walNone", apart := false }
def WalNoneSaid : Prop := walNoneRow.holds Try.pinned (OpenSpec.ofChange walNoneSpec)

/-- ITS FALSE NEIGHBOUR: 'it returns false'. Refute it at one input. -/
def walNoneWrong : ChangeSpec := { name := "walNone", fn := fun _ => fun
  | [] => { results := [.lit (.bool false)], args := [] }
  | _ => none }
def WalNoneWrongFalsely : Prop := walNoneRow.holds Try.pinned (OpenSpec.ofChange walNoneWrong)

/- THE SECOND FORM. 'bulk': how many values and letters a reading holds, each counted each time it is reached (what is shared counts as often as it is met; a slice's spare places count too). A statement '..UptoSaid' is the law's where the arguments, and the package variables that the reading takes, are together of bulk at most 1048576: NARROWER than '..Said'. Prove '..Said' where nothing that the law and all that it calls make is longer than what came in: it says more and counts as full. Else prove '..UptoSaid'. A law counts once. -/
mutual
def uptoBulk {H : Type} : DataW H → Nat
  | .lit (.string bytes) => bytes.length + 1
  | .lit _ => 1
  | .nil => 1
  | .ptr d => uptoBulk d + 1
  | .slice elems spare => uptoBulkAll elems + uptoBulkAll spare + 1
  | .agg parts => uptoBulkAll parts + 1
  | .iface _ d => uptoBulk d + 1
  | .map entries => uptoBulkEntries entries + 1
  | .held _ => 1
def uptoBulkAll {H : Type} : List (DataW H) → Nat
  | [] => 0
  | d :: r => uptoBulk d + uptoBulkAll r
def uptoBulkEntries {H : Type} : List (Lit × DataW H) → Nat
  | [] => 0
  | x :: r => uptoBulkEntry x + uptoBulkEntries r
def uptoBulkEntry {H : Type} : Lit × DataW H → Nat
  | (.string bytes, d) => bytes.length + uptoBulk d + 1
  | (_, d) => uptoBulk d + 1
 end
def uptoSmall : (H : Type) → List (DataW H) → Bool := fun _ ds => decide (uptoBulkAll ds ≤ 1048576)
def OpenSpec.upto (s : _root_.Go.ChangeSpec) : _root_.Go.OpenSpec := { _root_.Go.OpenSpec.ofChange s with cond := some uptoSmall }

/-- 'antipodelaw2.SumAll', WHERE WHAT IT READS IS OF BULK AT MOST 1048576: true; the input reads as it did. -/
def sumAllUptoRow : OpenClaim := { program := "ytlnkhkkekfjebaa", sum := "6f6f662e60c22548714c0002ba77427acaccb816e43aa942ecf9f95d44f9203c", func := "antipode/antipodelaw2.SumAll", spec := "sumAll", apart := false, narrowed := true }
def SumAllUptoSaid : Prop := sumAllUptoRow.holds Try.pinned (OpenSpec.upto sumAllSpec)

/-- 'antipodelaw2.SumCuts', WHERE WHAT IT READS IS OF BULK AT MOST 1048576: true; the input reads as it did. -/
def sumCutsUptoRow : OpenClaim := { program := "ytlnkhkkekfjebaa", sum := "6f6f662e60c22548714c0002ba77427acaccb816e43aa942ecf9f95d44f9203c", func := "antipode/antipodelaw2.SumCuts", spec := "sumCuts", apart := false, narrowed := true }
def SumCutsUptoSaid : Prop := sumCutsUptoRow.holds Try.pinned (OpenSpec.upto sumCutsSpec)

/-- 'antipodelaw2.SumBursts', WHERE WHAT IT READS IS OF BULK AT MOST 1048576: true; the input reads as it did. -/
def sumBurstsUptoRow : OpenClaim := { program := "ytlnkhkkekfjebaa", sum := "6f6f662e60c22548714c0002ba77427acaccb816e43aa942ecf9f95d44f9203c", func := "antipode/antipodelaw2.SumBursts", spec := "sumBursts", apart := false, narrowed := true }
def SumBurstsUptoSaid : Prop := sumBurstsUptoRow.holds Try.pinned (OpenSpec.upto sumBurstsSpec)

/-- 'antipodelaw2.SumLines', WHERE WHAT IT READS IS OF BULK AT MOST 1048576: true; the input reads as it did. -/
def sumLinesUptoRow : OpenClaim := { program := "ytlnkhkkekfjebaa", sum := "6f6f662e60c22548714c0002ba77427acaccb816e43aa942ecf9f95d44f9203c", func := "antipode/antipodelaw2.SumLines", spec := "sumLines", apart := false, narrowed := true }
def SumLinesUptoSaid : Prop := sumLinesUptoRow.holds Try.pinned (OpenSpec.upto sumLinesSpec)

/-- 'antipodelaw2.SumOnward', WHERE WHAT IT READS IS OF BULK AT MOST 1048576: true; the input reads as it did. -/
def sumOnwardUptoRow : OpenClaim := { program := "ytlnkhkkekfjebaa", sum := "6f6f662e60c22548714c0002ba77427acaccb816e43aa942ecf9f95d44f9203c", func := "antipode/antipodelaw2.SumOnward", spec := "sumOnward", apart := false, narrowed := true }
def SumOnwardUptoSaid : Prop := sumOnwardUptoRow.holds Try.pinned (OpenSpec.upto sumOnwardSpec)

/-- 'antipodelaw4.DiskTails', WHERE WHAT IT READS IS OF BULK AT MOST 1048576: true; the input reads as it did. -/
def diskTailsUptoRow : OpenClaim := { program := "ytlnkhkkekfjebaa", sum := "6f6f662e60c22548714c0002ba77427acaccb816e43aa942ecf9f95d44f9203c", func := "antipode/antipodelaw4.DiskTails", spec := "diskTails", apart := false, narrowed := true }
def DiskTailsUptoSaid : Prop := diskTailsUptoRow.holds Try.pinned (OpenSpec.upto diskTailsSpec)

/-- 'antipodelaw4.DiskLasts', WHERE WHAT IT READS IS OF BULK AT MOST 1048576: true; the input reads as it did. -/
def diskLastsUptoRow : OpenClaim := { program := "ytlnkhkkekfjebaa", sum := "6f6f662e60c22548714c0002ba77427acaccb816e43aa942ecf9f95d44f9203c", func := "antipode/antipodelaw4.DiskLasts", spec := "diskLasts", apart := false, narrowed := true }
def DiskLastsUptoSaid : Prop := diskLastsUptoRow.holds Try.pinned (OpenSpec.upto diskLastsSpec)

/-- 'antipodelaw4.DiskAll', WHERE WHAT IT READS IS OF BULK AT MOST 1048576: true; the input reads as it did. -/
def diskAllUptoRow : OpenClaim := { program := "ytlnkhkkekfjebaa", sum := "6f6f662e60c22548714c0002ba77427acaccb816e43aa942ecf9f95d44f9203c", func := "antipode/antipodelaw4.DiskAll", spec := "diskAll", apart := false, narrowed := true }
def DiskAllUptoSaid : Prop := diskAllUptoRow.holds Try.pinned (OpenSpec.upto diskAllSpec)

/-- 'antipodelaw4.DiskArmed', WHERE WHAT IT READS IS OF BULK AT MOST 1048576: true; the input reads as it did. -/
def diskArmedUptoRow : OpenClaim := { program := "ytlnkhkkekfjebaa", sum := "6f6f662e60c22548714c0002ba77427acaccb816e43aa942ecf9f95d44f9203c", func := "antipode/antipodelaw4.DiskArmed", spec := "diskArmed", apart := false, narrowed := true }
def DiskArmedUptoSaid : Prop := diskArmedUptoRow.holds Try.pinned (OpenSpec.upto diskArmedSpec)

/-- 'antipodelaw3.FrameWrites', WHERE WHAT IT READS IS OF BULK AT MOST 1048576: true; the input reads as it did. -/
def frameWritesUptoRow : OpenClaim := { program := "ytlnkhkkekfjebaa", sum := "6f6f662e60c22548714c0002ba77427acaccb816e43aa942ecf9f95d44f9203c", func := "antipode/antipodelaw3.FrameWrites", spec := "frameWrites", apart := false, narrowed := true }
def FrameWritesUptoSaid : Prop := frameWritesUptoRow.holds Try.pinned (OpenSpec.upto frameWritesSpec)

/-- 'antipodelaw3.FrameReads', WHERE WHAT IT READS IS OF BULK AT MOST 1048576: true; the input reads as it did. -/
def frameReadsUptoRow : OpenClaim := { program := "ytlnkhkkekfjebaa", sum := "6f6f662e60c22548714c0002ba77427acaccb816e43aa942ecf9f95d44f9203c", func := "antipode/antipodelaw3.FrameReads", spec := "frameReads", apart := false, narrowed := true }
def FrameReadsUptoSaid : Prop := frameReadsUptoRow.holds Try.pinned (OpenSpec.upto frameReadsSpec)

/-- 'antipodelaw3.FrameCuts', WHERE WHAT IT READS IS OF BULK AT MOST 1048576: true; the input reads as it did. -/
def frameCutsUptoRow : OpenClaim := { program := "ytlnkhkkekfjebaa", sum := "6f6f662e60c22548714c0002ba77427acaccb816e43aa942ecf9f95d44f9203c", func := "antipode/antipodelaw3.FrameCuts", spec := "frameCuts", apart := false, narrowed := true }
def FrameCutsUptoSaid : Prop := frameCutsUptoRow.holds Try.pinned (OpenSpec.upto frameCutsSpec)

/-- 'antipodelaw3.FrameTurned', WHERE WHAT IT READS IS OF BULK AT MOST 1048576: true; the input reads as it did. -/
def frameTurnedUptoRow : OpenClaim := { program := "ytlnkhkkekfjebaa", sum := "6f6f662e60c22548714c0002ba77427acaccb816e43aa942ecf9f95d44f9203c", func := "antipode/antipodelaw3.FrameTurned", spec := "frameTurned", apart := false, narrowed := true }
def FrameTurnedUptoSaid : Prop := frameTurnedUptoRow.holds Try.pinned (OpenSpec.upto frameTurnedSpec)

/-- 'antipodelaw3.FrameAgain', WHERE WHAT IT READS IS OF BULK AT MOST 1048576: true; the input reads as it did. -/
def frameAgainUptoRow : OpenClaim := { program := "ytlnkhkkekfjebaa", sum := "6f6f662e60c22548714c0002ba77427acaccb816e43aa942ecf9f95d44f9203c", func := "antipode/antipodelaw3.FrameAgain", spec := "frameAgain", apart := false, narrowed := true }
def FrameAgainUptoSaid : Prop := frameAgainUptoRow.holds Try.pinned (OpenSpec.upto frameAgainSpec)

/-- 'antipodelaw3.FrameForged', WHERE WHAT IT READS IS OF BULK AT MOST 1048576: true; the input reads as it did. -/
def frameForgedUptoRow : OpenClaim := { program := "ytlnkhkkekfjebaa", sum := "6f6f662e60c22548714c0002ba77427acaccb816e43aa942ecf9f95d44f9203c", func := "antipode/antipodelaw3.FrameForged", spec := "frameForged", apart := false, narrowed := true }
def FrameForgedUptoSaid : Prop := frameForgedUptoRow.holds Try.pinned (OpenSpec.upto frameForgedSpec)

/-- 'antipodelaw4.DiskCopies', WHERE WHAT IT READS IS OF BULK AT MOST 1048576: true; the input reads as it did. -/
def diskCopiesUptoRow : OpenClaim := { program := "ytlnkhkkekfjebaa", sum := "6f6f662e60c22548714c0002ba77427acaccb816e43aa942ecf9f95d44f9203c", func := "antipode/antipodelaw4.DiskCopies", spec := "diskCopies", apart := false, narrowed := true }
def DiskCopiesUptoSaid : Prop := diskCopiesUptoRow.holds Try.pinned (OpenSpec.upto diskCopiesSpec)

/-- 'antipodelaw4.DiskNone', WHERE WHAT IT READS IS OF BULK AT MOST 1048576: true; the input reads as it did. -/
def diskNoneUptoRow : OpenClaim := { program := "ytlnkhkkekfjebaa", sum := "6f6f662e60c22548714c0002ba77427acaccb816e43aa942ecf9f95d44f9203c", func := "antipode/antipodelaw4.DiskNone", spec := "diskNone", apart := false, narrowed := true }
def DiskNoneUptoSaid : Prop := diskNoneUptoRow.holds Try.pinned (OpenSpec.upto diskNoneSpec)

/-- 'antipodelaw5.WalPicks', WHERE WHAT IT READS IS OF BULK AT MOST 1048576: true; the input reads as it did. -/
def walPicksUptoRow : OpenClaim := { program := "ytlnkhkkekfjebaa", sum := "6f6f662e60c22548714c0002ba77427acaccb816e43aa942ecf9f95d44f9203c", func := "antipode/antipodelaw5.WalPicks", spec := "walPicks", apart := false, narrowed := true }
def WalPicksUptoSaid : Prop := walPicksUptoRow.holds Try.pinned (OpenSpec.upto walPicksSpec)

/-- 'antipodelaw5.WalLast', WHERE WHAT IT READS IS OF BULK AT MOST 1048576: true; the input reads as it did. -/
def walLastUptoRow : OpenClaim := { program := "ytlnkhkkekfjebaa", sum := "6f6f662e60c22548714c0002ba77427acaccb816e43aa942ecf9f95d44f9203c", func := "antipode/antipodelaw5.WalLast", spec := "walLast", apart := false, narrowed := true }
def WalLastUptoSaid : Prop := walLastUptoRow.holds Try.pinned (OpenSpec.upto walLastSpec)

/-- 'antipodelaw5.WalLasts', WHERE WHAT IT READS IS OF BULK AT MOST 1048576: true; the input reads as it did. -/
def walLastsUptoRow : OpenClaim := { program := "ytlnkhkkekfjebaa", sum := "6f6f662e60c22548714c0002ba77427acaccb816e43aa942ecf9f95d44f9203c", func := "antipode/antipodelaw5.WalLasts", spec := "walLasts", apart := false, narrowed := true }
def WalLastsUptoSaid : Prop := walLastsUptoRow.holds Try.pinned (OpenSpec.upto walLastsSpec)

/-- 'antipodelaw5.WalGoes', WHERE WHAT IT READS IS OF BULK AT MOST 1048576: true; the input reads as it did. -/
def walGoesUptoRow : OpenClaim := { program := "ytlnkhkkekfjebaa", sum := "6f6f662e60c22548714c0002ba77427acaccb816e43aa942ecf9f95d44f9203c", func := "antipode/antipodelaw5.WalGoes", spec := "walGoes", apart := false, narrowed := true }
def WalGoesUptoSaid : Prop := walGoesUptoRow.holds Try.pinned (OpenSpec.upto walGoesSpec)

/-- 'antipodelaw5.WalAll', WHERE WHAT IT READS IS OF BULK AT MOST 1048576: true; the input reads as it did. -/
def walAllUptoRow : OpenClaim := { program := "ytlnkhkkekfjebaa", sum := "6f6f662e60c22548714c0002ba77427acaccb816e43aa942ecf9f95d44f9203c", func := "antipode/antipodelaw5.WalAll", spec := "walAll", apart := false, narrowed := true }
def WalAllUptoSaid : Prop := walAllUptoRow.holds Try.pinned (OpenSpec.upto walAllSpec)

/-- 'antipodelaw5.WalNone', WHERE WHAT IT READS IS OF BULK AT MOST 1048576: true; the input reads as it did. -/
def walNoneUptoRow : OpenClaim := { program := "ytlnkhkkekfjebaa", sum := "6f6f662e60c22548714c0002ba77427acaccb816e43aa942ecf9f95d44f9203c", func := "antipode/antipodelaw5.WalNone", spec := "walNone", apart := false, narrowed := true }
def WalNoneUptoSaid : Prop := walNoneUptoRow.holds Try.pinned (OpenSpec.upto walNoneSpec)

end Rows
end Go.Proofs.Ytlnkhkkekfjebaa
