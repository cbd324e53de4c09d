/-
  No cell of these rows narrows 'for every input' (looked for: loops, veiled, ifaces, maps, wideKeys, modest, calm, conditions, laid).
  DERIVED. THE GIVEN ROWS OF THIS SEAT. 18 by the template 'for every input the law returns true; each argument reads behind the call as it read before'; 0 by the template 'total and deterministic' (their statements: YtoldelocfmpccaaTotals.lean).
  GIVEN WITH THE SEED: the statements are not yours to turn. If you find one false, say at which input.
  Laid BY PROGRAM, IN A SANDBOX (cutbox-rows.mjs): the forced cells as the released guide's own fill.sh prints them over the translation b3df10cd052e44a8… (all of the seat's roots in one cut). By AI agents, Wed Nov 11 2026. No macro, syntax, notation, axiom, sorry.
-/
import Derived.Test.YtoldelocfmpccaaChecked
import GoSem.Claim
import GoSem.ClaimJoined
import GoSem.ClaimMapViews
import Derived.JoinedTies
import Derived.KernelRfl
namespace Go.Proofs.Ytoldelocfmpccaa
/- THE CELL 'sum', in the pinned program and in every row, IS THE sha256 OF THE DUMP (.gsa) THAT YtoldelocfmpccaaProg.lean LOADS. Nothing in Lean hashes anything: it is a label: what it is worth is what the hold of that sum in a sandbox is worth. -/
noncomputable def Try.pinned : Pinned := { name := "ytoldelocfmpccaa", sum := "b3df10cd052e44a8096e72604885d551750a36d9aa0194042a6b27030d7de9c9", checked := Try.checked }
namespace Rows
def none {H : Type} : Left H := { results := [], args := [] }

/-- 'antipodelaw8.MvccPast': WHATEVER THE INPUT: true; the input reads as it did. -/
def mvccPastSpec : ChangeSpec := { name := "mvccPast", fn := fun _ => fun
  | [d1, d2, d3, d4, d5] => { results := [.lit (.bool true)], args := [d1, d2, d3, d4, d5] }
  | _ => none }
def mvccPastRow : OpenClaim := { program := "ytoldelocfmpccaa", sum := "b3df10cd052e44a8096e72604885d551750a36d9aa0194042a6b27030d7de9c9", func := "antipode/antipodelaw8.MvccPast", spec := "mvccPast", inPlace := ["internal/bytealg.abigen_runtime_cmpstring", "slices.overlaps[antipode/api.Cell]", "slices.overlaps[antipode/api.Version]"], unfollowed := true, recurses := true, plainKeys := false, apart := false }
def MvccPastSaid : Prop := mvccPastRow.holds Try.pinned (OpenSpec.ofChange mvccPastSpec)

/-- ITS FALSE NEIGHBOUR: 'it returns false'. Refute it at one input. -/
def mvccPastWrong : ChangeSpec := { name := "mvccPast", fn := fun _ => fun
  | [d1, d2, d3, d4, d5] => { results := [.lit (.bool false)], args := [d1, d2, d3, d4, d5] }
  | _ => none }
def MvccPastWrongFalsely : Prop := mvccPastRow.holds Try.pinned (OpenSpec.ofChange mvccPastWrong)

/-- 'antipodelaw8.MvccTurns': WHATEVER THE INPUT: true; the input reads as it did. -/
def mvccTurnsSpec : ChangeSpec := { name := "mvccTurns", fn := fun _ => fun
  | [d1, d2, d3, d4, d5] => { results := [.lit (.bool true)], args := [d1, d2, d3, d4, d5] }
  | _ => none }
def mvccTurnsRow : OpenClaim := { program := "ytoldelocfmpccaa", sum := "b3df10cd052e44a8096e72604885d551750a36d9aa0194042a6b27030d7de9c9", func := "antipode/antipodelaw8.MvccTurns", spec := "mvccTurns", inPlace := ["internal/bytealg.abigen_runtime_cmpstring", "slices.overlaps[antipode/api.Cell]", "slices.overlaps[antipode/api.Version]"], unfollowed := true, recurses := true, plainKeys := false, apart := false }
def MvccTurnsSaid : Prop := mvccTurnsRow.holds Try.pinned (OpenSpec.ofChange mvccTurnsSpec)

/-- ITS FALSE NEIGHBOUR: 'it returns false'. Refute it at one input. -/
def mvccTurnsWrong : ChangeSpec := { name := "mvccTurns", fn := fun _ => fun
  | [d1, d2, d3, d4, d5] => { results := [.lit (.bool false)], args := [d1, d2, d3, d4, d5] }
  | _ => none }
def MvccTurnsWrongFalsely : Prop := mvccTurnsRow.holds Try.pinned (OpenSpec.ofChange mvccTurnsWrong)

/-- 'antipodelaw8.MvccApart': WHATEVER THE INPUT: true; the input reads as it did. -/
def mvccApartSpec : ChangeSpec := { name := "mvccApart", fn := fun _ => fun
  | [d1, d2, d3, d4, d5, d6] => { results := [.lit (.bool true)], args := [d1, d2, d3, d4, d5, d6] }
  | _ => none }
def mvccApartRow : OpenClaim := { program := "ytoldelocfmpccaa", sum := "b3df10cd052e44a8096e72604885d551750a36d9aa0194042a6b27030d7de9c9", func := "antipode/antipodelaw8.MvccApart", spec := "mvccApart", inPlace := ["internal/bytealg.abigen_runtime_cmpstring", "slices.overlaps[antipode/api.Cell]", "slices.overlaps[antipode/api.Version]"], unfollowed := true, recurses := true, plainKeys := false, apart := false }
def MvccApartSaid : Prop := mvccApartRow.holds Try.pinned (OpenSpec.ofChange mvccApartSpec)

/-- ITS FALSE NEIGHBOUR: 'it returns false'. Refute it at one input. -/
def mvccApartWrong : ChangeSpec := { name := "mvccApart", fn := fun _ => fun
  | [d1, d2, d3, d4, d5, d6] => { results := [.lit (.bool false)], args := [d1, d2, d3, d4, d5, d6] }
  | _ => none }
def MvccApartWrongFalsely : Prop := mvccApartRow.holds Try.pinned (OpenSpec.ofChange mvccApartWrong)

/-- 'antipodelaw8.MvccFree': WHATEVER THE INPUT: true; the input reads as it did. -/
def mvccFreeSpec : ChangeSpec := { name := "mvccFree", fn := fun _ => fun
  | [d1, d2, d3] => { results := [.lit (.bool true)], args := [d1, d2, d3] }
  | _ => none }
def mvccFreeRow : OpenClaim := { program := "ytoldelocfmpccaa", sum := "b3df10cd052e44a8096e72604885d551750a36d9aa0194042a6b27030d7de9c9", func := "antipode/antipodelaw8.MvccFree", spec := "mvccFree", inPlace := ["internal/bytealg.abigen_runtime_cmpstring", "slices.overlaps[antipode/api.Cell]", "slices.overlaps[antipode/api.Version]"], unfollowed := true, recurses := true, plainKeys := false, apart := false }
def MvccFreeSaid : Prop := mvccFreeRow.holds Try.pinned (OpenSpec.ofChange mvccFreeSpec)

/-- ITS FALSE NEIGHBOUR: 'it returns false'. Refute it at one input. -/
def mvccFreeWrong : ChangeSpec := { name := "mvccFree", fn := fun _ => fun
  | [d1, d2, d3] => { results := [.lit (.bool false)], args := [d1, d2, d3] }
  | _ => none }
def MvccFreeWrongFalsely : Prop := mvccFreeRow.holds Try.pinned (OpenSpec.ofChange mvccFreeWrong)

/-- 'antipodelaw8.MvccTrims': WHATEVER THE INPUT: true; the input reads as it did. -/
def mvccTrimsSpec : ChangeSpec := { name := "mvccTrims", fn := fun _ => fun
  | [d1, d2, d3, d4] => { results := [.lit (.bool true)], args := [d1, d2, d3, d4] }
  | _ => none }
def mvccTrimsRow : OpenClaim := { program := "ytoldelocfmpccaa", sum := "b3df10cd052e44a8096e72604885d551750a36d9aa0194042a6b27030d7de9c9", func := "antipode/antipodelaw8.MvccTrims", spec := "mvccTrims", inPlace := ["internal/bytealg.abigen_runtime_cmpstring", "slices.overlaps[antipode/api.Cell]", "slices.overlaps[antipode/api.Version]"], unfollowed := true, recurses := true, plainKeys := false, apart := false }
def MvccTrimsSaid : Prop := mvccTrimsRow.holds Try.pinned (OpenSpec.ofChange mvccTrimsSpec)

/-- ITS FALSE NEIGHBOUR: 'it returns false'. Refute it at one input. -/
def mvccTrimsWrong : ChangeSpec := { name := "mvccTrims", fn := fun _ => fun
  | [d1, d2, d3, d4] => { results := [.lit (.bool false)], args := [d1, d2, d3, d4] }
  | _ => none }
def MvccTrimsWrongFalsely : Prop := mvccTrimsRow.holds Try.pinned (OpenSpec.ofChange mvccTrimsWrong)

/-- 'antipodelaw8.MvccScans': WHATEVER THE INPUT: true; the input reads as it did. -/
def mvccScansSpec : ChangeSpec := { name := "mvccScans", fn := fun _ => fun
  | [d1, d2, d3] => { results := [.lit (.bool true)], args := [d1, d2, d3] }
  | _ => none }
def mvccScansRow : OpenClaim := { program := "ytoldelocfmpccaa", sum := "b3df10cd052e44a8096e72604885d551750a36d9aa0194042a6b27030d7de9c9", func := "antipode/antipodelaw8.MvccScans", spec := "mvccScans", inPlace := ["internal/bytealg.abigen_runtime_cmpstring", "slices.overlaps[antipode/api.Cell]", "slices.overlaps[antipode/api.Version]"], unfollowed := true, recurses := true, plainKeys := false, apart := false }
def MvccScansSaid : Prop := mvccScansRow.holds Try.pinned (OpenSpec.ofChange mvccScansSpec)

/-- ITS FALSE NEIGHBOUR: 'it returns false'. Refute it at one input. -/
def mvccScansWrong : ChangeSpec := { name := "mvccScans", fn := fun _ => fun
  | [d1, d2, d3] => { results := [.lit (.bool false)], args := [d1, d2, d3] }
  | _ => none }
def MvccScansWrongFalsely : Prop := mvccScansRow.holds Try.pinned (OpenSpec.ofChange mvccScansWrong)

/-- 'antipodelaw8.MvccAll': WHATEVER THE INPUT: true; the input reads as it did. -/
def mvccAllSpec : ChangeSpec := { name := "mvccAll", fn := fun _ => fun
  | [d1, d2, d3, d4, d5, d6] => { results := [.lit (.bool true)], args := [d1, d2, d3, d4, d5, d6] }
  | _ => none }
def mvccAllRow : OpenClaim := { program := "ytoldelocfmpccaa", sum := "b3df10cd052e44a8096e72604885d551750a36d9aa0194042a6b27030d7de9c9", func := "antipode/antipodelaw8.MvccAll", spec := "mvccAll", inPlace := ["internal/bytealg.abigen_runtime_cmpstring", "slices.overlaps[antipode/api.Cell]", "slices.overlaps[antipode/api.Version]"], unfollowed := true, recurses := true, plainKeys := false, apart := false }
def MvccAllSaid : Prop := mvccAllRow.holds Try.pinned (OpenSpec.ofChange mvccAllSpec)

/-- ITS FALSE NEIGHBOUR: 'it returns false'. Refute it at one input. -/
def mvccAllWrong : ChangeSpec := { name := "mvccAll", fn := fun _ => fun
  | [d1, d2, d3, d4, d5, d6] => { results := [.lit (.bool false)], args := [d1, d2, d3, d4, d5, d6] }
  | _ => none }
def MvccAllWrongFalsely : Prop := mvccAllRow.holds Try.pinned (OpenSpec.ofChange mvccAllWrong)

/-- 'antipodelaw8.MvccAny': WHATEVER THE INPUT: true; the input reads as it did. -/
def mvccAnySpec : ChangeSpec := { name := "mvccAny", fn := fun _ => fun
  | [d1, d2, d3, d4, d5, d6, d7] => { results := [.lit (.bool true)], args := [d1, d2, d3, d4, d5, d6, d7] }
  | _ => none }
def mvccAnyRow : OpenClaim := { program := "ytoldelocfmpccaa", sum := "b3df10cd052e44a8096e72604885d551750a36d9aa0194042a6b27030d7de9c9", func := "antipode/antipodelaw8.MvccAny", spec := "mvccAny", inPlace := ["internal/bytealg.abigen_runtime_cmpstring", "slices.overlaps[antipode/api.Cell]", "slices.overlaps[antipode/api.Version]"], unfollowed := true, recurses := true, plainKeys := false, apart := false }
def MvccAnySaid : Prop := mvccAnyRow.holds Try.pinned (OpenSpec.ofChange mvccAnySpec)

/-- ITS FALSE NEIGHBOUR: 'it returns false'. Refute it at one input. -/
def mvccAnyWrong : ChangeSpec := { name := "mvccAny", fn := fun _ => fun
  | [d1, d2, d3, d4, d5, d6, d7] => { results := [.lit (.bool false)], args := [d1, d2, d3, d4, d5, d6, d7] }
  | _ => none }
def MvccAnyWrongFalsely : Prop := mvccAnyRow.holds Try.pinned (OpenSpec.ofChange mvccAnyWrong)

/-- 'antipodelaw23.PartAll': WHATEVER THE INPUT: true; the input reads as it did. -/
def partAllSpec : ChangeSpec := { name := "partAll", fn := fun _ => fun
  | [d1, d2] => { results := [.lit (.bool true)], args := [d1, d2] }
  | _ => none }
def partAllRow : OpenClaim := { program := "ytoldelocfmpccaa", sum := "b3df10cd052e44a8096e72604885d551750a36d9aa0194042a6b27030d7de9c9", func := "antipode/antipodelaw23.PartAll", spec := "partAll", inPlace := ["internal/bytealg.abigen_runtime_cmpstring", "slices.overlaps[antipode/api.Cell]", "slices.overlaps[antipode/api.Version]"], unfollowed := true, recurses := true, plainKeys := false, apart := false }
def PartAllSaid : Prop := partAllRow.holds Try.pinned (OpenSpec.ofChange partAllSpec)

/-- ITS FALSE NEIGHBOUR: 'it returns false'. Refute it at one input. -/
def partAllWrong : ChangeSpec := { name := "partAll", fn := fun _ => fun
  | [d1, d2] => { results := [.lit (.bool false)], args := [d1, d2] }
  | _ => none }
def PartAllWrongFalsely : Prop := partAllRow.holds Try.pinned (OpenSpec.ofChange partAllWrong)

/-- 'antipodelaw23.PartAny': WHATEVER THE INPUT: true; the input reads as it did. -/
def partAnySpec : ChangeSpec := { name := "partAny", fn := fun _ => fun
  | [d1, d2, d3, d4] => { results := [.lit (.bool true)], args := [d1, d2, d3, d4] }
  | _ => none }
def partAnyRow : OpenClaim := { program := "ytoldelocfmpccaa", sum := "b3df10cd052e44a8096e72604885d551750a36d9aa0194042a6b27030d7de9c9", func := "antipode/antipodelaw23.PartAny", spec := "partAny", inPlace := ["internal/bytealg.abigen_runtime_cmpstring", "slices.overlaps[antipode/api.Cell]", "slices.overlaps[antipode/api.Version]"], unfollowed := true, recurses := true, plainKeys := false, apart := false }
def PartAnySaid : Prop := partAnyRow.holds Try.pinned (OpenSpec.ofChange partAnySpec)

/-- ITS FALSE NEIGHBOUR: 'it returns false'. Refute it at one input. -/
def partAnyWrong : ChangeSpec := { name := "partAny", fn := fun _ => fun
  | [d1, d2, d3, d4] => { results := [.lit (.bool false)], args := [d1, d2, d3, d4] }
  | _ => none }
def PartAnyWrongFalsely : Prop := partAnyRow.holds Try.pinned (OpenSpec.ofChange partAnyWrong)

/-- 'antipodelaw23.PartReads': WHATEVER THE INPUT: true; the input reads as it did. -/
def partReadsSpec : ChangeSpec := { name := "partReads", fn := fun _ => fun
  | [d1, d2] => { results := [.lit (.bool true)], args := [d1, d2] }
  | _ => none }
def partReadsRow : OpenClaim := { program := "ytoldelocfmpccaa", sum := "b3df10cd052e44a8096e72604885d551750a36d9aa0194042a6b27030d7de9c9", func := "antipode/antipodelaw23.PartReads", spec := "partReads", inPlace := ["internal/bytealg.abigen_runtime_cmpstring", "slices.overlaps[antipode/api.Cell]", "slices.overlaps[antipode/api.Version]"], unfollowed := true, recurses := true, plainKeys := false, apart := false }
def PartReadsSaid : Prop := partReadsRow.holds Try.pinned (OpenSpec.ofChange partReadsSpec)

/-- ITS FALSE NEIGHBOUR: 'it returns false'. Refute it at one input. -/
def partReadsWrong : ChangeSpec := { name := "partReads", fn := fun _ => fun
  | [d1, d2] => { results := [.lit (.bool false)], args := [d1, d2] }
  | _ => none }
def PartReadsWrongFalsely : Prop := partReadsRow.holds Try.pinned (OpenSpec.ofChange partReadsWrong)

/-- 'antipodelaw23.PartCloses': WHATEVER THE INPUT: true; the input reads as it did. -/
def partClosesSpec : ChangeSpec := { name := "partCloses", fn := fun _ => fun
  | [d1, d2, d3, d4] => { results := [.lit (.bool true)], args := [d1, d2, d3, d4] }
  | _ => none }
def partClosesRow : OpenClaim := { program := "ytoldelocfmpccaa", sum := "b3df10cd052e44a8096e72604885d551750a36d9aa0194042a6b27030d7de9c9", func := "antipode/antipodelaw23.PartCloses", spec := "partCloses", inPlace := ["internal/bytealg.abigen_runtime_cmpstring", "slices.overlaps[antipode/api.Cell]", "slices.overlaps[antipode/api.Version]"], unfollowed := true, recurses := true, plainKeys := false, apart := false }
def PartClosesSaid : Prop := partClosesRow.holds Try.pinned (OpenSpec.ofChange partClosesSpec)

/-- ITS FALSE NEIGHBOUR: 'it returns false'. Refute it at one input. -/
def partClosesWrong : ChangeSpec := { name := "partCloses", fn := fun _ => fun
  | [d1, d2, d3, d4] => { results := [.lit (.bool false)], args := [d1, d2, d3, d4] }
  | _ => none }
def PartClosesWrongFalsely : Prop := partClosesRow.holds Try.pinned (OpenSpec.ofChange partClosesWrong)

/-- 'antipodelaw23.PartDecides': WHATEVER THE INPUT: true; the input reads as it did. -/
def partDecidesSpec : ChangeSpec := { name := "partDecides", fn := fun _ => fun
  | [d] => { results := [.lit (.bool true)], args := [d] }
  | _ => none }
def partDecidesRow : OpenClaim := { program := "ytoldelocfmpccaa", sum := "b3df10cd052e44a8096e72604885d551750a36d9aa0194042a6b27030d7de9c9", func := "antipode/antipodelaw23.PartDecides", spec := "partDecides", inPlace := ["internal/bytealg.abigen_runtime_cmpstring", "slices.overlaps[antipode/api.Cell]", "slices.overlaps[antipode/api.Version]"], unfollowed := true, recurses := true, plainKeys := false, apart := false }
def PartDecidesSaid : Prop := partDecidesRow.holds Try.pinned (OpenSpec.ofChange partDecidesSpec)

/-- ITS FALSE NEIGHBOUR: 'it returns false'. Refute it at one input. -/
def partDecidesWrong : ChangeSpec := { name := "partDecides", fn := fun _ => fun
  | [d] => { results := [.lit (.bool false)], args := [d] }
  | _ => none }
def PartDecidesWrongFalsely : Prop := partDecidesRow.holds Try.pinned (OpenSpec.ofChange partDecidesWrong)

/-- 'antipodelaw23.PartOnce': WHATEVER THE INPUT: true; the input reads as it did. -/
def partOnceSpec : ChangeSpec := { name := "partOnce", fn := fun _ => fun
  | [d1, d2] => { results := [.lit (.bool true)], args := [d1, d2] }
  | _ => none }
def partOnceRow : OpenClaim := { program := "ytoldelocfmpccaa", sum := "b3df10cd052e44a8096e72604885d551750a36d9aa0194042a6b27030d7de9c9", func := "antipode/antipodelaw23.PartOnce", spec := "partOnce", inPlace := ["internal/bytealg.abigen_runtime_cmpstring", "slices.overlaps[antipode/api.Cell]", "slices.overlaps[antipode/api.Version]"], unfollowed := true, recurses := true, plainKeys := false, apart := false }
def PartOnceSaid : Prop := partOnceRow.holds Try.pinned (OpenSpec.ofChange partOnceSpec)

/-- ITS FALSE NEIGHBOUR: 'it returns false'. Refute it at one input. -/
def partOnceWrong : ChangeSpec := { name := "partOnce", fn := fun _ => fun
  | [d1, d2] => { results := [.lit (.bool false)], args := [d1, d2] }
  | _ => none }
def PartOnceWrongFalsely : Prop := partOnceRow.holds Try.pinned (OpenSpec.ofChange partOnceWrong)

/-- 'antipodelaw23.PartLocks': WHATEVER THE INPUT: true; the input reads as it did. -/
def partLocksSpec : ChangeSpec := { name := "partLocks", fn := fun _ => fun
  | [d] => { results := [.lit (.bool true)], args := [d] }
  | _ => none }
def partLocksRow : OpenClaim := { program := "ytoldelocfmpccaa", sum := "b3df10cd052e44a8096e72604885d551750a36d9aa0194042a6b27030d7de9c9", func := "antipode/antipodelaw23.PartLocks", spec := "partLocks", inPlace := ["internal/bytealg.abigen_runtime_cmpstring", "slices.overlaps[antipode/api.Cell]", "slices.overlaps[antipode/api.Version]"], unfollowed := true, recurses := true, plainKeys := false, apart := false }
def PartLocksSaid : Prop := partLocksRow.holds Try.pinned (OpenSpec.ofChange partLocksSpec)

/-- ITS FALSE NEIGHBOUR: 'it returns false'. Refute it at one input. -/
def partLocksWrong : ChangeSpec := { name := "partLocks", fn := fun _ => fun
  | [d] => { results := [.lit (.bool false)], args := [d] }
  | _ => none }
def PartLocksWrongFalsely : Prop := partLocksRow.holds Try.pinned (OpenSpec.ofChange partLocksWrong)

/-- 'antipodelaw23.PartEpochs': WHATEVER THE INPUT: true; the input reads as it did. -/
def partEpochsSpec : ChangeSpec := { name := "partEpochs", fn := fun _ => fun
  | [d1, d2, d3] => { results := [.lit (.bool true)], args := [d1, d2, d3] }
  | _ => none }
def partEpochsRow : OpenClaim := { program := "ytoldelocfmpccaa", sum := "b3df10cd052e44a8096e72604885d551750a36d9aa0194042a6b27030d7de9c9", func := "antipode/antipodelaw23.PartEpochs", spec := "partEpochs", inPlace := ["internal/bytealg.abigen_runtime_cmpstring", "slices.overlaps[antipode/api.Cell]", "slices.overlaps[antipode/api.Version]"], unfollowed := true, recurses := true, plainKeys := false, apart := false }
def PartEpochsSaid : Prop := partEpochsRow.holds Try.pinned (OpenSpec.ofChange partEpochsSpec)

/-- ITS FALSE NEIGHBOUR: 'it returns false'. Refute it at one input. -/
def partEpochsWrong : ChangeSpec := { name := "partEpochs", fn := fun _ => fun
  | [d1, d2, d3] => { results := [.lit (.bool false)], args := [d1, d2, d3] }
  | _ => none }
def PartEpochsWrongFalsely : Prop := partEpochsRow.holds Try.pinned (OpenSpec.ofChange partEpochsWrong)

/-- 'antipodelaw23.PartStops': WHATEVER THE INPUT: true; the input reads as it did. -/
def partStopsSpec : ChangeSpec := { name := "partStops", fn := fun _ => fun
  | [d1, d2, d3, d4] => { results := [.lit (.bool true)], args := [d1, d2, d3, d4] }
  | _ => none }
def partStopsRow : OpenClaim := { program := "ytoldelocfmpccaa", sum := "b3df10cd052e44a8096e72604885d551750a36d9aa0194042a6b27030d7de9c9", func := "antipode/antipodelaw23.PartStops", spec := "partStops", inPlace := ["internal/bytealg.abigen_runtime_cmpstring", "slices.overlaps[antipode/api.Cell]", "slices.overlaps[antipode/api.Version]"], unfollowed := true, recurses := true, plainKeys := false, apart := false }
def PartStopsSaid : Prop := partStopsRow.holds Try.pinned (OpenSpec.ofChange partStopsSpec)

/-- ITS FALSE NEIGHBOUR: 'it returns false'. Refute it at one input. -/
def partStopsWrong : ChangeSpec := { name := "partStops", fn := fun _ => fun
  | [d1, d2, d3, d4] => { results := [.lit (.bool false)], args := [d1, d2, d3, d4] }
  | _ => none }
def PartStopsWrongFalsely : Prop := partStopsRow.holds Try.pinned (OpenSpec.ofChange partStopsWrong)

/-- 'antipodelaw23.PartSettled': WHATEVER THE INPUT: true; the input reads as it did. -/
def partSettledSpec : ChangeSpec := { name := "partSettled", fn := fun _ => fun
  | [d1, d2, d3, d4, d5, d6] => { results := [.lit (.bool true)], args := [d1, d2, d3, d4, d5, d6] }
  | _ => none }
def partSettledRow : OpenClaim := { program := "ytoldelocfmpccaa", sum := "b3df10cd052e44a8096e72604885d551750a36d9aa0194042a6b27030d7de9c9", func := "antipode/antipodelaw23.PartSettled", spec := "partSettled", inPlace := ["internal/bytealg.abigen_runtime_cmpstring", "slices.overlaps[antipode/api.Cell]", "slices.overlaps[antipode/api.Version]"], unfollowed := true, recurses := true, plainKeys := false, apart := false }
def PartSettledSaid : Prop := partSettledRow.holds Try.pinned (OpenSpec.ofChange partSettledSpec)

/-- ITS FALSE NEIGHBOUR: 'it returns false'. Refute it at one input. -/
def partSettledWrong : ChangeSpec := { name := "partSettled", fn := fun _ => fun
  | [d1, d2, d3, d4, d5, d6] => { results := [.lit (.bool false)], args := [d1, d2, d3, d4, d5, d6] }
  | _ => none }
def PartSettledWrongFalsely : Prop := partSettledRow.holds Try.pinned (OpenSpec.ofChange partSettledWrong)

/- THE SECOND FORM. 'bulk': how many values and letters a reading holds, each counted each time it is reached (what is shared counts as often as it is met; a slice's spare places count too). A statement '..UptoSaid' is the law's where the arguments, and the package variables that the reading takes, are together of bulk at most 1048576: NARROWER than '..Said'. Prove '..Said' where nothing that the law and all that it calls make is longer than what came in: it says more and counts as full. Else prove '..UptoSaid'. A law counts once. -/
mutual
def uptoBulk {H : Type} : DataW H → Nat
  | .lit (.string bytes) => bytes.length + 1
  | .lit _ => 1
  | .nil => 1
  | .ptr d => uptoBulk d + 1
  | .slice elems spare => uptoBulkAll elems + uptoBulkAll spare + 1
  | .agg parts => uptoBulkAll parts + 1
  | .iface _ d => uptoBulk d + 1
  | .map entries => uptoBulkEntries entries + 1
  | .held _ => 1
def uptoBulkAll {H : Type} : List (DataW H) → Nat
  | [] => 0
  | d :: r => uptoBulk d + uptoBulkAll r
def uptoBulkEntries {H : Type} : List (Lit × DataW H) → Nat
  | [] => 0
  | x :: r => uptoBulkEntry x + uptoBulkEntries r
def uptoBulkEntry {H : Type} : Lit × DataW H → Nat
  | (.string bytes, d) => bytes.length + uptoBulk d + 1
  | (_, d) => uptoBulk d + 1
 end
def uptoSmall : (H : Type) → List (DataW H) → Bool := fun _ ds => decide (uptoBulkAll ds ≤ 1048576)
def OpenSpec.upto (s : _root_.Go.ChangeSpec) : _root_.Go.OpenSpec := { _root_.Go.OpenSpec.ofChange s with cond := some uptoSmall }

/-- 'antipodelaw8.MvccPast', WHERE WHAT IT READS IS OF BULK AT MOST 1048576: true; the input reads as it did. -/
def mvccPastUptoRow : OpenClaim := { program := "ytoldelocfmpccaa", sum := "b3df10cd052e44a8096e72604885d551750a36d9aa0194042a6b27030d7de9c9", func := "antipode/antipodelaw8.MvccPast", spec := "mvccPast", inPlace := ["internal/bytealg.abigen_runtime_cmpstring", "slices.overlaps[antipode/api.Cell]", "slices.overlaps[antipode/api.Version]"], unfollowed := true, recurses := true, plainKeys := false, apart := false, narrowed := true }
def MvccPastUptoSaid : Prop := mvccPastUptoRow.holds Try.pinned (OpenSpec.upto mvccPastSpec)

/-- 'antipodelaw8.MvccTurns', WHERE WHAT IT READS IS OF BULK AT MOST 1048576: true; the input reads as it did. -/
def mvccTurnsUptoRow : OpenClaim := { program := "ytoldelocfmpccaa", sum := "b3df10cd052e44a8096e72604885d551750a36d9aa0194042a6b27030d7de9c9", func := "antipode/antipodelaw8.MvccTurns", spec := "mvccTurns", inPlace := ["internal/bytealg.abigen_runtime_cmpstring", "slices.overlaps[antipode/api.Cell]", "slices.overlaps[antipode/api.Version]"], unfollowed := true, recurses := true, plainKeys := false, apart := false, narrowed := true }
def MvccTurnsUptoSaid : Prop := mvccTurnsUptoRow.holds Try.pinned (OpenSpec.upto mvccTurnsSpec)

/-- 'antipodelaw8.MvccApart', WHERE WHAT IT READS IS OF BULK AT MOST 1048576: true; the input reads as it did. -/
def mvccApartUptoRow : OpenClaim := { program := "ytoldelocfmpccaa", sum := "b3df10cd052e44a8096e72604885d551750a36d9aa0194042a6b27030d7de9c9", func := "antipode/antipodelaw8.MvccApart", spec := "mvccApart", inPlace := ["internal/bytealg.abigen_runtime_cmpstring", "slices.overlaps[antipode/api.Cell]", "slices.overlaps[antipode/api.Version]"], unfollowed := true, recurses := true, plainKeys := false, apart := false, narrowed := true }
def MvccApartUptoSaid : Prop := mvccApartUptoRow.holds Try.pinned (OpenSpec.upto mvccApartSpec)

/-- 'antipodelaw8.MvccFree', WHERE WHAT IT READS IS OF BULK AT MOST 1048576: true; the input reads as it did. -/
def mvccFreeUptoRow : OpenClaim := { program := "ytoldelocfmpccaa", sum := "b3df10cd052e44a8096e72604885d551750a36d9aa0194042a6b27030d7de9c9", func := "antipode/antipodelaw8.MvccFree", spec := "mvccFree", inPlace := ["internal/bytealg.abigen_runtime_cmpstring", "slices.overlaps[antipode/api.Cell]", "slices.overlaps[antipode/api.Version]"], unfollowed := true, recurses := true, plainKeys := false, apart := false, narrowed := true }
def MvccFreeUptoSaid : Prop := mvccFreeUptoRow.holds Try.pinned (OpenSpec.upto mvccFreeSpec)

/-- 'antipodelaw8.MvccTrims', WHERE WHAT IT READS IS OF BULK AT MOST 1048576: true; the input reads as it did. -/
def mvccTrimsUptoRow : OpenClaim := { program := "ytoldelocfmpccaa", sum := "b3df10cd052e44a8096e72604885d551750a36d9aa0194042a6b27030d7de9c9", func := "antipode/antipodelaw8.MvccTrims", spec := "mvccTrims", inPlace := ["internal/bytealg.abigen_runtime_cmpstring", "slices.overlaps[antipode/api.Cell]", "slices.overlaps[antipode/api.Version]"], unfollowed := true, recurses := true, plainKeys := false, apart := false, narrowed := true }
def MvccTrimsUptoSaid : Prop := mvccTrimsUptoRow.holds Try.pinned (OpenSpec.upto mvccTrimsSpec)

/-- 'antipodelaw8.MvccScans', WHERE WHAT IT READS IS OF BULK AT MOST 1048576: true; the input reads as it did. -/
def mvccScansUptoRow : OpenClaim := { program := "ytoldelocfmpccaa", sum := "b3df10cd052e44a8096e72604885d551750a36d9aa0194042a6b27030d7de9c9", func := "antipode/antipodelaw8.MvccScans", spec := "mvccScans", inPlace := ["internal/bytealg.abigen_runtime_cmpstring", "slices.overlaps[antipode/api.Cell]", "slices.overlaps[antipode/api.Version]"], unfollowed := true, recurses := true, plainKeys := false, apart := false, narrowed := true }
def MvccScansUptoSaid : Prop := mvccScansUptoRow.holds Try.pinned (OpenSpec.upto mvccScansSpec)

/-- 'antipodelaw8.MvccAll', WHERE WHAT IT READS IS OF BULK AT MOST 1048576: true; the input reads as it did. -/
def mvccAllUptoRow : OpenClaim := { program := "ytoldelocfmpccaa", sum := "b3df10cd052e44a8096e72604885d551750a36d9aa0194042a6b27030d7de9c9", func := "antipode/antipodelaw8.MvccAll", spec := "mvccAll", inPlace := ["internal/bytealg.abigen_runtime_cmpstring", "slices.overlaps[antipode/api.Cell]", "slices.overlaps[antipode/api.Version]"], unfollowed := true, recurses := true, plainKeys := false, apart := false, narrowed := true }
def MvccAllUptoSaid : Prop := mvccAllUptoRow.holds Try.pinned (OpenSpec.upto mvccAllSpec)

/-- 'antipodelaw8.MvccAny', WHERE WHAT IT READS IS OF BULK AT MOST 1048576: true; the input reads as it did. -/
def mvccAnyUptoRow : OpenClaim := { program := "ytoldelocfmpccaa", sum := "b3df10cd052e44a8096e72604885d551750a36d9aa0194042a6b27030d7de9c9", func := "antipode/antipodelaw8.MvccAny", spec := "mvccAny", inPlace := ["internal/bytealg.abigen_runtime_cmpstring", "slices.overlaps[antipode/api.Cell]", "slices.overlaps[antipode/api.Version]"], unfollowed := true, recurses := true, plainKeys := false, apart := false, narrowed := true }
def MvccAnyUptoSaid : Prop := mvccAnyUptoRow.holds Try.pinned (OpenSpec.upto mvccAnySpec)

/-- 'antipodelaw23.PartAll', WHERE WHAT IT READS IS OF BULK AT MOST 1048576: true; the input reads as it did. -/
def partAllUptoRow : OpenClaim := { program := "ytoldelocfmpccaa", sum := "b3df10cd052e44a8096e72604885d551750a36d9aa0194042a6b27030d7de9c9", func := "antipode/antipodelaw23.PartAll", spec := "partAll", inPlace := ["internal/bytealg.abigen_runtime_cmpstring", "slices.overlaps[antipode/api.Cell]", "slices.overlaps[antipode/api.Version]"], unfollowed := true, recurses := true, plainKeys := false, apart := false, narrowed := true }
def PartAllUptoSaid : Prop := partAllUptoRow.holds Try.pinned (OpenSpec.upto partAllSpec)

/-- 'antipodelaw23.PartAny', WHERE WHAT IT READS IS OF BULK AT MOST 1048576: true; the input reads as it did. -/
def partAnyUptoRow : OpenClaim := { program := "ytoldelocfmpccaa", sum := "b3df10cd052e44a8096e72604885d551750a36d9aa0194042a6b27030d7de9c9", func := "antipode/antipodelaw23.PartAny", spec := "partAny", inPlace := ["internal/bytealg.abigen_runtime_cmpstring", "slices.overlaps[antipode/api.Cell]", "slices.overlaps[antipode/api.Version]"], unfollowed := true, recurses := true, plainKeys := false, apart := false, narrowed := true }
def PartAnyUptoSaid : Prop := partAnyUptoRow.holds Try.pinned (OpenSpec.upto partAnySpec)

/-- 'antipodelaw23.PartReads', WHERE WHAT IT READS IS OF BULK AT MOST 1048576: true; the input reads as it did. -/
def partReadsUptoRow : OpenClaim := { program := "ytoldelocfmpccaa", sum := "b3df10cd052e44a8096e72604885d551750a36d9aa0194042a6b27030d7de9c9", func := "antipode/antipodelaw23.PartReads", spec := "partReads", inPlace := ["internal/bytealg.abigen_runtime_cmpstring", "slices.overlaps[antipode/api.Cell]", "slices.overlaps[antipode/api.Version]"], unfollowed := true, recurses := true, plainKeys := false, apart := false, narrowed := true }
def PartReadsUptoSaid : Prop := partReadsUptoRow.holds Try.pinned (OpenSpec.upto partReadsSpec)

/-- 'antipodelaw23.PartCloses', WHERE WHAT IT READS IS OF BULK AT MOST 1048576: true; the input reads as it did. -/
def partClosesUptoRow : OpenClaim := { program := "ytoldelocfmpccaa", sum := "b3df10cd052e44a8096e72604885d551750a36d9aa0194042a6b27030d7de9c9", func := "antipode/antipodelaw23.PartCloses", spec := "partCloses", inPlace := ["internal/bytealg.abigen_runtime_cmpstring", "slices.overlaps[antipode/api.Cell]", "slices.overlaps[antipode/api.Version]"], unfollowed := true, recurses := true, plainKeys := false, apart := false, narrowed := true }
def PartClosesUptoSaid : Prop := partClosesUptoRow.holds Try.pinned (OpenSpec.upto partClosesSpec)

/-- 'antipodelaw23.PartDecides', WHERE WHAT IT READS IS OF BULK AT MOST 1048576: true; the input reads as it did. -/
def partDecidesUptoRow : OpenClaim := { program := "ytoldelocfmpccaa", sum := "b3df10cd052e44a8096e72604885d551750a36d9aa0194042a6b27030d7de9c9", func := "antipode/antipodelaw23.PartDecides", spec := "partDecides", inPlace := ["internal/bytealg.abigen_runtime_cmpstring", "slices.overlaps[antipode/api.Cell]", "slices.overlaps[antipode/api.Version]"], unfollowed := true, recurses := true, plainKeys := false, apart := false, narrowed := true }
def PartDecidesUptoSaid : Prop := partDecidesUptoRow.holds Try.pinned (OpenSpec.upto partDecidesSpec)

/-- 'antipodelaw23.PartOnce', WHERE WHAT IT READS IS OF BULK AT MOST 1048576: true; the input reads as it did. -/
def partOnceUptoRow : OpenClaim := { program := "ytoldelocfmpccaa", sum := "b3df10cd052e44a8096e72604885d551750a36d9aa0194042a6b27030d7de9c9", func := "antipode/antipodelaw23.PartOnce", spec := "partOnce", inPlace := ["internal/bytealg.abigen_runtime_cmpstring", "slices.overlaps[antipode/api.Cell]", "slices.overlaps[antipode/api.Version]"], unfollowed := true, recurses := true, plainKeys := false, apart := false, narrowed := true }
def PartOnceUptoSaid : Prop := partOnceUptoRow.holds Try.pinned (OpenSpec.upto partOnceSpec)

/-- 'antipodelaw23.PartLocks', WHERE WHAT IT READS IS OF BULK AT MOST 1048576: true; the input reads as it did. -/
def partLocksUptoRow : OpenClaim := { program := "ytoldelocfmpccaa", sum := "b3df10cd052e44a8096e72604885d551750a36d9aa0194042a6b27030d7de9c9", func := "antipode/antipodelaw23.PartLocks", spec := "partLocks", inPlace := ["internal/bytealg.abigen_runtime_cmpstring", "slices.overlaps[antipode/api.Cell]", "slices.overlaps[antipode/api.Version]"], unfollowed := true, recurses := true, plainKeys := false, apart := false, narrowed := true }
def PartLocksUptoSaid : Prop := partLocksUptoRow.holds Try.pinned (OpenSpec.upto partLocksSpec)

/-- 'antipodelaw23.PartEpochs', WHERE WHAT IT READS IS OF BULK AT MOST 1048576: true; the input reads as it did. -/
def partEpochsUptoRow : OpenClaim := { program := "ytoldelocfmpccaa", sum := "b3df10cd052e44a8096e72604885d551750a36d9aa0194042a6b27030d7de9c9", func := "antipode/antipodelaw23.PartEpochs", spec := "partEpochs", inPlace := ["internal/bytealg.abigen_runtime_cmpstring", "slices.overlaps[antipode/api.Cell]", "slices.overlaps[antipode/api.Version]"], unfollowed := true, recurses := true, plainKeys := false, apart := false, narrowed := true }
def PartEpochsUptoSaid : Prop := partEpochsUptoRow.holds Try.pinned (OpenSpec.upto partEpochsSpec)

/-- 'antipodelaw23.PartStops', WHERE WHAT IT READS IS OF BULK AT MOST 1048576: true; the input reads as it did. -/
def partStopsUptoRow : OpenClaim := { program := "ytoldelocfmpccaa", sum := "b3df10cd052e44a8096e72604885d551750a36d9aa0194042a6b27030d7de9c9", func := "antipode/antipodelaw23.PartStops", spec := "partStops", inPlace := ["internal/bytealg.abigen_runtime_cmpstring", "slices.overlaps[antipode/api.Cell]", "slices.overlaps[antipode/api.Version]"], unfollowed := true, recurses := true, plainKeys := false, apart := false, narrowed := true }
def PartStopsUptoSaid : Prop := partStopsUptoRow.holds Try.pinned (OpenSpec.upto partStopsSpec)

/-- 'antipodelaw23.PartSettled', WHERE WHAT IT READS IS OF BULK AT MOST 1048576: true; the input reads as it did. -/
def partSettledUptoRow : OpenClaim := { program := "ytoldelocfmpccaa", sum := "b3df10cd052e44a8096e72604885d551750a36d9aa0194042a6b27030d7de9c9", func := "antipode/antipodelaw23.PartSettled", spec := "partSettled", inPlace := ["internal/bytealg.abigen_runtime_cmpstring", "slices.overlaps[antipode/api.Cell]", "slices.overlaps[antipode/api.Version]"], unfollowed := true, recurses := true, plainKeys := false, apart := false, narrowed := true }
def PartSettledUptoSaid : Prop := partSettledUptoRow.holds Try.pinned (OpenSpec.upto partSettledSpec)

end Rows
end Go.Proofs.Ytoldelocfmpccaa
