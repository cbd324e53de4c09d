/-
  The disk of layer 4 as plain data: two files, how much of each lasts, and what a failure does; no program in sight.
-/
import Derived.Test.YtpjinngngbifoaaBase2
set_option linter.unusedSimpArgs false
set_option linter.unusedVariables false
namespace Go.Proofs.Ytpjinngngbifoaa
open Go.RowKit

structure FileM where
  b : List UInt8
  last : Nat
structure DiskM where
  f0 : FileM
  f1 : FileM
  armed : Int
  off : Bool
  lives : Nat
  steps : Nat
def DiskM.new : DiskM := ⟨⟨[], 0⟩, ⟨[], 0⟩, -1, false, 0, 0⟩
def DiskM.file (d : DiskM) (f : Int) : FileM := if f = 0 then d.f0 else d.f1
def DiskM.put (d : DiskM) (f : Int) (x : FileM) : DiskM := if f = 0 then { d with f0 := x } else { d with f1 := x }
/-- May a file be asked? -/
def DiskM.may (d : DiskM) (f : Int) : Int := if d.off then 6 else if f = 0 ∨ f = 1 then 0 else 1
/-- One step that may fail: the file becomes x. -/
def DiskM.step (d : DiskM) (f : Int) (x : FileM) : Int × DiskM :=
  if d.armed = 0 then (6, { d with off := true })
  else (0, { d.put f x with armed := if 0 < d.armed then d.armed - 1 else d.armed, steps := d.steps + 1 })
def DiskM.append (d : DiskM) (f : Int) (b : List UInt8) : Int × DiskM :=
  if d.may f ≠ 0 then (d.may f, d) else d.step f ⟨(d.file f).b ++ b, (d.file f).last⟩
def DiskM.sync (d : DiskM) (f : Int) : Int × DiskM :=
  if d.may f ≠ 0 then (d.may f, d) else d.step f ⟨(d.file f).b, (d.file f).b.length⟩
def DiskM.clear (d : DiskM) (f : Int) : Int × DiskM :=
  if d.may f ≠ 0 then (d.may f, d) else d.step f ⟨[], 0⟩
def DiskM.read (d : DiskM) (f : Int) : List UInt8 × Int := if d.may f ≠ 0 then ([], d.may f) else ((d.file f).b, 0)
def DiskM.arm (d : DiskM) (n : Int) : DiskM := { d with armed := max n (-1) }
/-- How much of what waits is left. -/
def keepN (keep : List Int) (i : Nat) (x : FileM) : Nat := if i < keep.length then min (keep.getD i 0).toNat (x.b.length - x.last) else 0
def FileM.cut (x : FileM) (n : Nat) : FileM := ⟨x.b.take (x.last + n), x.last + n⟩
def DiskM.power (d : DiskM) (keep : List Int) : DiskM :=
  { f0 := d.f0.cut (keepN keep 0 d.f0), f1 := d.f1.cut (keepN keep 1 d.f1), armed := -1, off := false, lives := d.lives + 1, steps := d.steps }
/-- What a disk that New made is. -/
structure DiskM.Ok (d : DiskM) : Prop where
  l0 : d.f0.last ≤ d.f0.b.length
  l1 : d.f1.last ≤ d.f1.b.length
  armed : -1 ≤ d.armed ∧ d.armed ≤ 9223372036854775807
end Go.Proofs.Ytpjinngngbifoaa
