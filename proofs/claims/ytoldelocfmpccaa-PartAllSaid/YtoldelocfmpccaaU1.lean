/-
  Words, plain models, laws and walks that the claims of this layer share (joined by shake.py). No condition.
-/
import Derived.WalkKit
import Derived.WalkSpells
import Derived.WalkLawsBesides
import Derived.ProofKit
import Derived.OpenShut
import Derived.ChangeOld
import Derived.Below
import Derived.Carry
import Derived.Deep.Slices
import Derived.Maps.AppendAt
import Derived.Deep.AppendLies
import Derived.RegionTactic
import Derived.OwnWalk
import Derived.Lib.Hide
import Derived.Laws.CopyOwn
import Derived.Laws.BytesArg
import Derived.Orders
import Derived.Laws.IdiomStrings
import Derived.Test.YtoldelocfmpccaaRows
import Derived.Outline
import Derived.Shelf.Small.Strs
import Derived.Test.YtoldelocfmpccaaProg
import Derived.Deep.QuietTactic
import Derived.BigQuiet
import Derived.Deep.RegionHeld3
import Derived.Lib.AppendZerosOnto
import Derived.Lib.Overlaps
import Derived.Deep.RegionLaw
import Derived.Deep.CutRange
import Derived.StillTail
import Derived.WideKeyEntry
import Derived.Deep.RegionLawGrows
import Derived.Test.YtoldelocfmpccaaX9
import Derived.Test.YtoldelocfmpccaaX8
import Derived.Test.YtoldelocfmpccaaX7
import Derived.Test.YtoldelocfmpccaaX6
import Derived.Test.YtoldelocfmpccaaX5
import Derived.Test.YtoldelocfmpccaaX4
import Derived.Test.YtoldelocfmpccaaX3
import Derived.Test.YtoldelocfmpccaaX2
import Derived.Test.YtoldelocfmpccaaX16
import Derived.Test.YtoldelocfmpccaaX15
import Derived.Test.YtoldelocfmpccaaX14
import Derived.Test.YtoldelocfmpccaaX13
import Derived.Test.YtoldelocfmpccaaX12
import Derived.Test.YtoldelocfmpccaaX11
import Derived.Test.YtoldelocfmpccaaX10
import Derived.Test.YtoldelocfmpccaaX1
set_option linter.unusedSimpArgs false
set_option linter.unusedVariables false
namespace Go.Proofs.Ytoldelocfmpccaa
open Go.RowKit Go.ChangeShapes Go.WideShapes Go.ChangeAt
section
variable {S S' : Nat → Prop} {w w' w'' : World}
theorem Qa.below (h : Qa S w w') {B : Nat} (hB : B ≤ w.heap.size) (hs : ∀ i, i < B → S i) : Below B w w' := ⟨h.os, h.tape, h.output, h.size, fun i hi => h.block i (by omega) (hs i hi)⟩
end
section
variable {S S' : Nat → Prop} {w w' : World} {size n : Nat} {A : Option Addr} {xs : List Value}
end
section
variable {S S' : Nat → Prop} {w w' : World} {v : Value} {bs : List UInt8}
end
section
variable {S S' : Nat → Prop} {w w' : World} {v : Value} {l : List (List UInt8)}
end
section
variable {S : Nat → Prop} {w w' : World} {g : Nat} {e : TypeId} {xs : List Value}
end
section
variable {P : Program} {t e : TypeId} {size bytes : Nat} {z : Value}
end
section
variable {H : Type} {enc : TypeId × Value → H} {P : Program} {W : World}
end
theorem Yf {H : Type} {enc : TypeId × Value → H} {P : Program} (hl : laidOutB P = true) {W W' : World} (hb : Below W.heap.size W W') :
  ∀ (ts : List TypeId) (vs : List Value) (ds : List (DataW H)) (ps : List MemPlace), (∀ t ∈ ts, P.readableRec t = true ∧ t < P.types.size) →
   DataW.TrodAll enc P W 0 (fun _ => true) true ts vs ds ps → DataW.TrodAll enc P W' 0 (fun b => decide (b < W.heap.size)) true ts vs ds ps
 | [], [], [], _, _, h => h
 | t :: ts, v :: vs, d :: ds, _, hr, ⟨p, q, h0, h1, e⟩ =>
  ⟨p, q, Below.trod hl (hr t (by simp)).1 (hr t (by simp)).2 h0 hb (by obtain ⟨m, hm⟩ := h0; exact DataW.trod_lt m _ _ _ hm), Yf hl hb ts vs ds q (fun t ht => hr t (by simp [ht])) h1, e⟩
 | [], [], _ :: _, _, _, h => h.elim
 | [], _ :: _, _, _, _, h => h.elim
 | _ :: _, [], _, _, _, h => h.elim
 | _ :: _, _ :: _, [], _, _, h => h.elim
theorem JP {H : Type} {enc : TypeId × Value → H} {P : Program} {W : World} {base : Nat} {sp : Nat → Bool} {held : Bool} :
  ∀ (ts : List TypeId) (vs : List Value) (ds : List (DataW H)) (ps : List MemPlace), DataW.TrodAll enc P W base sp held ts vs ds ps → ts.length = vs.length ∧ ts.length = ds.length
 | [], [], [], _, _ => ⟨rfl, rfl⟩
 | _ :: ts, _ :: vs, _ :: ds, _, ⟨_, q, _, h1, _⟩ => by
  obtain ⟨a, b⟩ := JP ts vs ds q h1;simp [a.symm, b.symm]
 | [], [], _ :: _, _, h => h.elim
 | [], _ :: _, _, _, h => h.elim
 | _ :: _, [], _, _, h => h.elim
 | _ :: _, _ :: _, [], _, h => h.elim
theorem law_lift {C : Checked} {os : Os} {H : Type} {enc : TypeId × Value → H} (f : FuncId) (fn : Func) (s : ChangeSpec) {conds : List PathCond} (started : os.Started)
  (own : ownKnob C.prog.godebug = none) (laid : laidOutB C.prog = true) (noInit : C.prog.inits.idxOf? f = none) (hfn : C.prog.funcs[f]? = some fn)
  (tb : TypeId) (hres : fn.resultTypes = #[tb]) (hbool : C.prog.underlying tb = some .bool) (hvars : s.vars = [])
  (hspec : ∀ ds : List (DataW H), ds.length = fn.params.size → s.fn H ds = { results := [.lit (.bool true)], args := ds })
  (hread : fn.params.toList.all (fun t => C.prog.readableRec t && decide (t < C.prog.types.size)) = true)
  (witness : ∃ (w : World) (tape : Tape) (i : Input), w.os = os ∧ (w.forCall tape i).Shaped C.prog ∧ i.vars = [] ∧ Input.okWide C.prog (w.forCall tape i) .any w.heap.size f i ∧
   s.pre6 enc C.prog fn conds false (w.forCall tape i).memory i.args ∧ ({} : Assume).holds C.prog (lone (Frame.enter C.prog f i.args .normal) [] (w.forCall tape i)))
  (walk : LawWalk C.prog f fn H enc) :
  ReturnsInHanded {} C os f .any (s.pre6 enc C.prog fn conds false) (s.post enc C.prog fn false true false false) := by
 refine returnsInHanded_of_change own started noInit hfn witness ?_;intro W base args ds gs before hval hW hcnd _;have hW' := hW;obtain ⟨p, q, hA, hV, rfl, hfz, hnd⟩ := hW;rw [hvars] at hV;obtain ⟨rfl, rfl⟩ := trodVars_none hV
 have hall : ∀ t ∈ fn.params.toList, C.prog.readableRec t = true ∧ t < C.prog.types.size := fun t ht => by
  have := List.all_eq_true.1 hread t ht;simpa using this
 have hlen := JP _ _ _ _ hA;refine (walk W base args.toList ds p (fun j t v hj hv => hval j t v hj (by simpa using hv)) hA).mono fun e W' ⟨he, hS⟩ => ?_
 have bel : Below W.heap.size W W' := hS.below (Nat.le_refl _) (fun _ _ => trivial);subst he;have hd : (ds ++ []).length = fn.params.size := by have := hlen.2; simp at this ⊢; omega
 refine ⟨_, rfl, ds, [], _, [], p, [], hW', ?_, ?_, ?_, bel.frame _, fun h => by cases h⟩
 ·rw [hspec _ hd, hres];exact trodAll_mk1 (shut_bool hbool _)
 ·rw [hspec _ hd];simpa using Yf laid bel _ _ _ _ hall hA
 ·rw [hvars, hspec _ hd];rfl
end Go.Proofs.Ytoldelocfmpccaa
