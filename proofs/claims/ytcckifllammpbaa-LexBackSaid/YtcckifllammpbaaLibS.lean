/-
  The frame that closes a law whose walk asks what the library's variables hold.
-/
import Derived.Test.YtcckifllammpbaaLib
import Derived.HandedShaped
import Derived.ChangeMaps5
set_option linter.unusedSimpArgs false
set_option linter.unusedVariables false
namespace Go.Proofs.Ytcckifllammpbaa
open Go.RowKit Go.ChangeShapes Go.WideShapes Go.ChangeAt
/-- What a law's walk has to show. -/
def LawWalkS (P : Program) (f : FuncId) (fn : Func) (H : Type) (enc : TypeId × Value → H) : Prop :=
  ∀ (W : World) (base : Nat) (args : List Value) (ds : List (DataW H)) (ps : List MemPlace),
    (∀ (j : Nat) (t : TypeId) (v : Value), fn.params[j]? = some t → args[j]? = some v → Value.okWide P W .any base t v) →
    DataW.TrodAll enc P W 0 (fun _ => true) true fn.params.toList args ds ps → W.ShapedOpen P →
    Calls P f args.toArray W fun e W' => e = .returned (.bool true) ∧ Same (fun _ => True) W W'

theorem law_lift_s {C : Checked} {os : Os} {H : Type} {enc : TypeId × Value → H} (f : FuncId) (fn : Func) (s : ChangeSpec) {conds : List PathCond} (started : os.Started)
    (own : ownKnob C.prog.godebug = none) (laid : laidOutB C.prog = true) (noInit : C.prog.inits.idxOf? f = none) (hfn : C.prog.funcs[f]? = some fn)
    (tb : TypeId) (hres : fn.resultTypes = #[tb]) (hbool : C.prog.underlying tb = some .bool) (hvars : s.vars = [])
    (hspec : ∀ ds : List (DataW H), ds.length = fn.params.size → s.fn H ds = { results := [.lit (.bool true)], args := ds })
    (hread : fn.params.toList.all (fun t => C.prog.readableRec t && decide (t < C.prog.types.size)) = true)
    (witness : ∃ (w : World) (tape : Tape) (i : Input), w.os = os ∧ (w.forCall tape i).Shaped C.prog ∧ i.vars = [] ∧ Input.okWide C.prog (w.forCall tape i) .any w.heap.size f i ∧
      s.pre6 enc C.prog fn conds false (w.forCall tape i).memory i.args ∧ ({} : Assume).holds C.prog (lone (Frame.enter C.prog f i.args .normal) [] (w.forCall tape i)))
    (walk : LawWalkS C.prog f fn H enc) :
    ReturnsInHanded {} C os f .any (s.pre6 enc C.prog fn conds false) (s.post enc C.prog fn false true false false) := by
  refine returnsInHanded_of_change_shaped own started noInit hfn witness ?_
  intro W base args ds gs before hval hW hcnd _ hsh _
  have hW' := hW
  obtain ⟨p, q, hA, hV, rfl, hfz, hnd⟩ := hW
  rw [hvars] at hV
  obtain ⟨rfl, rfl⟩ := trodVars_none hV
  have hall : ∀ t ∈ fn.params.toList, C.prog.readableRec t = true ∧ t < C.prog.types.size := fun t ht => by
    have := List.all_eq_true.1 hread t ht
    simpa using this
  have hlen := trodAll_length _ _ _ _ hA
  refine (walk W base args.toList ds p (fun j t v hj hv => hval j t v hj (by simpa using hv)) hA hsh).mono fun e W' ⟨he, hS⟩ => ?_
  have bel : Below W.heap.size W W' := hS.below (Nat.le_refl _) (fun _ _ => trivial)
  subst he
  have hd : (ds ++ []).length = fn.params.size := by have := hlen.2; simp at this ⊢; omega
  refine ⟨_, rfl, ds, [], _, [], p, [], hW', ?_, ?_, ?_, bel.frame _, fun h => by cases h⟩
  · rw [hspec _ hd, hres]
    exact trodAll_mk1 (shut_bool hbool _)
  · rw [hspec _ hd]
    simpa using trodAll_below laid bel _ _ _ _ hall hA
  · rw [hvars, hspec _ hd]
    rfl
end Go.Proofs.Ytcckifllammpbaa
