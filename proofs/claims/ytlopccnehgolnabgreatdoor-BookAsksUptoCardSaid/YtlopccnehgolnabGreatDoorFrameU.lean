
/- The frame of a law's proof where the row lists variables, with or without a condition of the specification. No program is named. -/
import Derived.Test.YtlopccnehgolnabGreatDoorFrame
import Derived.Deep.DeepHandedRow
import Derived.Deep.DeepWitnessRowRef
import Derived.Lay
import Derived.LaidMore
import Derived.MakeChecks
namespace Go.Proofs.YtlopccnehgolnabGreatDoor
open Go.ChangeShapes Go.WideShapes Go.ChangeAt Go.RowKit

/-- The law's specification, with a condition or without. -/
def specC (s : ChangeSpec) (c : Option ((H : Type) → List (DataW H) → Bool)) : OpenSpec := { OpenSpec.ofChange s with cond := c }

theorem law_liftedC {H : Type} {enc : TypeId × Value → H} {C : Checked} {os : Os} {f : FuncId} {fn : Func} {s : ChangeSpec} {c : Option ((H : Type) → List (DataW H) → Bool)} {conds : List PathCond} {laid : List (String × DataW Unit)} {F : Stop.Interp}
    (own : ownKnob C.prog.godebug = none) (started : os.Started) (noInit : C.prog.inits.idxOf? f = none) (hfn : C.prog.funcs[f]? = some fn)
    (hl : laidOutB C.prog = true) (tb : TypeId) (hb : C.prog.underlying tb = some .bool) (hres : fn.resultTypes = #[tb]) (hvars : s.vars = [])
    (hread : ∀ t ∈ fn.params.toList, C.prog.readableRec t = true ∧ t < C.prog.types.size)
    (hspec : ∀ ds : List (DataW H), ds.length = fn.params.toList.length → s.fn H ds = { results := [.lit (.bool true)], args := ds })
    (witness : ∃ (w : World) (tape : Tape) (i : Input), w.os = os ∧ (w.forCall tape i).Shaped C.prog ∧ i.vars = [] ∧ Input.okWide C.prog (w.forCall tape i) .any w.heap.size f i ∧
      (specC s c).preRow enc C.prog fn conds false laid (w.forCall tape i).memory i.args ∧ Assume.holds {} C.prog (lone (Frame.enter C.prog f i.args .normal) [] (w.forCall tape i)))
    (contract : ∀ (W : World) (base : Nat) (args : Array Value) (ds : List (DataW H)) (p : List MemPlace),
      ArgsOk C.prog W base fn.params args →
      DataW.TrodAll enc C.prog W 0 (fun _ => true) true fn.params.toList args.toList ds p →
      (DataW.weightsEach C.prog fn.params.toList ds).all (· ≤ reachBytes) = true →
      (∀ k, c = some k → k H ds = true) → laidMetH C.prog laid W →
      Calls C.prog f args W fun e W' => e = .returned (.bool true) ∧ Below W.heap.size W W') :
    ReturnsInHanded {} C os f .any ((specC s c).preRow enc C.prog fn conds false laid) (((specC s c).at F).post enc C.prog fn false true false false) := by
  refine returnsInHanded_of_row (s := specC s c) own started noInit hfn witness ?_
  intro W base args ds gs before hval hW _ hcond hwt hL _ _
  have hW' : DataW.Whole enc C.prog fn.params.toList s.vars false W args.toList ds gs before := hW
  have hW'' := hW'
  obtain ⟨p, q, hA, hV, hpq, hz, hn⟩ := hW'
  have hV' := hV
  rw [hvars] at hV'
  obtain ⟨rfl, rfl⟩ := trodVars_none hV'
  have hwt' : (DataW.weightsEach C.prog fn.params.toList ds).all (· ≤ reachBytes) = true := by
    have : (specC s c).bare.plain.varTypes C.prog = [] := by simp [specC, OpenSpec.ofChange, OpenSpec.bare, ChangeSpec.plain, DataSpec.varTypes, hvars]
    rw [this, List.append_nil, List.append_nil] at hwt
    exact hwt
  have hcond' : ∀ k, c = some k → k H ds = true := fun k hk => by
    have := hcond k hk
    rwa [List.append_nil] at this
  exact (contract W base args ds p ⟨hval⟩ hA hwt' hcond' hL).mono fun e W' ⟨he, hbel⟩ => ⟨.bool true, he, law_post hl tb hb hres hvars hread hspec hW'' hbel⟩

end Go.Proofs.YtlopccnehgolnabGreatDoor
