
/- The frame of a law's proof, whatever its parameters: a call that returns true and writes to no old memory meets the law's row. No program is named. -/
import Derived.WalkKit
import Derived.ProofKit
import Derived.OpenShut
import Derived.SizedLaws
import Derived.Carry
import Derived.ChangeOld
namespace Go.Proofs.YtlopccnehgolnabDoor
open Go.ChangeShapes Go.WideShapes Go.ChangeAt Go.RowKit

section
variable {H : Type} {enc : TypeId × Value → H}

theorem trodAll_lt {P : Program} {w : World} {base : Nat} {sp : Nat → Bool} {held : Bool} : ∀ {ts : List TypeId} {vs : List Value} {ds : List (DataW H)} {ps : List MemPlace},
    DataW.TrodAll enc P w base sp held ts vs ds ps → ∀ x ∈ ps, x.block < w.heap.size
  | [], [], [], ps, h, x, hx => by have h' : ps = [] := h; subst h'; cases hx
  | t :: ts, v :: vs, d :: ds, ps, h, x, hx => by
    obtain ⟨p, q, h1, h2, rfl⟩ := h
    rcases List.mem_append.1 hx with hx | hx
    · obtain ⟨m, hm⟩ := h1
      exact DataW.trod_lt m _ _ _ hm x hx
    · exact trodAll_lt h2 x hx
  | [], _ :: _, _, _, h, _, _ => h.elim
  | [], [], _ :: _, _, h, _, _ => h.elim
  | _ :: _, [], _, _, h, _, _ => h.elim
  | _ :: _, _ :: _, [], _, h, _, _ => h.elim

theorem trodAll_below {P : Program} (hl : laidOutB P = true) {W W' : World} (hb : Below W.heap.size W W') : ∀ {ts : List TypeId} {vs : List Value} {ds : List (DataW H)} {ps : List MemPlace},
    (∀ t ∈ ts, P.readableRec t = true ∧ t < P.types.size) → DataW.TrodAll enc P W 0 (fun _ => true) true ts vs ds ps → DataW.TrodAll enc P W' 0 (fun b => decide (b < W.heap.size)) true ts vs ds ps
  | [], [], [], _, _, h => h
  | t :: ts, v :: vs, d :: ds, ps, hr, h => by
    obtain ⟨p, q, h1, h2, rfl⟩ := h
    have hlt : ∀ x ∈ p, x.block < W.heap.size := by obtain ⟨m, hm⟩ := h1; exact DataW.trod_lt m _ _ _ hm
    exact ⟨p, q, Below.trod hl (hr t (by simp)).1 (hr t (by simp)).2 h1 hb hlt, trodAll_below hl hb (fun t ht => hr t (by simp [ht])) h2, rfl⟩
  | [], _ :: _, _, _, _, h => h.elim
  | [], [], _ :: _, _, _, h => h.elim
  | _ :: _, [], _, _, _, h => h.elim
  | _ :: _, _ :: _, [], _, _, h => h.elim

theorem trodAll_len {P : Program} {w : World} {base : Nat} {sp : Nat → Bool} {held : Bool} : ∀ {ts : List TypeId} {vs : List Value} {ds : List (DataW H)} {ps : List MemPlace},
    DataW.TrodAll enc P w base sp held ts vs ds ps → ds.length = ts.length
  | [], [], [], _, _ => rfl
  | t :: ts, v :: vs, d :: ds, ps, h => by
    obtain ⟨p, q, h1, h2, rfl⟩ := h
    simp [trodAll_len h2]
  | [], _ :: _, _, _, h => h.elim
  | [], [], _ :: _, _, h => h.elim
  | _ :: _, [], _, _, h => h.elim
  | _ :: _, _ :: _, [], _, h => h.elim

/-- The post of a law's row. -/
theorem law_post {P : Program} {fn : Func} {s : ChangeSpec} (hl : laidOutB P = true) (tb : TypeId) (hb : P.underlying tb = some .bool) (hres : fn.resultTypes = #[tb]) (hvars : s.vars = [])
    (hread : ∀ t ∈ fn.params.toList, P.readableRec t = true ∧ t < P.types.size)
    (hspec : ∀ ds : List (DataW H), ds.length = fn.params.toList.length → s.fn H ds = { results := [.lit (.bool true)], args := ds })
    {W W' : World} {args : Array Value} {ds gs : List (DataW H)} {before : List MemPlace} (hW : DataW.Whole enc P fn.params.toList s.vars false W args.toList ds gs before)
    (hbel : Below W.heap.size W W') : s.post enc P fn false true false false W args (.bool true) W' := by
  have hW' := hW
  obtain ⟨p, q, hA, hV, rfl, hz, hn⟩ := hW
  rw [hvars] at hV
  obtain ⟨rfl, rfl⟩ := trodVars_none hV
  have hs := hspec ds (trodAll_len hA)
  refine ⟨ds, [], p ++ [], [], p, [], hW', ?_, ?_, ?_, hbel.frame _, fun h => by cases h⟩
  · rw [List.append_nil, hs, hres]
    exact trodAll_mk1 (shut_bool hb true)
  · rw [List.append_nil, hs]
    exact trodAll_below hl hbel hread hA
  · rw [List.append_nil, hs, hvars]
    rfl

/-- What the frame tells of the arguments' values, held shut: Lean must never unfold 'okWide' at a whole program. -/
structure ArgsOk (P : Program) (W : World) (base : Nat) (ts : Array TypeId) (args : Array Value) : Prop where
  say : ∀ (j : Nat) t v, ts[j]? = some t → args[j]? = some v → Value.okWide P W .any base t v

section
variable {P : Program} {W : World} {base : Nat} {ts : Array TypeId} {args : Array Value} {j : Nat} {t : TypeId} {v : Value}
theorem ArgsOk.slice {e : TypeId} (h : ArgsOk P W base ts args) (ht : P.underlying t = some (.slice e)) (h1 : ts[j]? = some t) (h2 : args[j]? = some v) : ∃ a len cap, v = .slice a len cap := okWide_slice ht (h.say j t v h1 h2)
theorem ArgsOk.ptr {e : TypeId} (h : ArgsOk P W base ts args) (ht : P.underlying t = some (.pointer e)) (h1 : ts[j]? = some t) (h2 : args[j]? = some v) : ∃ a, v = .pointer a := okWide_pointer ht (h.say j t v h1 h2)
theorem ArgsOk.map {k e : TypeId} (h : ArgsOk P W base ts args) (ht : P.underlying t = some (.map k e)) (h1 : ts[j]? = some t) (h2 : args[j]? = some v) : ∃ a, v = .map a := okWide_map ht (h.say j t v h1 h2)
theorem ArgsOk.struct {fs : Array Field} (h : ArgsOk P W base ts args) (ht : P.underlying t = some (.struct fs)) (h1 : ts[j]? = some t) (h2 : args[j]? = some v) : ∃ cs, v = .agg cs ∧ cs.size = P.cellsOf t := okWide_struct ht (h.say j t v h1 h2)
theorem ArgsOk.str (h : ArgsOk P W base ts args) (ht : P.underlying t = some .string) (h1 : ts[j]? = some t) (h2 : args[j]? = some v) : ∃ s, v = .string s := okWide_string ht (h.say j t v h1 h2)
theorem ArgsOk.bool (h : ArgsOk P W base ts args) (ht : P.underlying t = some .bool) (h1 : ts[j]? = some t) (h2 : args[j]? = some v) : ∃ b, v = .bool b := okWide_bool ht (h.say j t v h1 h2)
theorem ArgsOk.int {d : DataW H} {ps : List MemPlace} {w : World} {b0 : Nat} {spare : Nat → Bool} {held : Bool} {k : IntKind} (h : ArgsOk P w base ts args) (ht : P.underlying t = some (.int k)) (h1 : ts[j]? = some t) (h2 : args[j]? = some v) (hd : DataW.Trod enc P w b0 spare held t v d ps) :
    ∃ n, v = .int k n ∧ d = .lit (.int k n) ∧ ps = [] ∧ (Lit.int k n).wf = true := open_int ht (h.say j t v h1 h2) hd
end

/-- The row's step: the call's contract is asked of arguments that read as data, each part within the form's reach. -/
theorem law_lifted {C : Checked} {os : Os} {f : FuncId} {fn : Func} {s : ChangeSpec} {conds : List PathCond} (own : ownKnob C.prog.godebug = none) (started : os.Started) (noInit : C.prog.inits.idxOf? f = none) (hfn : C.prog.funcs[f]? = some fn)
    (hl : laidOutB C.prog = true) (tb : TypeId) (hb : C.prog.underlying tb = some .bool) (hres : fn.resultTypes = #[tb]) (hvars : s.vars = [])
    (hread : ∀ t ∈ fn.params.toList, C.prog.readableRec t = true ∧ t < C.prog.types.size)
    (hspec : ∀ ds : List (DataW H), ds.length = fn.params.toList.length → s.fn H ds = { results := [.lit (.bool true)], args := ds })
    (witness : ∃ (w : World) (tape : Tape) (i : Input), w.os = os ∧ (w.forCall tape i).Shaped C.prog ∧ i.vars = [] ∧ Input.okWide C.prog (w.forCall tape i) .any w.heap.size f i ∧
      s.pre6 enc C.prog fn conds false (w.forCall tape i).memory i.args ∧ Assume.holds {} C.prog (lone (Frame.enter C.prog f i.args .normal) [] (w.forCall tape i)))
    (contract : ∀ (W : World) (base : Nat) (args : Array Value) (ds : List (DataW H)) (p : List MemPlace),
      ArgsOk C.prog W base fn.params args →
      DataW.TrodAll enc C.prog W 0 (fun _ => true) true fn.params.toList args.toList ds p →
      (DataW.weightsEach C.prog fn.params.toList ds).all (· ≤ reachBytes) = true →
      Calls C.prog f args W fun e W' => e = .returned (.bool true) ∧ Below W.heap.size W W') :
    ReturnsInHanded {} C os f .any (s.pre6 enc C.prog fn conds false) (s.post enc C.prog fn false true false false) := by
  refine returnsInHanded_of_change_sized own started noInit hfn witness ?_
  intro W base args ds gs before hval hW _ hwt _
  have hW' := hW
  obtain ⟨p, q, hA, hV, hpq, hz, hn⟩ := hW
  have hV' := hV
  rw [hvars] at hV'
  obtain ⟨rfl, rfl⟩ := trodVars_none hV'
  have hwt' : (DataW.weightsEach C.prog fn.params.toList ds).all (· ≤ reachBytes) = true := by
    have : s.plain.varTypes C.prog = [] := by simp [ChangeSpec.plain, DataSpec.varTypes, hvars]
    rw [this, List.append_nil, List.append_nil] at hwt
    exact hwt
  exact (contract W base args ds p ⟨hval⟩ hA hwt').mono fun e W' ⟨he, hbel⟩ => ⟨.bool true, he, law_post hl tb hb hres hvars hread hspec hW' hbel⟩
end
end Go.Proofs.YtlopccnehgolnabDoor
