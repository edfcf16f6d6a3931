/- The frame of a law's proof, whatever its parameters: a call that returns true and writes to no old memory meets the law's row. No program is named. From a law's arguments, as the row reads them, to what the walks are told: every kind of data. No program is named. The types of this program, read as data: ranges. The types of this program, read as data: texts, cells, rules, tables. -/
import Derived.WalkKit
import Derived.ProofKit
import Derived.OpenShut
import Derived.SizedLaws
import Derived.Carry
import Derived.ChangeOld
import Derived.Test.YtlopccnehgolnaaDoorBase
import Derived.Deep.Slices
import Derived.Test.YtlopccnehgolnaaDoorSpanA
import Derived.Test.YtlopccnehgolnaaDoorTab
namespace Go.Proofs.YtlopccnehgolnaaDoor
open Go.ChangeShapes Go.WideShapes Go.ChangeAt Go.RowKit

section
variable {H : Type} {enc : TypeId × Value → H}

theorem trodAll_lt {P : Program} {w : World} {base : Nat} {sp : Nat → Bool} {held : Bool} : ∀ {ts : List TypeId} {vs : List Value} {ds : List (DataW H)} {ps : List MemPlace},
    DataW.TrodAll enc P w base sp held ts vs ds ps → ∀ x ∈ ps, x.block < w.heap.size
  | [], [], [], ps, h, x, hx => by have h' : ps = [] := h; subst h'; cases hx
  | t :: ts, v :: vs, d :: ds, ps, h, x, hx => by
    obtain ⟨p, q, h1, h2, rfl⟩ := h
    rcases List.mem_append.1 hx with hx | hx
    · obtain ⟨m, hm⟩ := h1
      exact DataW.trod_lt m _ _ _ hm x hx
    · exact trodAll_lt h2 x hx
  | [], _ :: _, _, _, h, _, _ => h.elim
  | [], [], _ :: _, _, h, _, _ => h.elim
  | _ :: _, [], _, _, h, _, _ => h.elim
  | _ :: _, _ :: _, [], _, h, _, _ => h.elim

theorem trodAll_below {P : Program} (hl : laidOutB P = true) {W W' : World} (hb : Below W.heap.size W W') : ∀ {ts : List TypeId} {vs : List Value} {ds : List (DataW H)} {ps : List MemPlace},
    (∀ t ∈ ts, P.readableRec t = true ∧ t < P.types.size) → DataW.TrodAll enc P W 0 (fun _ => true) true ts vs ds ps → DataW.TrodAll enc P W' 0 (fun b => decide (b < W.heap.size)) true ts vs ds ps
  | [], [], [], _, _, h => h
  | t :: ts, v :: vs, d :: ds, ps, hr, h => by
    obtain ⟨p, q, h1, h2, rfl⟩ := h
    have hlt : ∀ x ∈ p, x.block < W.heap.size := by obtain ⟨m, hm⟩ := h1; exact DataW.trod_lt m _ _ _ hm
    exact ⟨p, q, Below.trod hl (hr t (by simp)).1 (hr t (by simp)).2 h1 hb hlt, trodAll_below hl hb (fun t ht => hr t (by simp [ht])) h2, rfl⟩
  | [], _ :: _, _, _, _, h => h.elim
  | [], [], _ :: _, _, _, h => h.elim
  | _ :: _, [], _, _, _, h => h.elim
  | _ :: _, _ :: _, [], _, _, h => h.elim

theorem trodAll_len {P : Program} {w : World} {base : Nat} {sp : Nat → Bool} {held : Bool} : ∀ {ts : List TypeId} {vs : List Value} {ds : List (DataW H)} {ps : List MemPlace},
    DataW.TrodAll enc P w base sp held ts vs ds ps → ds.length = ts.length
  | [], [], [], _, _ => rfl
  | t :: ts, v :: vs, d :: ds, ps, h => by
    obtain ⟨p, q, h1, h2, rfl⟩ := h
    simp [trodAll_len h2]
  | [], _ :: _, _, _, h => h.elim
  | [], [], _ :: _, _, h => h.elim
  | _ :: _, [], _, _, h => h.elim
  | _ :: _, _ :: _, [], _, h => h.elim

/-- The post of a law's row. -/
theorem law_post {P : Program} {fn : Func} {s : ChangeSpec} (hl : laidOutB P = true) (tb : TypeId) (hb : P.underlying tb = some .bool) (hres : fn.resultTypes = #[tb]) (hvars : s.vars = [])
    (hread : ∀ t ∈ fn.params.toList, P.readableRec t = true ∧ t < P.types.size)
    (hspec : ∀ ds : List (DataW H), ds.length = fn.params.toList.length → s.fn H ds = { results := [.lit (.bool true)], args := ds })
    {W W' : World} {args : Array Value} {ds gs : List (DataW H)} {before : List MemPlace} (hW : DataW.Whole enc P fn.params.toList s.vars false W args.toList ds gs before)
    (hbel : Below W.heap.size W W') : s.post enc P fn false true false false W args (.bool true) W' := by
  have hW' := hW
  obtain ⟨p, q, hA, hV, rfl, hz, hn⟩ := hW
  rw [hvars] at hV
  obtain ⟨rfl, rfl⟩ := trodVars_none hV
  have hs := hspec ds (trodAll_len hA)
  refine ⟨ds, [], p ++ [], [], p, [], hW', ?_, ?_, ?_, hbel.frame _, fun h => by cases h⟩
  · rw [List.append_nil, hs, hres]
    exact trodAll_mk1 (shut_bool hb true)
  · rw [List.append_nil, hs]
    exact trodAll_below hl hbel hread hA
  · rw [List.append_nil, hs, hvars]
    rfl

/-- What the frame tells of the arguments' values, held shut: Lean must never unfold 'okWide' at a whole program. -/
structure ArgsOk (P : Program) (W : World) (base : Nat) (ts : Array TypeId) (args : Array Value) : Prop where
  say : ∀ (j : Nat) t v, ts[j]? = some t → args[j]? = some v → Value.okWide P W .any base t v

section
variable {P : Program} {W : World} {base : Nat} {ts : Array TypeId} {args : Array Value} {j : Nat} {t : TypeId} {v : Value}
theorem ArgsOk.slice {e : TypeId} (h : ArgsOk P W base ts args) (ht : P.underlying t = some (.slice e)) (h1 : ts[j]? = some t) (h2 : args[j]? = some v) : ∃ a len cap, v = .slice a len cap := okWide_slice ht (h.say j t v h1 h2)
theorem ArgsOk.ptr {e : TypeId} (h : ArgsOk P W base ts args) (ht : P.underlying t = some (.pointer e)) (h1 : ts[j]? = some t) (h2 : args[j]? = some v) : ∃ a, v = .pointer a := okWide_pointer ht (h.say j t v h1 h2)
theorem ArgsOk.map {k e : TypeId} (h : ArgsOk P W base ts args) (ht : P.underlying t = some (.map k e)) (h1 : ts[j]? = some t) (h2 : args[j]? = some v) : ∃ a, v = .map a := okWide_map ht (h.say j t v h1 h2)
theorem ArgsOk.struct {fs : Array Field} (h : ArgsOk P W base ts args) (ht : P.underlying t = some (.struct fs)) (h1 : ts[j]? = some t) (h2 : args[j]? = some v) : ∃ cs, v = .agg cs ∧ cs.size = P.cellsOf t := okWide_struct ht (h.say j t v h1 h2)
theorem ArgsOk.str (h : ArgsOk P W base ts args) (ht : P.underlying t = some .string) (h1 : ts[j]? = some t) (h2 : args[j]? = some v) : ∃ s, v = .string s := okWide_string ht (h.say j t v h1 h2)
theorem ArgsOk.bool (h : ArgsOk P W base ts args) (ht : P.underlying t = some .bool) (h1 : ts[j]? = some t) (h2 : args[j]? = some v) : ∃ b, v = .bool b := okWide_bool ht (h.say j t v h1 h2)
theorem ArgsOk.int {d : DataW H} {ps : List MemPlace} {w : World} {b0 : Nat} {spare : Nat → Bool} {held : Bool} {k : IntKind} (h : ArgsOk P w base ts args) (ht : P.underlying t = some (.int k)) (h1 : ts[j]? = some t) (h2 : args[j]? = some v) (hd : DataW.Trod enc P w b0 spare held t v d ps) :
    ∃ n, v = .int k n ∧ d = .lit (.int k n) ∧ ps = [] ∧ (Lit.int k n).wf = true := open_int ht (h.say j t v h1 h2) hd
end

/-- The row's step: the call's contract is asked of arguments that read as data, each part within the form's reach. -/
theorem law_lifted {C : Checked} {os : Os} {f : FuncId} {fn : Func} {s : ChangeSpec} {conds : List PathCond} (own : ownKnob C.prog.godebug = none) (started : os.Started) (noInit : C.prog.inits.idxOf? f = none) (hfn : C.prog.funcs[f]? = some fn)
    (hl : laidOutB C.prog = true) (tb : TypeId) (hb : C.prog.underlying tb = some .bool) (hres : fn.resultTypes = #[tb]) (hvars : s.vars = [])
    (hread : ∀ t ∈ fn.params.toList, C.prog.readableRec t = true ∧ t < C.prog.types.size)
    (hspec : ∀ ds : List (DataW H), ds.length = fn.params.toList.length → s.fn H ds = { results := [.lit (.bool true)], args := ds })
    (witness : ∃ (w : World) (tape : Tape) (i : Input), w.os = os ∧ (w.forCall tape i).Shaped C.prog ∧ i.vars = [] ∧ Input.okWide C.prog (w.forCall tape i) .any w.heap.size f i ∧
      s.pre6 enc C.prog fn conds false (w.forCall tape i).memory i.args ∧ Assume.holds {} C.prog (lone (Frame.enter C.prog f i.args .normal) [] (w.forCall tape i)))
    (contract : ∀ (W : World) (base : Nat) (args : Array Value) (ds : List (DataW H)) (p : List MemPlace),
      ArgsOk C.prog W base fn.params args →
      DataW.TrodAll enc C.prog W 0 (fun _ => true) true fn.params.toList args.toList ds p →
      (DataW.weightsEach C.prog fn.params.toList ds).all (· ≤ reachBytes) = true →
      Calls C.prog f args W fun e W' => e = .returned (.bool true) ∧ Below W.heap.size W W') :
    ReturnsInHanded {} C os f .any (s.pre6 enc C.prog fn conds false) (s.post enc C.prog fn false true false false) := by
  refine returnsInHanded_of_change_sized own started noInit hfn witness ?_
  intro W base args ds gs before hval hW _ hwt _
  have hW' := hW
  obtain ⟨p, q, hA, hV, hpq, hz, hn⟩ := hW
  have hV' := hV
  rw [hvars] at hV'
  obtain ⟨rfl, rfl⟩ := trodVars_none hV'
  have hwt' : (DataW.weightsEach C.prog fn.params.toList ds).all (· ≤ reachBytes) = true := by
    have : s.plain.varTypes C.prog = [] := by simp [ChangeSpec.plain, DataSpec.varTypes, hvars]
    rw [this, List.append_nil, List.append_nil] at hwt
    exact hwt
  exact (contract W base args ds p ⟨hval⟩ hA hwt').mono fun e W' ⟨he, hbel⟩ => ⟨.bool true, he, law_post hl tb hb hres hvars hread hspec hW' hbel⟩
end
end Go.Proofs.YtlopccnehgolnaaDoor

namespace Go.Proofs.YtlopccnehgolnaaDoor
open Go.ChangeShapes Go.WideShapes Go.ChangeAt Go.RowKit Go.Deep

/-- Whatever the row reads at type t is a datum of R; each part within the form's reach. -/
def Opens {α : Type} (P : Program) (R : Rd α) (t : TypeId) : Prop :=
  ∀ {H : Type} (enc : TypeId × Value → H) (w : World) (base : Nat) (sp : Nat → Bool) (held : Bool) (fuel : Nat) (cs : List Value) (x : DataW H × List MemPlace),
    DataW.trod enc P w base sp held fuel t cs = some x → (∀ n ∈ x.1.weights P t, n ≤ reachBytes) → ∃ a, R.rel w (fun _ => True) cs a

section
variable {α β : Type} {P : Program} {R : Rd α} {T : Rd β} {t e : TypeId}

theorem Opens.int (ht : P.underlying t = some (.int .i64)) : Opens P rInt t := by
  intro H enc w base sp held fuel cs x h _
  obtain ⟨n, rfl, _, hw⟩ := DataW.trod_int ht h
  refine ⟨n, rfl, ?_⟩
  simp only [Lit.wf, Bool.and_eq_true, decide_eq_true_eq, IntKind.min, IntKind.max, IntKind.signed, IntKind.bits] at hw
  unfold InI
  simp at hw
  omega

theorem Opens.bool (ht : P.underlying t = some .bool) : Opens P rBool t := by
  intro H enc w base sp held fuel cs x h _
  obtain ⟨b, rfl, _⟩ := DataW.trod_bool ht h
  exact ⟨b, rfl⟩

theorem Opens.str (ht : P.underlying t = some .string) : Opens P rStr t := by
  intro H enc w base sp held fuel cs x h hn
  obtain ⟨s, rfl, hx, hw⟩ := DataW.trod_string ht h
  refine ⟨s.data.toList, by simp, ?_⟩
  have := hn s.data.toList.length (by rw [hx]; simp [DataW.weights])
  unfold reachBytes at this
  omega

theorem weights_all_mem {H : Type} : ∀ {l : List (DataW H)} {d : DataW H}, d ∈ l → ∀ n ∈ d.weights P e, n ∈ DataW.weightsAll P e l
  | x :: l, d, hd, n, hn => by
    simp only [DataW.weightsAll, List.mem_append]
    rcases List.mem_cons.1 hd with rfl | hd
    · exact .inl hn
    · exact .inr (weights_all_mem hd n hn)

theorem Opens.slice (ht : P.underlying t = some (.slice e)) (hk : P.cellsOf e = R.k) (hk0 : 0 < R.k) (hb : P.bytesOf e = R.bytes) (hR : Opens P R e) : Opens P (rSl R) t := by
  intro H enc w base sp held fuel cs x h hn
  rcases open_slice ht h with ⟨rfl, _⟩ | ⟨a, len, cap, m, n, D, Pl, rfl, _, hl, hm, hmm, hx, hi⟩
  · exact ⟨[], none, 0, rfl, Nat.le_refl _, by decide, by simp, fun i x hx => by simp at hx⟩
  · have hmlen : len ≤ m := by rw [hmm]; split <;> omega
    have hw1 : len * R.bytes ≤ 140737488355328 := by
      have := hn ((((List.range len).map D).length + ((List.range (m - len)).map fun j => D (len + j)).length) * P.bytesOf e) (by rw [hx]; simp [DataW.weights, ht])
      rw [hb] at this
      simp only [List.length_map, List.length_range] at this
      have h2 : len * R.bytes ≤ (len + (m - len)) * R.bytes := Nat.mul_le_mul_right _ (by omega)
      unfold reachBytes at this
      omega
    have key : ∀ i, i < len → ∃ (b off : Nat) (es : List Value) (y : α), a = ⟨b, off, none⟩ ∧ b < w.heap.size ∧ R.rel w (fun _ => True) es y ∧ ∀ j u, es[j]? = some u → w.cell? ⟨b, off + i * R.k + j, none⟩ = some u := by
      intro i hil
      obtain ⟨cs', hc, htr⟩ := hi i (by omega)
      obtain ⟨_, hlen, hcell⟩ := World.cells?_some hc
      have hwt : ∀ n ∈ (D i).weights P e, n ≤ reachBytes := fun n hn' => by
        refine hn n ?_
        rw [hx]
        simp only [DataW.weights, ht, List.mem_cons, List.mem_append]
        exact .inr (.inl (weights_all_mem (List.mem_map.2 ⟨i, by simp [hil], rfl⟩) n hn'))
      obtain ⟨y, hy⟩ := hR enc w base sp held n cs' _ htr hwt
      have hl' : cs'.length = R.k := by rw [hlen, hk]
      have h0 : w.cell? ((a.add (i * P.cellsOf e)).add 0) = some (cs'[0]'(by omega)) := by
        rw [hcell 0 (by omega)]; exact List.getElem?_eq_getElem (by omega)
      obtain ⟨b, off, spot⟩ := a
      have hspot : spot = none := by
        by_cases hz : i * P.cellsOf e = 0
        · have := World.cell?_spot h0
          simpa [Addr.add, hz] using this
        · have h00 : 0 < i := Nat.pos_of_ne_zero (fun h => hz (by rw [h, Nat.zero_mul]))
          obtain ⟨cs0, hc0, _⟩ := hi 0 (by omega)
          obtain ⟨_, hlen0, hcell0⟩ := World.cells?_some hc0
          have h1 := hcell0 0 (by omega)
          rw [List.getElem?_eq_getElem (by omega)] at h1
          have := World.cell?_spot h1
          simpa [Addr.add] using this
      subst hspot
      have hadd : ∀ p q : Nat, ((⟨b, off, none⟩ : Addr).add p).add q = ⟨b, off + p + q, none⟩ := by
        intro p q; unfold Addr.add; split <;> split <;> simp_all
      refine ⟨b, off, cs', y, rfl, ?_, hy, fun j u hu => ?_⟩
      · have := World.block_lt_of_cell? w _ h0
        rw [hadd] at this
        exact this
      · have hj : j < R.k := by
          have := (List.getElem?_eq_some_iff.1 hu).1; omega
        have := hcell j (by omega)
        rw [hadd, hk] at this
        rw [this]; exact hu
    have pick : ∀ n, n ≤ len → ∃ ys : List α, ys.length = n ∧ ∀ i y, ys[i]? = some y → ∃ (b off : Nat) (es : List Value), a = ⟨b, off, none⟩ ∧ b < w.heap.size ∧ R.rel w (fun _ => True) es y ∧ ∀ j u, es[j]? = some u → w.cell? ⟨b, off + i * R.k + j, none⟩ = some u := by
      intro n
      induction n with
      | zero => intro _; exact ⟨[], rfl, fun i y hy => by simp at hy⟩
      | succ n ih =>
        intro hn'
        obtain ⟨ys, h1, h2⟩ := ih (by omega)
        obtain ⟨b, off, es, y, h3, h4, h5, h6⟩ := key n (by omega)
        refine ⟨ys ++ [y], by simp [h1], fun i z hz => ?_⟩
        rcases Nat.lt_or_ge i ys.length with hi' | hi'
        · rw [List.getElem?_append_left hi'] at hz
          exact h2 i z hz
        · have : i = n := by
            have := (List.getElem?_eq_some_iff.1 hz).1
            simp at this; omega
          subst this
          rw [← h1] at hz
          obtain rfl : y = z := by simpa using hz
          exact ⟨b, off, es, h3, h4, h5, h6⟩
    obtain ⟨ys, h1, h2⟩ := pick len (Nat.le_refl _)
    refine ⟨ys, some a, cap, by rw [h1], by omega, hm, by rw [h1]; exact hw1, fun i y hy => ?_⟩
    obtain ⟨b, off, es, h3, h4, h5, h6⟩ := h2 i y hy
    exact ⟨b, off, es, by rw [h3], trivial, h4, h5, h6⟩

theorem weights_each_mem {H : Type} : ∀ {ts : List TypeId} {ds : List (DataW H)} {j : Nat} {t : TypeId} {d : DataW H}, ts[j]? = some t → ds[j]? = some d → ∀ n ∈ d.weights P t, n ∈ DataW.weightsEach P ts ds :=
  fun ht hd n hn => DataW.weights_mem_each ht hd n hn

/-- One field of a struct: its reading, and that its parts are within the reach. -/
theorem Opens.field {H : Type} {enc : TypeId × Value → H} {w : World} {base : Nat} {sp : Nat → Bool} {held : Bool} {fuel : Nat} {cs : List Value} {x : DataW H × List MemPlace} {fs : Array Field}
    (ht : P.underlying t = some (.struct fs)) (h : DataW.trod enc P w base sp held fuel t cs = some x) (hn : ∀ n ∈ x.1.weights P t, n ≤ reachBytes) {j : Nat} {f : Field} (hf : fs[j]? = some f) (hR : Opens P R f.type) :
    ∃ a, R.rel w (fun _ => True) ((cs.drop f.offset).take (P.cellsOf f.type)) a := by
  obtain ⟨xs, n, _, hx, _, hl, hat⟩ := DataW.trod_struct ht h
  have hj : j < xs.length := by rw [hl]; exact (Array.getElem?_eq_some_iff.1 hf).1
  have h1 := hat j f hf
  rw [List.getElem?_eq_getElem hj] at h1
  refine hR enc w base sp held n _ _ h1 fun k hk => hn k ?_
  rw [hx]
  simp only [DataW.weights, ht]
  refine weights_each_mem (j := j) (t := f.type) (d := xs[j].1) ?_ ?_ k hk
  · simp [hf]
  · simp [hj]

theorem struct_len {H : Type} {enc : TypeId × Value → H} {w : World} {base : Nat} {sp : Nat → Bool} {held : Bool} {fuel : Nat} {cs : List Value} {x : DataW H × List MemPlace} {fs : Array Field}
    (ht : P.underlying t = some (.struct fs)) (h : DataW.trod enc P w base sp held fuel t cs = some x) : cs.length = P.cellsOf t := by
  obtain ⟨xs, n, _, hx, hc, hl, hat⟩ := DataW.trod_struct ht h
  exact hc

/-- A parameter of a law. -/
theorem Opens.arg {H : Type} {enc : TypeId × Value → H} (hR : Opens P R t) {ts : List TypeId} {ds : List (DataW H)} {j : Nat} {W : World} {v : Value} {d : DataW H} {p : List MemPlace} {base : Nat} {sp : Nat → Bool} {held : Bool}
    (hwt : (DataW.weightsEach P ts ds).all (· ≤ reachBytes) = true) (ht : ts[j]? = some t) (hd : ds[j]? = some d) (h : DataW.Trod enc P W base sp held t v d p) : ∃ a, R.rel W (fun _ => True) v.cells.toList a := by
  obtain ⟨fuel, hf⟩ := h
  refine hR enc W base sp held fuel _ _ hf fun n hn => ?_
  have := List.all_eq_true.1 hwt n (weights_each_mem ht hd n hn)
  simpa using this
end
end Go.Proofs.YtlopccnehgolnaaDoor

namespace Go.Proofs.YtlopccnehgolnaaDoor
open Go.RowKit Rb

theorem rg_struct : Tryd.prog.underlying 43 = some (.struct #[⟨ "Lo", 3, 0, false, "", "", 0⟩, ⟨ "Hi", 3, 1, false, "", "", 8⟩]) := by kernel_rfl
theorem open_Int : Opens Tryd.prog rInt 3 := Opens.int Tryd.underlying3
theorem open_Rg : Opens Tryd.prog rRg 43 := by
  intro H enc w base sp held fuel cs x h hn
  have hl := struct_len rg_struct h
  obtain ⟨a, ha, ia⟩ := Opens.field rg_struct h hn (j := 0) rfl open_Int
  obtain ⟨b, hb, ib⟩ := Opens.field rg_struct h hn (j := 1) rfl open_Int
  rw [show Tryd.prog.cellsOf 43 = 2 by kernel_rfl] at hl
  have hi : Tryd.prog.cellsOf 3 = 1 := by kernel_rfl
  have ha' : (cs.drop 0).take (Tryd.prog.cellsOf 3) = [.int .i64 a] := ha
  have hb' : (cs.drop 1).take (Tryd.prog.cellsOf 3) = [.int .i64 b] := hb
  rw [hi] at ha' hb'
  clear ha hb
  match cs, hl with
  | [c0, c1], _ =>
    simp at ha' hb'
    subst ha'; subst hb'
    exact ⟨(a, b), rfl, ia, ib⟩
theorem open_Rgs : Opens Tryd.prog rRgs 38 := Opens.slice Tryd.underlying38 (by kernel_rfl) (by decide) (by kernel_rfl) open_Rg

end Go.Proofs.YtlopccnehgolnaaDoor

namespace Go.Proofs.YtlopccnehgolnaaDoor
open Go.RowKit Rb

theorem open_Txt : Opens Tryd.prog rStr 9 := Opens.str Tryd.underlying9
theorem open_Bool : Opens Tryd.prog rBool 4 := Opens.bool Tryd.underlying4
theorem open_Rgs' : Opens Tryd.prog (rSl rRg) 38 := open_Rgs
theorem open_Ints : Opens Tryd.prog (rSl rInt) 26 := Opens.slice Tryd.underlying26 (by kernel_rfl) (by decide) (by kernel_rfl) open_Int
theorem open_Txts : Opens Tryd.prog (rSl rStr) 22 := Opens.slice Tryd.underlying22 (by kernel_rfl) (by decide) (by kernel_rfl) open_Txt

theorem cl_struct : Tryd.prog.underlying 40 = some (.struct (Tryd.prog.fieldsOf 40)) := by kernel_rfl
theorem cl_fields : (Tryd.prog.fieldsOf 40).toList = [⟨ "Not", 4, 0, false, "", "", 0⟩, ⟨ "Ranges", 38, 1, false, "", "", 8⟩] := by kernel_rfl
theorem open_Cl : Opens Tryd.prog rCl 40 := by
  intro H enc w base sp held fuel cs x h hn
  have hl := struct_len cl_struct h
  obtain ⟨a, ha⟩ := Opens.field cl_struct h hn (j := 0) (f := ⟨ "Not", 4, 0, false, "", "", 0⟩) (by rw [← Array.getElem?_toList, cl_fields]; rfl) open_Bool
  obtain ⟨b, hb⟩ := Opens.field cl_struct h hn (j := 1) (f := ⟨ "Ranges", 38, 1, false, "", "", 8⟩) (by rw [← Array.getElem?_toList, cl_fields]; rfl) open_Rgs'
  rw [show Tryd.prog.cellsOf 40 = 2 by kernel_rfl] at hl
  rw [show Tryd.prog.cellsOf 4 = 1 by kernel_rfl] at ha
  rw [show Tryd.prog.cellsOf 38 = 1 by kernel_rfl] at hb
  match cs, hl with
  | [c0, c1], _ =>
    have ha' : [c0] = [.bool a] := ha
    simp at ha'
    subst ha'
    exact ⟨⟨a, b⟩, c1, rfl, hb⟩
theorem open_Cls : Opens Tryd.prog (rSl rCl) 35 := Opens.slice Tryd.underlying35 (by kernel_rfl) (by decide) (by kernel_rfl) open_Cl

theorem rl_struct : Tryd.prog.underlying 37 = some (.struct (Tryd.prog.fieldsOf 37)) := by kernel_rfl
theorem rl_fields : (Tryd.prog.fieldsOf 37).toList = [⟨ "Cells", 35, 0, false, "", "", 0⟩, ⟨ "Out", 3, 1, false, "", "", 24⟩] := by kernel_rfl
theorem open_Rl : Opens Tryd.prog rRl 37 := by
  intro H enc w base sp held fuel cs x h hn
  have hl := struct_len rl_struct h
  obtain ⟨a, ha⟩ := Opens.field rl_struct h hn (j := 0) (f := ⟨ "Cells", 35, 0, false, "", "", 0⟩) (by rw [← Array.getElem?_toList, rl_fields]; rfl) open_Cls
  obtain ⟨b, hb, ib⟩ := Opens.field rl_struct h hn (j := 1) (f := ⟨ "Out", 3, 1, false, "", "", 24⟩) (by rw [← Array.getElem?_toList, rl_fields]; rfl) open_Int
  rw [show Tryd.prog.cellsOf 37 = 2 by kernel_rfl] at hl
  rw [show Tryd.prog.cellsOf 35 = 1 by kernel_rfl] at ha
  rw [show Tryd.prog.cellsOf 3 = 1 by kernel_rfl] at hb
  match cs, hl with
  | [c0, c1], _ =>
    have hb' : [c1] = [.int .i64 b] := hb
    simp at hb'
    subst hb'
    exact ⟨⟨a, b⟩, c0, rfl, ib, ha⟩
theorem open_Rls : Opens Tryd.prog (rSl rRl) 23 := Opens.slice Tryd.underlying23 (by kernel_rfl) (by decide) (by kernel_rfl) open_Rl

theorem tb_struct : Tryd.prog.underlying 25 = some (.struct (Tryd.prog.fieldsOf 25)) := by kernel_rfl
theorem tb_fields : (Tryd.prog.fieldsOf 25).toList = [⟨ "Name", 9, 0, false, "", "", 0⟩, ⟨ "Policy", 3, 1, false, "", "", 16⟩, ⟨ "Complete", 4, 2, false, "", "", 24⟩, ⟨ "Inputs", 22, 3, false, "", "", 32⟩, ⟨ "Rules", 23, 4, false, "", "", 56⟩] := by kernel_rfl
theorem open_Tb : Opens Tryd.prog rTb 25 := by
  intro H enc w base sp held fuel cs x h hn
  have hl := struct_len tb_struct h
  obtain ⟨a, ha, la⟩ := Opens.field tb_struct h hn (j := 0) (f := ⟨ "Name", 9, 0, false, "", "", 0⟩) (by rw [← Array.getElem?_toList, tb_fields]; rfl) open_Txt
  obtain ⟨b, hb, ib⟩ := Opens.field tb_struct h hn (j := 1) (f := ⟨ "Policy", 3, 1, false, "", "", 16⟩) (by rw [← Array.getElem?_toList, tb_fields]; rfl) open_Int
  obtain ⟨c, hc⟩ := Opens.field tb_struct h hn (j := 2) (f := ⟨ "Complete", 4, 2, false, "", "", 24⟩) (by rw [← Array.getElem?_toList, tb_fields]; rfl) open_Bool
  obtain ⟨d, hd⟩ := Opens.field tb_struct h hn (j := 3) (f := ⟨ "Inputs", 22, 3, false, "", "", 32⟩) (by rw [← Array.getElem?_toList, tb_fields]; rfl) open_Txts
  obtain ⟨e, he⟩ := Opens.field tb_struct h hn (j := 4) (f := ⟨ "Rules", 23, 4, false, "", "", 56⟩) (by rw [← Array.getElem?_toList, tb_fields]; rfl) open_Rls
  rw [show Tryd.prog.cellsOf 25 = 5 by kernel_rfl] at hl
  rw [show Tryd.prog.cellsOf 9 = 1 by kernel_rfl] at ha
  rw [show Tryd.prog.cellsOf 3 = 1 by kernel_rfl] at hb
  rw [show Tryd.prog.cellsOf 4 = 1 by kernel_rfl] at hc
  rw [show Tryd.prog.cellsOf 22 = 1 by kernel_rfl] at hd
  rw [show Tryd.prog.cellsOf 23 = 1 by kernel_rfl] at he
  match cs, hl with
  | [c0, c1, c2, c3, c4], _ =>
    have ha' : [c0] = [.string ⟨a.toArray⟩] := ha
    have hb' : [c1] = [.int .i64 b] := hb
    have hc' : [c2] = [.bool c] := hc
    simp at ha' hb' hc'
    subst ha' hb' hc'
    exact ⟨⟨a, b, c, d, e⟩, c3, c4, rfl, la, ib, hd, he⟩

end Go.Proofs.YtlopccnehgolnaaDoor
