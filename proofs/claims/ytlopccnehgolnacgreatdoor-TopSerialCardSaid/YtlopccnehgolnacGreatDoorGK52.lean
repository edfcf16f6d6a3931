import Derived.Test.YtlopccnehgolnacGreatDoorGK38
import Derived.Lib.LaidU8
import Derived.LaidLaws
import Derived.Stop.LaidErr
import Derived.OpenShut
import Derived.WalkKit
import Derived.ProofKit
import Derived.SizedLaws
import Derived.Carry
import Derived.ChangeOld
import Derived.Handed
import Derived.LaidMore
import Derived.Test.YtlopccnehgolnacGreatDoorGK0
import Derived.Deep.Slices
import Derived.Test.YtlopccnehgolnacGreatDoorSpanA
import Derived.Test.YtlopccnehgolnacGreatDoorGK8
import Derived.Test.YtlopccnehgolnacGreatDoorGK41
namespace Go.Proofs.YtlopccnehgolnacGreatDoor
open Go.RowKit Rb
theorem Z8e {w : World} {n nm : String} {d : DataW Unit} (h : Lib.VarReads Tryz.prog w n (.iface nm d)) {g : Nat} {ms : Array (String × TypeId)} {t : TypeId} (hg : Tryz.prog.globalNamed n = some g) (ht : (Tryz.prog.globals[g]?).map (·.type) = some t) (hu : Tryz.prog.underlying t = some (.interface ms)) :
  ∃ tp p, w.var? Tryz.prog n = some #[.iface tp p] := by
 obtain ⟨g', t', cs, fuel, p, h1, h2, h3, h4⟩ := h
 obtain rfl := L0s (hg.symm.trans h1)
 obtain rfl := L0s (ht.symm.trans h2)
 obtain ⟨f1, u, v, e, _⟩ := iface_of_trod hu h4
 refine ⟨u, v, ?_⟩
 rw [h3]
 have : cs = #[.iface u v] := by
  obtain ⟨l⟩ := cs
  exact congrArg List.toArray e
 rw [this]
theorem Y2d {w : World} (h : Lib.VarReads Tryz.prog w "ratebook/text.policies" (.agg (pols.map fun s => .lit (.string s)))) : PolW w := by
 obtain ⟨g', t', cs, fuel, p, h1, h2, h3, h4⟩ := h
 have hg : Tryz.prog.globalNamed "ratebook/text.policies" = some 0 := by kernel_rfl
 have ht : (Tryz.prog.globals[0]?).map (·.type) = some 154 := by kernel_rfl
 obtain rfl := L0s (hg.symm.trans h1)
 obtain rfl := L0s (ht.symm.trans h2)
 have hu : Tryz.prog.underlying 154 = some (.array 8 9) := by kernel_rfl
 have hc : Tryz.prog.cellsOf 9 = 1 := by kernel_rfl
 have key : ∀ (i : Nat) (s : Txt), pols[i]? = some s -> cs[i]? = some (sq s) := by
  intro i s hs
  have hi : i < 8 := (L0n.1 hs).1
  obtain ⟨f, d, q, hd, hr⟩ := Lib.array_elem hu h4 i hi
  rw [L4l, hs] at hd
  obtain rfl := L0s hd
  rw [hc, L4w] at hr
  obtain ⟨b, e1, e2, _⟩ := DataW.trod_string Tryz.underlying9 hr
  have e3 : s = b.data.toList := by
   have := congrArg Prod.fst e2
   simpa using this
  have e4 : (⟨s.toArray⟩ : ByteArray) = b := by subst e3; simp
  have h5 : cs.toList[i]? = some (.string b) := by
   have := congrArg (·[0]?) e1
   simpa [List.getElem?_take, List.getElem?_drop] using this
  show cs[i]? = some (Value.string ⟨s.toArray⟩)
  rw [e4]
  simpa using h5
 have h0 := World.var?_cell hg h3
 refine ⟨?_, fun i s hs => (h0 i).trans (key i s hs)⟩
 exact L0d _ _ ((h0 0).trans (key 0 [] rfl))
theorem Y3x {w : World} {x y : String × DataW Unit} {s1 s2 : String} {d1 d2 : DataW Unit} {r : List (String × DataW Unit)}
  (h : laidMet Tryz.prog (x :: y :: ("internal/strconv.uint64pow10", Lib.tabData .u64 Lib.pow10Tab) :: ("strconv.ErrRange", .iface s1 d1) :: ("strconv.ErrSyntax", .iface s2 d2) :: ("ratebook/text.policies", .agg (pols.map fun s => .lit (.string s))) :: r) w) : LibW w /\ PolW w := by
 have hm := fun {n : String} {d : DataW Unit} => Lib.laidMet.reads h (n := n) (d := d)
 refine ⟨⟨?_, ?_, ?_⟩, ?_⟩
 ·exact Lib.tabIs_of_head (g := 4) (t := 232) (e := 214) (n := 20) (by kernel_rfl) (by kernel_rfl) (by kernel_rfl) (by kernel_rfl) (by kernel_rfl) (by kernel_rfl) h.tail.tail
 ·exact Z8e (hm (.tail _ (.tail _ (.tail _ (.tail _ (.head _)))))) (g := 2) (t := 132) (by kernel_rfl) (by kernel_rfl) Tryz.underlying132
 ·exact Z8e (hm (.tail _ (.tail _ (.tail _ (.head _))))) (g := 3) (t := 132) (by kernel_rfl) (by kernel_rfl) Tryz.underlying132
 exact Y2d (hm (.tail _ (.tail _ (.tail _ (.tail _ (.tail _ (.head _)))))))
end Go.Proofs.YtlopccnehgolnacGreatDoor
namespace Go.Proofs.YtlopccnehgolnacGreatDoor
open Go.ChangeShapes Go.WideShapes Go.ChangeAt Go.RowKit
open List renaming append_nil -> jA
section
variable {H : Type} {enc : TypeId × Value -> H}
theorem Z7o {P : Program} (hl : laidOutB P = true) {W W' : World} (hb : Below W.heap.size W W') : ∀ {ts : List TypeId} {vs : List Value} {ds : List (DataW H)} {ps : List MemPlace},
  (∀ t ∈ ts, P.readableRec t = true /\ t < P.types.size) -> DataW.TrodAll enc P W 0 (fun _ => true) true ts vs ds ps -> DataW.TrodAll enc P W' 0 (fun b => decide (b < W.heap.size)) true ts vs ds ps
 | [], [], [], _, _, h => h
 | t :: ts, v :: vs, d :: ds, ps, hr, h => by
  obtain ⟨p, q, h1, h2, rfl⟩ := h
  have hlt : ∀ x ∈ p, x.block < W.heap.size := by obtain ⟨m, hm⟩ := h1; exact DataW.trod_lt m _ _ _ hm
  exact ⟨p, q, Below.trod hl (hr t (by simp)).1 (hr t (by simp)).2 h1 hb hlt, Z7o hl hb (fun t ht => hr t (by simp [ht])) h2, rfl⟩
 | [], _ :: _, _, _, _, h => h.elim
 | [], [], _ :: _, _, _, h => h.elim
 | _ :: _, [], _, _, _, h => h.elim
 | _ :: _, _ :: _, [], _, _, h => h.elim
theorem Y0e {P : Program} {w : World} {base : Nat} {sp : Nat -> Bool} {held : Bool} : ∀ {ts : List TypeId} {vs : List Value} {ds : List (DataW H)} {ps : List MemPlace},
  DataW.TrodAll enc P w base sp held ts vs ds ps -> ds.length = ts.length
 | [], [], [], _, _ => rfl
 | t :: ts, v :: vs, d :: ds, ps, h => by
  obtain ⟨p, q, h1, h2, rfl⟩ := h
  simp [Y0e h2]
 | [], _ :: _, _, _, h => h.elim
 | [], [], _ :: _, _, h => h.elim
 | _ :: _, [], _, _, h => h.elim
 | _ :: _, _ :: _, [], _, h => h.elim
theorem X1d {P : Program} {fn : Func} {s : ChangeSpec} (hl : laidOutB P = true) (tb : TypeId) (hb : P.underlying tb = some .bool) (hres : fn.resultTypes = #[tb]) (hvars : s.vars = [])
  (hread : ∀ t ∈ fn.params.toList, P.readableRec t = true /\ t < P.types.size)
  (hspec : ∀ ds : List (DataW H), ds.length = fn.params.toList.length -> s.fn H ds = { results := [.lit (.bool true)], args := ds })
  {W W' : World} {args : Array Value} {ds gs : List (DataW H)} {before : List MemPlace} (hW : DataW.Whole enc P fn.params.toList s.vars false W args.toList ds gs before)
  (hbel : Below W.heap.size W W') : s.post enc P fn false true false false W args (.bool true) W' := by
 have hW' := hW
 obtain ⟨p, q, hA, hV, rfl, hz, hn⟩ := hW
 rw [hvars] at hV
 obtain ⟨rfl, rfl⟩ := trodVars_none hV
 have hs := hspec ds (Y0e hA)
 refine ⟨ds, [], p ++ [], [], p, [], hW', ?_, ?_, ?_, hbel.frame _, fun h => by cases h⟩
 ·rw [jA, hs, hres]
  exact trodAll_mk1 (shut_bool hb true)
 ·rw [jA, hs]
  exact Z7o hl hbel hread hA
 rw [jA, hs, hvars]
 rfl
structure ArgsOk (P : Program) (W : World) (base : Nat) (ts : Array TypeId) (args : Array Value) : Prop where
 say : ∀ (j : Nat) t v, ts[j]? = some t -> args[j]? = some v -> Value.okWide P W .any base t v
section
variable {P : Program} {W : World} {base : Nat} {ts : Array TypeId} {args : Array Value} {j : Nat} {t : TypeId} {v : Value}
theorem ArgsOk.slice {e : TypeId} (h : ArgsOk P W base ts args) (ht : P.underlying t = some (.slice e)) (h1 : ts[j]? = some t) (h2 : args[j]? = some v) : ∃ a len cap, v = .slice a len cap := okWide_slice ht (h.say j t v h1 h2)
theorem ArgsOk.map {k e : TypeId} (h : ArgsOk P W base ts args) (ht : P.underlying t = some (.map k e)) (h1 : ts[j]? = some t) (h2 : args[j]? = some v) : ∃ a, v = .map a := okWide_map ht (h.say j t v h1 h2)
end
end
theorem Y3v {H : Type} {enc : TypeId × Value -> H} {C : Checked} {os : Os} {f : FuncId} {fn : Func} {s : ChangeSpec} {conds : List PathCond} {X : World -> Array Value -> Prop} (hX : ∀ (w w' : World) (args : Array Value), w.heap = w'.heap -> X w args -> X w' args)
  (own : ownKnob C.prog.godebug = none) (started : os.Started) (noInit : C.prog.inits.idxOf? f = none) (hfn : C.prog.funcs[f]? = some fn)
  (hl : laidOutB C.prog = true) (tb : TypeId) (hb : C.prog.underlying tb = some .bool) (hres : fn.resultTypes = #[tb]) (hvars : s.vars = [])
  (hread : ∀ t ∈ fn.params.toList, C.prog.readableRec t = true /\ t < C.prog.types.size)
  (hspec : ∀ ds : List (DataW H), ds.length = fn.params.toList.length -> s.fn H ds = { results := [.lit (.bool true)], args := ds })
  (witness : ∃ (w : World) (tape : Tape) (i : Input), w.os = os /\ (w.forCall tape i).Shaped C.prog /\ i.vars = [] /\ Input.okWide C.prog (w.forCall tape i) .any w.heap.size f i /\
   ((s.pre enc C.prog fn conds false (w.forCall tape i).memory i.args /\ X (w.forCall tape i).memory i.args) /\ sizedMet enc C.prog fn (OpenSpec.ofChange s) false (w.forCall tape i).memory i.args) /\ Assume.holds {} C.prog (lone (Frame.enter C.prog f i.args .normal) [] (w.forCall tape i)))
  (contract : ∀ (W : World) (base : Nat) (args : Array Value) (ds : List (DataW H)) (p : List MemPlace),
   ArgsOk C.prog W base fn.params args ->
   DataW.TrodAll enc C.prog W 0 (fun _ => true) true fn.params.toList args.toList ds p ->
   (DataW.weightsEach C.prog fn.params.toList ds).all (· <= reachBytes) = true -> X W args ->
   Calls C.prog f args W fun e W' => e = .returned (.bool true) /\ Below W.heap.size W W') :
  ReturnsInHanded {} C os f .any (fun w args => (s.pre enc C.prog fn conds false w args /\ X w args) /\ sizedMet enc C.prog fn (OpenSpec.ofChange s) false w args) (s.post enc C.prog fn false true false false) := by
 refine returnsInHanded_of_change_and hX own started noInit hfn witness ?_
 intro W base args ds gs before hval hW _ hwt hx _
 have hW' := hW
 obtain ⟨p, q, hA, hV, hpq, hz, hn⟩ := hW
 have hV' := hV
 rw [hvars] at hV'
 obtain ⟨rfl, rfl⟩ := trodVars_none hV'
 have hwt' : (DataW.weightsEach C.prog fn.params.toList ds).all (· <= reachBytes) = true := by
  have : s.plain.varTypes C.prog = [] := by simp [ChangeSpec.plain, DataSpec.varTypes, hvars]
  rw [this, jA, jA] at hwt
  exact hwt
 exact (contract W base args ds p ⟨hval⟩ hA hwt' hx).mono fun e W' ⟨he, hbel⟩ => ⟨.bool true, he, X1d hl tb hb hres hvars hread hspec hW' hbel⟩
end Go.Proofs.YtlopccnehgolnacGreatDoor
namespace Go.Proofs.YtlopccnehgolnacGreatDoor
open Go.ChangeShapes Go.WideShapes Go.ChangeAt Go.RowKit Go.Deep
open Go.World renaming cell?_spot -> jA, cells?_some -> jB
def Opens {α : Type} (P : Program) (R : Rd α) (t : TypeId) : Prop :=
 ∀ {H : Type} (enc : TypeId × Value -> H) (w : World) (base : Nat) (sp : Nat -> Bool) (held : Bool) (fuel : Nat) (cs : List Value) (x : DataW H × List MemPlace),
  DataW.trod enc P w base sp held fuel t cs = some x -> (∀ n ∈ x.1.weights P t, n <= reachBytes) -> ∃ a, R.rel w (fun _ => True) cs a
section
variable {α β : Type} {P : Program} {R : Rd α} {T : Rd β} {t e : TypeId}
theorem Opens.int (ht : P.underlying t = some (.int .i64)) : Opens P rInt t := by
 intro H enc w base sp held fuel cs x h _
 obtain ⟨n, rfl, _, hw⟩ := DataW.trod_int ht h
 refine ⟨n, rfl, ?_⟩
 simp only [Lit.wf, L0t, decide_eq_true_eq, IntKind.min, IntKind.max, IntKind.signed, IntKind.bits] at hw
 unfold InI
 simp at hw
 omega
theorem Opens.str (ht : P.underlying t = some .string) : Opens P rStr t := by
 intro H enc w base sp held fuel cs x h hn
 obtain ⟨s, rfl, hx, hw⟩ := DataW.trod_string ht h
 refine ⟨s.data.toList, by simp, ?_⟩
 have := hn s.data.toList.length (by rw [hx]; simp [DataW.weights])
 unfold reachBytes at this
 omega
theorem Z51 {H : Type} : ∀ {l : List (DataW H)} {d : DataW H}, d ∈ l -> ∀ n ∈ d.weights P e, n ∈ DataW.weightsAll P e l
 | x :: l, d, hd, n, hn => by
  simp only [DataW.weightsAll, L2a]
  rcases L2o.1 hd with rfl | hd
  ·exact .inl hn
  exact .inr (Z51 hd n hn)
theorem Opens.slice (ht : P.underlying t = some (.slice e)) (hk : P.cellsOf e = R.k) (hk0 : 0 < R.k) (hb : P.bytesOf e = R.bytes) (hR : Opens P R e) : Opens P (rSl R) t := by
 intro H enc w base sp held fuel cs x h hn
 rcases open_slice ht h with ⟨rfl, _⟩ | ⟨a, len, cap, m, n, D, Pl, rfl, _, hl, hm, hmm, hx, hi⟩
 ·exact ⟨[], none, 0, rfl, L0g _, by decide, by simp, fun i x hx => by simp at hx⟩
 have hmlen : len <= m := by rw [hmm]; split <;> omega
 have hw1 : len * R.bytes <= 140737488355328 := by
  have := hn ((((List.range len).map D).length + ((List.range (m - len)).map fun j => D (len + j)).length) * P.bytesOf e) (by rw [hx]; simp [DataW.weights, ht])
  rw [hb] at this
  simp only [L1h, List.length_range] at this
  have h2 : len * R.bytes <= (len + (m - len)) * R.bytes := L1c _ (by omega)
  unfold reachBytes at this
  omega
 have key : ∀ i, i < len -> ∃ (b off : Nat) (es : List Value) (y : α), a = (zn b off) /\ b < w.heap.size /\ R.rel w (fun _ => True) es y /\ ∀ j u, es[j]? = some u -> w.cell? (zn b (off + i * R.k + j)) = some u := by
  intro i hil
  obtain ⟨cs', hc, htr⟩ := hi i (by omega)
  obtain ⟨_, hlen, hcell⟩ := jB hc
  have hwt : ∀ n ∈ (D i).weights P e, n <= reachBytes := fun n hn' => by
   refine hn n ?_
   rw [hx]
   simp only [DataW.weights, ht, L2o, L2a]
   exact .inr (.inl (Z51 (L1n.2 ⟨i, by simp [hil], rfl⟩) n hn'))
  obtain ⟨y, hy⟩ := hR enc w base sp held n cs' _ htr hwt
  have hl' : cs'.length = R.k := by rw [hlen, hk]
  have h0 : w.cell? ((a.add (i * P.cellsOf e)).add 0) = some (cs'[0]'(by omega)) := by
   rw [hcell 0 (by omega)]; exact L0f (by omega)
  obtain ⟨b, off, spot⟩ := a
  have hspot : spot = none := by
   by_cases hz : i * P.cellsOf e = 0
   ·have := jA h0
    simpa [Addr.add, hz] using this
   have h00 : 0 < i := Nat.pos_of_ne_zero (fun h => hz (by rw [h, Nat.zero_mul]))
   obtain ⟨cs0, hc0, _⟩ := hi 0 (by omega)
   obtain ⟨_, hlen0, hcell0⟩ := jB hc0
   have h1 := hcell0 0 (by omega)
   rw [L0f (by omega)] at h1
   have := jA h1
   simpa [Addr.add] using this
  subst hspot
  have hadd : ∀ p q : Nat, (((zn b off) : Addr).add p).add q = (zn b (off + p + q)) := by
   intro p q; unfold Addr.add; split <;> split <;> simp_all
  refine ⟨b, off, cs', y, rfl, ?_, hy, fun j u hu => ?_⟩
  ·have := L0d w _ h0
   rw [hadd] at this
   exact this
  have hj : j < R.k := by
   have := (L0n.1 hu).1; omega
  have := hcell j (by omega)
  rw [hadd, hk] at this
  rw [this]; exact hu
 have pick : ∀ n, n <= len -> ∃ ys : List α, ys.length = n /\ ∀ i y, ys[i]? = some y -> ∃ (b off : Nat) (es : List Value), a = (zn b off) /\ b < w.heap.size /\ R.rel w (fun _ => True) es y /\ ∀ j u, es[j]? = some u -> w.cell? (zn b (off + i * R.k + j)) = some u := by
  intro n
  induction n with
  | zero => intro _; exact ⟨[], rfl, fun i y hy => by simp at hy⟩
  | succ n ih =>
   intro hn'
   obtain ⟨ys, h1, h2⟩ := ih (by omega)
   obtain ⟨b, off, es, y, h3, h4, h5, h6⟩ := key n (by omega)
   refine ⟨ys ++ [y], by simp [h1], fun i z hz => ?_⟩
   rcases L1r i ys.length with hi' | hi'
   ·rw [L1l hi'] at hz
    exact h2 i z hz
   have : i = n := by
    have := (L0n.1 hz).1
    simp at this; omega
   subst this
   rw [<- h1] at hz
   obtain rfl : y = z := by simpa using hz
   exact ⟨b, off, es, h3, h4, h5, h6⟩
 obtain ⟨ys, h1, h2⟩ := pick len (L0g _)
 refine ⟨ys, some a, cap, by rw [h1], by omega, hm, by rw [h1]; exact hw1, fun i y hy => ?_⟩
 obtain ⟨b, off, es, h3, h4, h5, h6⟩ := h2 i y hy
 exact ⟨b, off, es, by rw [h3], trivial, h4, h5, h6⟩
theorem Z5e {H : Type} : ∀ {ts : List TypeId} {ds : List (DataW H)} {j : Nat} {t : TypeId} {d : DataW H}, ts[j]? = some t -> ds[j]? = some d -> ∀ n ∈ d.weights P t, n ∈ DataW.weightsEach P ts ds :=
 fun ht hd n hn => DataW.weights_mem_each ht hd n hn
theorem Opens.field {H : Type} {enc : TypeId × Value -> H} {w : World} {base : Nat} {sp : Nat -> Bool} {held : Bool} {fuel : Nat} {cs : List Value} {x : DataW H × List MemPlace} {fs : Array Field}
  (ht : P.underlying t = some (.struct fs)) (h : DataW.trod enc P w base sp held fuel t cs = some x) (hn : ∀ n ∈ x.1.weights P t, n <= reachBytes) {j : Nat} {f : Field} (hf : fs[j]? = some f) (hR : Opens P R f.type) :
  ∃ a, R.rel w (fun _ => True) ((cs.drop f.offset).take (P.cellsOf f.type)) a := by
 obtain ⟨xs, n, _, hx, _, hl, hat⟩ := DataW.trod_struct ht h
 have hj : j < xs.length := by rw [hl]; exact (L1v.1 hf).1
 have h1 := hat j f hf
 rw [L0f hj] at h1
 refine hR enc w base sp held n _ _ h1 fun k hk => hn k ?_
 rw [hx]
 simp only [DataW.weights, ht]
 refine Z5e (j := j) (t := f.type) (d := xs[j].1) ?_ ?_ k hk
 ·simp [hf]
 simp [hj]
theorem Y7q {H : Type} {enc : TypeId × Value -> H} {w : World} {base : Nat} {sp : Nat -> Bool} {held : Bool} {fuel : Nat} {cs : List Value} {x : DataW H × List MemPlace} {fs : Array Field}
  (ht : P.underlying t = some (.struct fs)) (h : DataW.trod enc P w base sp held fuel t cs = some x) : cs.length = P.cellsOf t := by
 obtain ⟨xs, n, _, hx, hc, hl, hat⟩ := DataW.trod_struct ht h
 exact hc
theorem Opens.arg {H : Type} {enc : TypeId × Value -> H} (hR : Opens P R t) {ts : List TypeId} {ds : List (DataW H)} {j : Nat} {W : World} {v : Value} {d : DataW H} {p : List MemPlace} {base : Nat} {sp : Nat -> Bool} {held : Bool}
  (hwt : (DataW.weightsEach P ts ds).all (· <= reachBytes) = true) (ht : ts[j]? = some t) (hd : ds[j]? = some d) (h : DataW.Trod enc P W base sp held t v d p) : ∃ a, R.rel W (fun _ => True) v.cells.toList a := by
 obtain ⟨fuel, hf⟩ := h
 refine hR enc W base sp held fuel _ _ hf fun n hn => ?_
 have := L1t.1 hwt n (Z5e ht hd n hn)
 simpa using this
end
end Go.Proofs.YtlopccnehgolnacGreatDoor
namespace Go.Proofs.YtlopccnehgolnacGreatDoor
open Go.RowKit Rb
theorem Y2c : Opens Tryz.prog rInt 3 := Opens.int Tryz.underlying3
theorem Y6g : Opens Tryz.prog rStr 9 := Opens.str Tryz.underlying9
theorem Y9d : Opens Tryz.prog (rSl rInt) 22 := Opens.slice Tryz.underlying22 (by kernel_rfl) (by decide) (by kernel_rfl) Y2c
theorem Z4k : Tryz.prog.underlying 24 = some (.struct (Tryz.prog.fieldsOf 24)) := by kernel_rfl
theorem Z5j : (Tryz.prog.fieldsOf 24).toList = [⟨ "Kind", 3, 0, false, "", "", 0⟩, ⟨ "N", 3, 1, false, "", "", 8⟩, ⟨ "Name", 9, 2, false, "", "", 16⟩, ⟨ "Text", 9, 3, false, "", "", 32⟩, ⟨ "In", 22, 4, false, "", "", 48⟩] := by kernel_rfl
theorem X3o : Opens Tryz.prog rAcn 24 := by
 intro H enc w base sp held fuel cs x h hn
 have hl := Y7q Z4k h
 obtain ⟨a, ha, ia⟩ := Opens.field Z4k h hn (j := 0) (f := ⟨ "Kind", 3, 0, false, "", "", 0⟩) (by rw [<- L1y, Z5j]; rfl) Y2c
 obtain ⟨b, hb, ib⟩ := Opens.field Z4k h hn (j := 1) (f := ⟨ "N", 3, 1, false, "", "", 8⟩) (by rw [<- L1y, Z5j]; rfl) Y2c
 obtain ⟨c, hc, lc⟩ := Opens.field Z4k h hn (j := 2) (f := ⟨ "Name", 9, 2, false, "", "", 16⟩) (by rw [<- L1y, Z5j]; rfl) Y6g
 obtain ⟨d, hd, ld⟩ := Opens.field Z4k h hn (j := 3) (f := ⟨ "Text", 9, 3, false, "", "", 32⟩) (by rw [<- L1y, Z5j]; rfl) Y6g
 obtain ⟨e, he⟩ := Opens.field Z4k h hn (j := 4) (f := ⟨ "In", 22, 4, false, "", "", 48⟩) (by rw [<- L1y, Z5j]; rfl) Y9d
 rw [show Tryz.prog.cellsOf 24 = 5 by kernel_rfl] at hl
 rw [show Tryz.prog.cellsOf 9 = 1 by kernel_rfl] at hc hd
 rw [show Tryz.prog.cellsOf 3 = 1 by kernel_rfl] at ha hb
 rw [show Tryz.prog.cellsOf 22 = 1 by kernel_rfl] at he
 match cs, hl with
 | [c0, c1, c2, c3, c4], _ =>
  have ha' : [c0] = [.int .i64 a] := ha
  have hb' : [c1] = [.int .i64 b] := hb
  have hc' : [c2] = [sq c] := hc
  have hd' : [c3] = [sq d] := hd
  simp at ha' hb' hc' hd'
  subst ha' hb' hc' hd'
  exact ⟨⟨a, b, c, d, e⟩, c4, rfl, ia, ib, lc, ld, he⟩
theorem open_Acs : Opens Tryz.prog (rSl rAcn) 44 := Opens.slice Tryz.underlying44 (by kernel_rfl) (by decide) (by kernel_rfl) X3o
theorem X08 {α : Type} {R : Rd α} {w : World} {cs : List Value} {x : α} (h : R.rel w (fun _ => True) cs x) : R.rel w (fun q => q < w.heap.size) cs x := R.mono h fun _ _ hl => hl
