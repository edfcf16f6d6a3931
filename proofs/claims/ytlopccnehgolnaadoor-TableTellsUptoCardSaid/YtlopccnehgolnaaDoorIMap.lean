
/- Maps from numbers that the call has made: what stands at each key, as a function. -/
import Derived.Test.YtlopccnehgolnaaDoorAskX
namespace Go.Proofs.YtlopccnehgolnaaDoor
open Go.RowKit Go.Maps

/-- Block b of w is a map of at most n entries from numbers; f says what stands at a key. -/
def IMap (P : Program) (k : TypeId) (w : World) (b n : Nat) (f : Int → Option Value) : Prop :=
  ∃ D : DataW Value, w.ownsMap P k rawElem b n D ∧ ∀ s z, D.atKey (.int .i64 s) (.held z) = .held ((f s).getD z)
def putI (f : Int → Option Value) (s : Int) (v : Value) : Int → Option Value := fun t => if t = s then some v else f t

section
variable {P : Program} {k : TypeId} {w w' : World} {b n : Nat} {f : Int → Option Value}
theorem IMap.made (w : World) (P : Program) (k : TypeId) : IMap P k (w.alloc (.map #[] 0)) w.heap.size 0 fun _ => none :=
  ⟨.map [], World.ownsMap_made _ _ _ _, fun _ _ => rfl⟩
theorem IMap.lt (h : IMap P k w b n f) : b < w.heap.size := by obtain ⟨D, h, _⟩ := h; exact h.lt
theorem IMap.congr {g : Int → Option Value} (h : IMap P k w b n f) (e : ∀ s, f s = g s) : IMap P k w b n g := by
  obtain rfl : f = g := funext e
  exact h
theorem key_int (hk : P.underlying k = some (.int .i64)) {s : Int} (hs : InI s) : keyOf P k (.int .i64 s) = some (.int .i64 s) := by
  unfold InI at hs
  have h1 : IntKind.i64.min = -9223372036854775808 := rfl
  have h2 : IntKind.i64.max = 9223372036854775807 := rfl
  simp [keyOf, hk, mapKey, Lit.wf, h1, h2, hs]
/-- A look-up at a number: the operation's run. -/
theorem IMap.look (hown : IMap P k w b n f) {t e : TypeId} (ht : P.underlying t = some (.map k e)) (hk : P.underlying k = some (.int .i64)) {z v : Value} (hz : (zeroValue e).run P w = .ok z w) {s : Int} (hs : InI s) (hv : (f s).getD z = v) :
    (Instr.lookup t (.map (some b)) (.int .i64 s) false).run P w = .ok v w := by
  obtain ⟨D, h1, h2⟩ := hown
  obtain ⟨u, ps, hrun, hat⟩ := h1.lookup (zd := .held z) (zp := []) (int_keyed hk) ht hz rfl (key_int hk hs)
  rw [h2 s z, hv] at hat
  simp only [rawElem, Option.some.injEq, Prod.mk.injEq, DataW.held.injEq] at hat
  obtain ⟨rfl, _⟩ := hat
  exact hrun
/-- A store at a number: the operation's run. -/
theorem IMap.update (hown : IMap P k w b n f) {t e : TypeId} (ht : P.underlying t = some (.map k e)) (hk : P.underlying k = some (.int .i64)) (hn : n < maxLen) {s : Int} (hs : InI s) (val : Value) {B : Nat} (hB : B ≤ b) :
    ∃ w', (Instr.mapUpdate t (.map (some b)) (.int .i64 s) val).run P w = .ok () w' ∧ IMap P k w' b (n + 1) (putI f s val) ∧ Below B w w' := by
  have hlt := hown.lt
  obtain ⟨D, h1, h2⟩ := hown
  have Kd := int_keyed hk
  have hkey := key_int hk hs
  obtain ⟨w', hrun, r1, r2⟩ := h1.update (d := .held val) (ps := []) Kd ht hn hkey rfl
  refine ⟨w', hrun, ⟨_, r1, fun t' z => ?_⟩, (Below.refl B w).grown r2 (by omega) fun j hj => by cases hj; exact hB⟩
  unfold putI
  by_cases hts : t' = s
  · subst hts
    rw [if_pos rfl, Maps.atKey_put_same h1.isMap (Kd.key hkey)]
    rfl
  · rw [if_neg hts, Maps.atKey_put_other (by intro h; cases h; exact hts rfl)]
    exact h2 t' z
end
end Go.Proofs.YtlopccnehgolnaaDoor
