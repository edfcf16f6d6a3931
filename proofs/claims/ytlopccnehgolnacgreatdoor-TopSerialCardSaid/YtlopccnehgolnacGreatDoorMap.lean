import Derived.Test.YtlopccnehgolnacGreatDoorGK0
import Derived.Maps.OwnSet
namespace Go.Proofs.YtlopccnehgolnacGreatDoor
open Go.RowKit Go.Maps
def Y9k (v : Value) : Option (DataW Value × List MemPlace) := some (.held v, [])
def SMap (P : Program) (k : TypeId) (w : World) (b n : Nat) (f : List UInt8 -> Option Value) : Prop :=
 ∃ D : DataW Value, w.ownsMap P k Y9k b n D /\ ∀ s z, D.atKey (.string s) (.held z) = .held ((f s).getD z)
section
variable {P : Program} {k : TypeId} {w w' : World} {b n : Nat} {f : List UInt8 -> Option Value}
theorem SMap.made (w : World) (P : Program) (k : TypeId) : SMap P k (w.alloc (.map #[] 0)) w.heap.size 0 fun _ => none :=
 ⟨.map [], World.ownsMap_made _ _ _ _, fun _ _ => rfl⟩
theorem SMap.lt (h : SMap P k w b n f) : b < w.heap.size := by obtain ⟨D, h, _⟩ := h; exact h.lt
theorem SMap.kept {row : Option Nat} (h : SMap P k w b n f) (hg : w.grownBy w' row) (hne : some b ≠ row) : SMap P k w' b n f := by
 obtain ⟨D, h1, h2⟩ := h; exact ⟨D, h1.kept hg hne, h2⟩
theorem SMap.below (h : SMap P k w b n f) (hb : Bw w w') : SMap P k w' b n f := h.kept (Below.grownBy_ (row := none) hb) (by simp)
theorem SMap.alloc (h : SMap P k w b n f) (o : Obj) : SMap P k (w.alloc o) b n f := h.below ((L0m _ _).alloc (L0g _) o)
theorem SMap.congr {g : List UInt8 -> Option Value} (h : SMap P k w b n f) (e : ∀ s, f s = g s) : SMap P k w b n g := by
 obtain rfl : f = g := funext e
 exact h
theorem SMap.drew (h : SMap P k w b n f) : SMap P k w.drew b n f := h
def putM (f : List UInt8 -> Option Value) (s : List UInt8) (v : Value) : List UInt8 -> Option Value := fun t => if t = s then some v else f t
theorem X12 (s : List UInt8) : (⟨s.toArray⟩ : ByteArray).size = s.length := by simp [ByteArray.size]
theorem Y5b (hk : P.underlying k = some .string) {s : List UInt8} (hs : s.length <= 140737488355328) : keyOf P k (sq s) = some (.string s) := by
 have h := WideMaps.keyOf_string_mk (s := ⟨s.toArray⟩) hk (by rw [X12]; unfold maxLen; omega)
 simpa using h
section
variable {ops : Array Oper} {rest : List Oper} {o : Oper} {a : Act} {Q : Exit -> Act -> World -> Prop} {K : Act -> World -> Prop}
theorem Y0f (hw : Region.wanted o (yielded ops a.tmps) = true) (h : ∀ K : Act -> World -> Prop, (∀ a w, wpList P ops Q rest a w -> K a w) -> o.wp P a w K Q) : wpList P ops Q (o :: rest) a w :=
 wpList_step fun K hK => by rw [if_pos hw]; exact h K hK
theorem X13 (x : Operand) (t : TypeId) (i : Nat) (hop : o.op = Op.field t x i) {cells : Array Value} {v : Value} (hx : a.eval x = .agg cells) (hr : (Instr.field t (.agg cells) i).run P w = .ok v w) (hK : K (a.put o.dst v) w) : o.wp P a w K Q := by
 unfold Oper.wp
 simp [execOp, hop, hx, hr, Result.andThen]
 exact hK
theorem Z39 (hw : Region.wanted o (yielded ops a.tmps) = true) (x : Operand) (t : TypeId) (i : Nat) (hop : o.op = Op.field t x i) {cells : Array Value} {v : Value} (hx : a.eval x = .agg cells) (hr : (Instr.field t (.agg cells) i).run P w = .ok v w)
  (hK : wpList P ops Q rest (a.put o.dst v) w) : wpList P ops Q (o :: rest) a w := Y0f hw fun _ h => X13 x t i hop hx hr (h _ _ hK)
theorem Y2p (m x : Operand) (t : TypeId) (hop : o.op = Op.lookup t m x false) {e : TypeId}
  (ht : P.underlying t = some (.map k e)) (hk : P.underlying k = some .string) {z v : Value} (hz : (zeroValue e).run P w = .ok z w)
  (hm : a.eval m = .map (some b)) (hown : SMap P k w b n f) {s : List UInt8} (hx : a.eval x = sq s) (hs : s.length <= 140737488355328)
  (hv : (f s).getD z = v) (hK : K (a.put o.dst v) w) : o.wp P a w K Q := by
 obtain ⟨D, h1, h2⟩ := hown
 obtain ⟨u, ps, hrun, hat⟩ := h1.lookup (zd := .held z) (zp := []) (string_keyed hk) ht hz rfl (Y5b hk hs)
 rw [h2 s z, hv] at hat
 simp only [Y9k, L3j, Prod.mk.injEq, DataW.held.injEq] at hat
 obtain ⟨rfl, _⟩ := hat
 unfold Oper.wp
 simp [execOp, hop, hm, hx, hrun, Result.andThen]
 exact hK
theorem Z20 (hw : Region.wanted o (yielded ops a.tmps) = true) (m x : Operand) (t : TypeId) (hop : o.op = Op.lookup t m x false) {e : TypeId}
  (ht : P.underlying t = some (.map k e)) (hk : P.underlying k = some .string) {z v : Value} (hz : (zeroValue e).run P w = .ok z w)
  (hm : a.eval m = .map (some b)) (hown : SMap P k w b n f) {s : List UInt8} (hx : a.eval x = sq s) (hs : s.length <= 140737488355328)
  (hv : (f s).getD z = v) (hK : wpList P ops Q rest (a.put o.dst v) w) : wpList P ops Q (o :: rest) a w :=
 Y0f hw fun _ h => Y2p m x t hop ht hk hz hm hown hx hs hv (h _ _ hK)
theorem SMap.update (hown : SMap P k w b n f) {t e : TypeId} (ht : P.underlying t = some (.map k e)) (hk : P.underlying k = some .string) (hn : n < maxLen) {s : List UInt8} (hs : s.length <= 140737488355328) (val : Value) {B : Nat} (hB : B <= b) :
  ∃ w', (Instr.mapUpdate t (.map (some b)) (sq s) val).run P w = .ok () w' /\ SMap P k w' b (n + 1) (putM f s val) /\ Below B w w' /\ w.grownBy w' (some b) := by
 have hlt := hown.lt
 obtain ⟨D, h1, h2⟩ := hown
 have Kd := string_keyed hk
 have hkey := Y5b hk hs
 obtain ⟨w', hrun, r1, r2⟩ := h1.update (d := .held val) (ps := []) Kd ht hn hkey rfl
 refine ⟨w', hrun, ⟨_, r1, fun t' z => ?_⟩, (L0m B w).grown r2 (by omega) fun j hj => by cases hj; exact hB, r2⟩
 unfold putM
 by_cases hts : t' = s
 ·subst hts
  rw [if_pos rfl, Maps.atKey_put_same h1.isMap (Kd.key hkey)]
  rfl
 rw [if_neg hts, Maps.atKey_put_other (by intro h; cases h; exact hts rfl)]
 exact h2 t' z
theorem Y2q (m x v : Operand) (t : TypeId) (hop : o.op = Op.mapUpdate t m x v) {e : TypeId}
  (ht : P.underlying t = some (.map k e)) (hk : P.underlying k = some .string)
  (hm : a.eval m = .map (some b)) (hown : SMap P k w b n f) (hn : n < maxLen) {s : List UInt8} (hx : a.eval x = sq s) (hs : s.length <= 140737488355328)
  {val : Value} (hv : a.eval v = val) {B : Nat} (hB : B <= b)
  (hK : ∀ w', SMap P k w' b (n + 1) (putM f s val) -> Below B w w' -> w.grownBy w' (some b) -> K (a.put o.dst undef) w') : o.wp P a w K Q := by
 have hlt := hown.lt
 obtain ⟨D, h1, h2⟩ := hown
 have Kd := string_keyed hk
 have hkey := Y5b hk hs
 obtain ⟨w', hrun, r1, r2⟩ := h1.update (d := .held val) (ps := []) Kd ht hn hkey rfl
 unfold Oper.wp
 simp [execOp, hop, hm, hx, hv, hrun, Result.andThen]
 refine hK w' ⟨_, r1, fun t' z => ?_⟩ ((L0m B w).grown r2 (by omega) fun j hj => by cases hj; exact hB) r2
 unfold putM
 by_cases hts : t' = s
 ·subst hts
  rw [if_pos rfl, Maps.atKey_put_same h1.isMap (Kd.key hkey)]
  rfl
 rw [if_neg hts, Maps.atKey_put_other (by intro h; cases h; exact hts rfl)]
 exact h2 t' z
theorem Z8b (hw : Region.wanted o (yielded ops a.tmps) = true) (m x v : Operand) (t : TypeId) (hop : o.op = Op.mapUpdate t m x v) {e : TypeId}
  (ht : P.underlying t = some (.map k e)) (hk : P.underlying k = some .string)
  (hm : a.eval m = .map (some b)) (hown : SMap P k w b n f) (hn : n < maxLen) {s : List UInt8} (hx : a.eval x = sq s) (hs : s.length <= 140737488355328)
  {val : Value} (hv : a.eval v = val) {B : Nat} (hB : B <= b)
  (hK : ∀ w', SMap P k w' b (n + 1) (putM f s val) -> Below B w w' -> w.grownBy w' (some b) -> wpList P ops Q rest (a.put o.dst undef) w') : wpList P ops Q (o :: rest) a w :=
 Y0f hw fun _ h => Y2q m x v t hop ht hk hm hown hn hx hs hv hB fun w' h1 h2 h3 => h _ _ (hK w' h1 h2 h3)
end
end
