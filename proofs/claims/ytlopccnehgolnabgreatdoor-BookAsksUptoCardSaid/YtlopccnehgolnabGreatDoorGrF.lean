/- Maps from texts that the call has made: what stands at each key, as a function. Maps from numbers that the call has made: what stands at each key, as a function. -/
import Derived.Test.YtlopccnehgolnabGreatDoorGrA
import Derived.Maps.OwnSet
namespace Go.Proofs.YtlopccnehgolnabGreatDoor
open Go.RowKit Go.Maps

/-- An element is kept as itself. -/
def rawElem (v : Value) : Option (DataW Value × List MemPlace) := some (.held v, [])

/-- Block b of w is a map of at most n entries from texts; f says what stands at a key. -/
def SMap (P : Program) (k : TypeId) (w : World) (b n : Nat) (f : List UInt8 → Option Value) : Prop :=
  ∃ D : DataW Value, w.ownsMap P k rawElem b n D ∧ ∀ s z, D.atKey (.string s) (.held z) = .held ((f s).getD z)

section
variable {P : Program} {k : TypeId} {w w' : World} {b n : Nat} {f : List UInt8 → Option Value}

theorem SMap.made (w : World) (P : Program) (k : TypeId) : SMap P k (w.alloc (.map #[] 0)) w.heap.size 0 fun _ => none :=
  ⟨.map [], World.ownsMap_made _ _ _ _, fun _ _ => rfl⟩
theorem SMap.lt (h : SMap P k w b n f) : b < w.heap.size := by obtain ⟨D, h, _⟩ := h; exact h.lt
theorem SMap.kept {row : Option Nat} (h : SMap P k w b n f) (hg : w.grownBy w' row) (hne : some b ≠ row) : SMap P k w' b n f := by
  obtain ⟨D, h1, h2⟩ := h; exact ⟨D, h1.kept hg hne, h2⟩
theorem SMap.below (h : SMap P k w b n f) (hb : Below w.heap.size w w') : SMap P k w' b n f := h.kept (Below.grownBy_ (row := none) hb) (by simp)
theorem SMap.alloc (h : SMap P k w b n f) (o : Obj) : SMap P k (w.alloc o) b n f := h.below ((Below.refl _ _).alloc (Nat.le_refl _) o)
theorem SMap.setCell (h : SMap P k w b n f) {a : Addr} (ha : b ≠ a.block) (u : Value) : SMap P k (w.setCell a u) b n f := by
  obtain ⟨D, h1, h2⟩ := h; exact ⟨D, h1.setCell ha u, h2⟩
theorem SMap.congr {g : List UInt8 → Option Value} (h : SMap P k w b n f) (e : ∀ s, f s = g s) : SMap P k w b n g := by
  obtain rfl : f = g := funext e
  exact h

theorem SMap.drew (h : SMap P k w b n f) : SMap P k w.drew b n f := h
theorem SMap.mono (h : SMap P k w b n f) {n' : Nat} (hn : n ≤ n') : SMap P k w b n' f := by obtain ⟨D, h1, h2⟩ := h; exact ⟨D, h1.mono hn, h2⟩
def putM (f : List UInt8 → Option Value) (s : List UInt8) (v : Value) : List UInt8 → Option Value := fun t => if t = s then some v else f t

theorem txt_size (s : List UInt8) : (⟨s.toArray⟩ : ByteArray).size = s.length := by simp [ByteArray.size]

theorem key_txt (hk : P.underlying k = some .string) {s : List UInt8} (hs : s.length ≤ 140737488355328) : keyOf P k (.string ⟨s.toArray⟩) = some (.string s) := by
  have h := WideMaps.keyOf_string_mk (s := ⟨s.toArray⟩) hk (by rw [txt_size]; unfold maxLen; omega)
  simpa using h

section
variable {ops : Array Oper} {rest : List Oper} {o : Oper} {a : Act} {Q : Exit → Act → World → Prop} {K : Act → World → Prop}
theorem wpList_of (hw : Region.wanted o (yielded ops a.tmps) = true) (h : ∀ K : Act → World → Prop, (∀ a w, wpList P ops Q rest a w → K a w) → o.wp P a w K Q) : wpList P ops Q (o :: rest) a w :=
  wpList_step fun K hK => by rw [if_pos hw]; exact h K hK

/-- A field of a struct's value. -/
theorem wp_field (x : Operand) (t : TypeId) (i : Nat) (hop : o.op = Op.field t x i) {cells : Array Value} {v : Value} (hx : a.eval x = .agg cells) (hr : (Instr.field t (.agg cells) i).run P w = .ok v w) (hK : K (a.put o.dst v) w) : o.wp P a w K Q := by
  unfold Oper.wp
  simp [execOp, hop, hx, hr, Result.andThen]
  exact hK
theorem wpList_field (hw : Region.wanted o (yielded ops a.tmps) = true) (x : Operand) (t : TypeId) (i : Nat) (hop : o.op = Op.field t x i) {cells : Array Value} {v : Value} (hx : a.eval x = .agg cells) (hr : (Instr.field t (.agg cells) i).run P w = .ok v w)
    (hK : wpList P ops Q rest (a.put o.dst v) w) : wpList P ops Q (o :: rest) a w := wpList_of hw fun _ h => wp_field x t i hop hx hr (h _ _ hK)

/-- A look-up at a text. -/
theorem wp_lookup_txt (m x : Operand) (t : TypeId) (hop : o.op = Op.lookup t m x false) {e : TypeId}
    (ht : P.underlying t = some (.map k e)) (hk : P.underlying k = some .string) {z v : Value} (hz : (zeroValue e).run P w = .ok z w)
    (hm : a.eval m = .map (some b)) (hown : SMap P k w b n f) {s : List UInt8} (hx : a.eval x = .string ⟨s.toArray⟩) (hs : s.length ≤ 140737488355328)
    (hv : (f s).getD z = v) (hK : K (a.put o.dst v) w) : o.wp P a w K Q := by
  obtain ⟨D, h1, h2⟩ := hown
  obtain ⟨u, ps, hrun, hat⟩ := h1.lookup (zd := .held z) (zp := []) (string_keyed hk) ht hz rfl (key_txt hk hs)
  rw [h2 s z, hv] at hat
  simp only [rawElem, Option.some.injEq, Prod.mk.injEq, DataW.held.injEq] at hat
  obtain ⟨rfl, _⟩ := hat
  unfold Oper.wp
  simp [execOp, hop, hm, hx, hrun, Result.andThen]
  exact hK
theorem wpList_lookup_txt (hw : Region.wanted o (yielded ops a.tmps) = true) (m x : Operand) (t : TypeId) (hop : o.op = Op.lookup t m x false) {e : TypeId}
    (ht : P.underlying t = some (.map k e)) (hk : P.underlying k = some .string) {z v : Value} (hz : (zeroValue e).run P w = .ok z w)
    (hm : a.eval m = .map (some b)) (hown : SMap P k w b n f) {s : List UInt8} (hx : a.eval x = .string ⟨s.toArray⟩) (hs : s.length ≤ 140737488355328)
    (hv : (f s).getD z = v) (hK : wpList P ops Q rest (a.put o.dst v) w) : wpList P ops Q (o :: rest) a w :=
  wpList_of hw fun _ h => wp_lookup_txt m x t hop ht hk hz hm hown hx hs hv (h _ _ hK)

/-- A store at a text: the operation's run. -/
theorem SMap.update (hown : SMap P k w b n f) {t e : TypeId} (ht : P.underlying t = some (.map k e)) (hk : P.underlying k = some .string) (hn : n < maxLen) {s : List UInt8} (hs : s.length ≤ 140737488355328) (val : Value) {B : Nat} (hB : B ≤ b) :
    ∃ w', (Instr.mapUpdate t (.map (some b)) (.string ⟨s.toArray⟩) val).run P w = .ok () w' ∧ SMap P k w' b (n + 1) (putM f s val) ∧ Below B w w' ∧ w.grownBy w' (some b) := by
  have hlt := hown.lt
  obtain ⟨D, h1, h2⟩ := hown
  have Kd := string_keyed hk
  have hkey := key_txt hk hs
  obtain ⟨w', hrun, r1, r2⟩ := h1.update (d := .held val) (ps := []) Kd ht hn hkey rfl
  refine ⟨w', hrun, ⟨_, r1, fun t' z => ?_⟩, (Below.refl B w).grown r2 (by omega) fun j hj => by cases hj; exact hB, r2⟩
  unfold putM
  by_cases hts : t' = s
  · subst hts
    rw [if_pos rfl, Maps.atKey_put_same h1.isMap (Kd.key hkey)]
    rfl
  · rw [if_neg hts, Maps.atKey_put_other (by intro h; cases h; exact hts rfl)]
    exact h2 t' z
/-- A store at a text. -/
theorem wp_update_txt (m x v : Operand) (t : TypeId) (hop : o.op = Op.mapUpdate t m x v) {e : TypeId}
    (ht : P.underlying t = some (.map k e)) (hk : P.underlying k = some .string)
    (hm : a.eval m = .map (some b)) (hown : SMap P k w b n f) (hn : n < maxLen) {s : List UInt8} (hx : a.eval x = .string ⟨s.toArray⟩) (hs : s.length ≤ 140737488355328)
    {val : Value} (hv : a.eval v = val) {B : Nat} (hB : B ≤ b)
    (hK : ∀ w', SMap P k w' b (n + 1) (putM f s val) → Below B w w' → w.grownBy w' (some b) → K (a.put o.dst undef) w') : o.wp P a w K Q := by
  have hlt := hown.lt
  obtain ⟨D, h1, h2⟩ := hown
  have Kd := string_keyed hk
  have hkey := key_txt hk hs
  obtain ⟨w', hrun, r1, r2⟩ := h1.update (d := .held val) (ps := []) Kd ht hn hkey rfl
  unfold Oper.wp
  simp [execOp, hop, hm, hx, hv, hrun, Result.andThen]
  refine hK w' ⟨_, r1, fun t' z => ?_⟩ ((Below.refl B w).grown r2 (by omega) fun j hj => by cases hj; exact hB) r2
  unfold putM
  by_cases hts : t' = s
  · subst hts
    rw [if_pos rfl, Maps.atKey_put_same h1.isMap (Kd.key hkey)]
    rfl
  · rw [if_neg hts, Maps.atKey_put_other (by intro h; cases h; exact hts rfl)]
    exact h2 t' z
theorem wpList_update_txt (hw : Region.wanted o (yielded ops a.tmps) = true) (m x v : Operand) (t : TypeId) (hop : o.op = Op.mapUpdate t m x v) {e : TypeId}
    (ht : P.underlying t = some (.map k e)) (hk : P.underlying k = some .string)
    (hm : a.eval m = .map (some b)) (hown : SMap P k w b n f) (hn : n < maxLen) {s : List UInt8} (hx : a.eval x = .string ⟨s.toArray⟩) (hs : s.length ≤ 140737488355328)
    {val : Value} (hv : a.eval v = val) {B : Nat} (hB : B ≤ b)
    (hK : ∀ w', SMap P k w' b (n + 1) (putM f s val) → Below B w w' → w.grownBy w' (some b) → wpList P ops Q rest (a.put o.dst undef) w') : wpList P ops Q (o :: rest) a w :=
  wpList_of hw fun _ h => wp_update_txt m x v t hop ht hk hm hown hn hx hs hv hB fun w' h1 h2 h3 => h _ _ (hK w' h1 h2 h3)
theorem step_update_txt {E : Prop} (hw : Region.wanted o (yielded ops a.tmps) = true) (m x v : Operand) (t : TypeId) (hop : o.op = Op.mapUpdate t m x v) {e : TypeId}
    (ht : P.underlying t = some (.map k e)) (hk : P.underlying k = some .string)
    (hm : a.eval m = .map (some b)) (hown : SMap P k w b n f) (hn : n < maxLen) {s : List UInt8} (hx : a.eval x = .string ⟨s.toArray⟩) (hs : s.length ≤ 140737488355328)
    {val : Value} (hv : a.eval v = val) {B : Nat} (hB : B ≤ b)
    (hK : ∀ w', SMap P k w' b (n + 1) (putM f s val) → Below B w w' → w.grownBy w' (some b) → K (a.put o.dst undef) w') : if Region.wanted o (yielded ops a.tmps) = true then Oper.wp P o a w K Q else E := by
  rw [if_pos hw]
  exact wp_update_txt m x v t hop ht hk hm hown hn hx hs hv hB hK
theorem step_lookup_txt {E : Prop} (hw : Region.wanted o (yielded ops a.tmps) = true) (m x : Operand) (t : TypeId) (hop : o.op = Op.lookup t m x false) {e : TypeId}
    (ht : P.underlying t = some (.map k e)) (hk : P.underlying k = some .string) {z v : Value} (hz : (zeroValue e).run P w = .ok z w)
    (hm : a.eval m = .map (some b)) (hown : SMap P k w b n f) {s : List UInt8} (hx : a.eval x = .string ⟨s.toArray⟩) (hs : s.length ≤ 140737488355328)
    (hv : (f s).getD z = v) (hK : K (a.put o.dst v) w) : if Region.wanted o (yielded ops a.tmps) = true then Oper.wp P o a w K Q else E := by
  rw [if_pos hw]
  exact wp_lookup_txt m x t hop ht hk hz hm hown hx hs hv hK
end
end

end Go.Proofs.YtlopccnehgolnabGreatDoor

namespace Go.Proofs.YtlopccnehgolnabGreatDoor
open Go.RowKit Go.Maps

/-- Block b of w is a map of at most n entries from numbers; f says what stands at a key. -/
def IMap (P : Program) (k : TypeId) (w : World) (b n : Nat) (f : Int → Option Value) : Prop :=
  ∃ D : DataW Value, w.ownsMap P k rawElem b n D ∧ ∀ s z, D.atKey (.int .i64 s) (.held z) = .held ((f s).getD z)
def putI (f : Int → Option Value) (s : Int) (v : Value) : Int → Option Value := fun t => if t = s then some v else f t

section
variable {P : Program} {k : TypeId} {w w' : World} {b n : Nat} {f : Int → Option Value}
theorem IMap.made (w : World) (P : Program) (k : TypeId) : IMap P k (w.alloc (.map #[] 0)) w.heap.size 0 fun _ => none :=
  ⟨.map [], World.ownsMap_made _ _ _ _, fun _ _ => rfl⟩
theorem IMap.lt (h : IMap P k w b n f) : b < w.heap.size := by obtain ⟨D, h, _⟩ := h; exact h.lt
theorem IMap.congr {g : Int → Option Value} (h : IMap P k w b n f) (e : ∀ s, f s = g s) : IMap P k w b n g := by
  obtain rfl : f = g := funext e
  exact h
theorem key_int (hk : P.underlying k = some (.int .i64)) {s : Int} (hs : InI s) : keyOf P k (.int .i64 s) = some (.int .i64 s) := by
  unfold InI at hs
  have h1 : IntKind.i64.min = -9223372036854775808 := rfl
  have h2 : IntKind.i64.max = 9223372036854775807 := rfl
  simp [keyOf, hk, mapKey, Lit.wf, h1, h2, hs]
/-- A look-up at a number: the operation's run. -/
theorem IMap.look (hown : IMap P k w b n f) {t e : TypeId} (ht : P.underlying t = some (.map k e)) (hk : P.underlying k = some (.int .i64)) {z v : Value} (hz : (zeroValue e).run P w = .ok z w) {s : Int} (hs : InI s) (hv : (f s).getD z = v) :
    (Instr.lookup t (.map (some b)) (.int .i64 s) false).run P w = .ok v w := by
  obtain ⟨D, h1, h2⟩ := hown
  obtain ⟨u, ps, hrun, hat⟩ := h1.lookup (zd := .held z) (zp := []) (int_keyed hk) ht hz rfl (key_int hk hs)
  rw [h2 s z, hv] at hat
  simp only [rawElem, Option.some.injEq, Prod.mk.injEq, DataW.held.injEq] at hat
  obtain ⟨rfl, _⟩ := hat
  exact hrun
/-- A store at a number: the operation's run. -/
theorem IMap.update (hown : IMap P k w b n f) {t e : TypeId} (ht : P.underlying t = some (.map k e)) (hk : P.underlying k = some (.int .i64)) (hn : n < maxLen) {s : Int} (hs : InI s) (val : Value) {B : Nat} (hB : B ≤ b) :
    ∃ w', (Instr.mapUpdate t (.map (some b)) (.int .i64 s) val).run P w = .ok () w' ∧ IMap P k w' b (n + 1) (putI f s val) ∧ Below B w w' := by
  have hlt := hown.lt
  obtain ⟨D, h1, h2⟩ := hown
  have Kd := int_keyed hk
  have hkey := key_int hk hs
  obtain ⟨w', hrun, r1, r2⟩ := h1.update (d := .held val) (ps := []) Kd ht hn hkey rfl
  refine ⟨w', hrun, ⟨_, r1, fun t' z => ?_⟩, (Below.refl B w).grown r2 (by omega) fun j hj => by cases hj; exact hB⟩
  unfold putI
  by_cases hts : t' = s
  · subst hts
    rw [if_pos rfl, Maps.atKey_put_same h1.isMap (Kd.key hkey)]
    rfl
  · rw [if_neg hts, Maps.atKey_put_other (by intro h; cases h; exact hts rfl)]
    exact h2 t' z
end
end Go.Proofs.YtlopccnehgolnabGreatDoor
