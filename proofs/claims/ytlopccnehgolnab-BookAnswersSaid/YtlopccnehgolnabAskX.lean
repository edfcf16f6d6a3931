/- Maps from texts that the call has made: what stands at each key, as a function. What a table says of what is known: the contract of says. The contract of Ask. Contracts of books: a closed book that is asked. -/
import Derived.Test.YtlopccnehgolnabBase
import Derived.Maps.OwnSet
import Derived.Test.YtlopccnehgolnabBookX
import Derived.Test.YtlopccnehgolnabCheck
import Derived.Test.YtlopccnehgolnabTabT
namespace Go.Proofs.Ytlopccnehgolnab
open Go.RowKit Go.Maps

/-- An element is kept as itself. -/
def rawElem (v : Value) : Option (DataW Value × List MemPlace) := some (.held v, [])

/-- Block b of w is a map of at most n entries from texts; f says what stands at a key. -/
def SMap (P : Program) (k : TypeId) (w : World) (b n : Nat) (f : List UInt8 → Option Value) : Prop :=
  ∃ D : DataW Value, w.ownsMap P k rawElem b n D ∧ ∀ s z, D.atKey (.string s) (.held z) = .held ((f s).getD z)

section
variable {P : Program} {k : TypeId} {w w' : World} {b n : Nat} {f : List UInt8 → Option Value}

theorem SMap.made (w : World) (P : Program) (k : TypeId) : SMap P k (w.alloc (.map #[] 0)) w.heap.size 0 fun _ => none :=
  ⟨.map [], World.ownsMap_made _ _ _ _, fun _ _ => rfl⟩
theorem SMap.lt (h : SMap P k w b n f) : b < w.heap.size := by obtain ⟨D, h, _⟩ := h; exact h.lt
theorem SMap.kept {row : Option Nat} (h : SMap P k w b n f) (hg : w.grownBy w' row) (hne : some b ≠ row) : SMap P k w' b n f := by
  obtain ⟨D, h1, h2⟩ := h; exact ⟨D, h1.kept hg hne, h2⟩
theorem SMap.below (h : SMap P k w b n f) (hb : Below w.heap.size w w') : SMap P k w' b n f := h.kept (Below.grownBy_ (row := none) hb) (by simp)
theorem SMap.alloc (h : SMap P k w b n f) (o : Obj) : SMap P k (w.alloc o) b n f := h.below ((Below.refl _ _).alloc (Nat.le_refl _) o)
theorem SMap.setCell (h : SMap P k w b n f) {a : Addr} (ha : b ≠ a.block) (u : Value) : SMap P k (w.setCell a u) b n f := by
  obtain ⟨D, h1, h2⟩ := h; exact ⟨D, h1.setCell ha u, h2⟩
theorem SMap.congr {g : List UInt8 → Option Value} (h : SMap P k w b n f) (e : ∀ s, f s = g s) : SMap P k w b n g := by
  obtain rfl : f = g := funext e
  exact h

theorem SMap.drew (h : SMap P k w b n f) : SMap P k w.drew b n f := h
theorem SMap.mono (h : SMap P k w b n f) {n' : Nat} (hn : n ≤ n') : SMap P k w b n' f := by obtain ⟨D, h1, h2⟩ := h; exact ⟨D, h1.mono hn, h2⟩
def putM (f : List UInt8 → Option Value) (s : List UInt8) (v : Value) : List UInt8 → Option Value := fun t => if t = s then some v else f t

theorem txt_size (s : List UInt8) : (⟨s.toArray⟩ : ByteArray).size = s.length := by simp [ByteArray.size]

theorem key_txt (hk : P.underlying k = some .string) {s : List UInt8} (hs : s.length ≤ 140737488355328) : keyOf P k (.string ⟨s.toArray⟩) = some (.string s) := by
  have h := WideMaps.keyOf_string_mk (s := ⟨s.toArray⟩) hk (by rw [txt_size]; unfold maxLen; omega)
  simpa using h

section
variable {ops : Array Oper} {rest : List Oper} {o : Oper} {a : Act} {Q : Exit → Act → World → Prop} {K : Act → World → Prop}
theorem wpList_of (hw : Region.wanted o (yielded ops a.tmps) = true) (h : ∀ K : Act → World → Prop, (∀ a w, wpList P ops Q rest a w → K a w) → o.wp P a w K Q) : wpList P ops Q (o :: rest) a w :=
  wpList_step fun K hK => by rw [if_pos hw]; exact h K hK

/-- A field of a struct's value. -/
theorem wp_field (x : Operand) (t : TypeId) (i : Nat) (hop : o.op = Op.field t x i) {cells : Array Value} {v : Value} (hx : a.eval x = .agg cells) (hr : (Instr.field t (.agg cells) i).run P w = .ok v w) (hK : K (a.put o.dst v) w) : o.wp P a w K Q := by
  unfold Oper.wp
  simp [execOp, hop, hx, hr, Result.andThen]
  exact hK
theorem wpList_field (hw : Region.wanted o (yielded ops a.tmps) = true) (x : Operand) (t : TypeId) (i : Nat) (hop : o.op = Op.field t x i) {cells : Array Value} {v : Value} (hx : a.eval x = .agg cells) (hr : (Instr.field t (.agg cells) i).run P w = .ok v w)
    (hK : wpList P ops Q rest (a.put o.dst v) w) : wpList P ops Q (o :: rest) a w := wpList_of hw fun _ h => wp_field x t i hop hx hr (h _ _ hK)

/-- A look-up at a text. -/
theorem wp_lookup_txt (m x : Operand) (t : TypeId) (hop : o.op = Op.lookup t m x false) {e : TypeId}
    (ht : P.underlying t = some (.map k e)) (hk : P.underlying k = some .string) {z v : Value} (hz : (zeroValue e).run P w = .ok z w)
    (hm : a.eval m = .map (some b)) (hown : SMap P k w b n f) {s : List UInt8} (hx : a.eval x = .string ⟨s.toArray⟩) (hs : s.length ≤ 140737488355328)
    (hv : (f s).getD z = v) (hK : K (a.put o.dst v) w) : o.wp P a w K Q := by
  obtain ⟨D, h1, h2⟩ := hown
  obtain ⟨u, ps, hrun, hat⟩ := h1.lookup (zd := .held z) (zp := []) (string_keyed hk) ht hz rfl (key_txt hk hs)
  rw [h2 s z, hv] at hat
  simp only [rawElem, Option.some.injEq, Prod.mk.injEq, DataW.held.injEq] at hat
  obtain ⟨rfl, _⟩ := hat
  unfold Oper.wp
  simp [execOp, hop, hm, hx, hrun, Result.andThen]
  exact hK
theorem wpList_lookup_txt (hw : Region.wanted o (yielded ops a.tmps) = true) (m x : Operand) (t : TypeId) (hop : o.op = Op.lookup t m x false) {e : TypeId}
    (ht : P.underlying t = some (.map k e)) (hk : P.underlying k = some .string) {z v : Value} (hz : (zeroValue e).run P w = .ok z w)
    (hm : a.eval m = .map (some b)) (hown : SMap P k w b n f) {s : List UInt8} (hx : a.eval x = .string ⟨s.toArray⟩) (hs : s.length ≤ 140737488355328)
    (hv : (f s).getD z = v) (hK : wpList P ops Q rest (a.put o.dst v) w) : wpList P ops Q (o :: rest) a w :=
  wpList_of hw fun _ h => wp_lookup_txt m x t hop ht hk hz hm hown hx hs hv (h _ _ hK)

/-- A store at a text: the operation's run. -/
theorem SMap.update (hown : SMap P k w b n f) {t e : TypeId} (ht : P.underlying t = some (.map k e)) (hk : P.underlying k = some .string) (hn : n < maxLen) {s : List UInt8} (hs : s.length ≤ 140737488355328) (val : Value) {B : Nat} (hB : B ≤ b) :
    ∃ w', (Instr.mapUpdate t (.map (some b)) (.string ⟨s.toArray⟩) val).run P w = .ok () w' ∧ SMap P k w' b (n + 1) (putM f s val) ∧ Below B w w' ∧ w.grownBy w' (some b) := by
  have hlt := hown.lt
  obtain ⟨D, h1, h2⟩ := hown
  have Kd := string_keyed hk
  have hkey := key_txt hk hs
  obtain ⟨w', hrun, r1, r2⟩ := h1.update (d := .held val) (ps := []) Kd ht hn hkey rfl
  refine ⟨w', hrun, ⟨_, r1, fun t' z => ?_⟩, (Below.refl B w).grown r2 (by omega) fun j hj => by cases hj; exact hB, r2⟩
  unfold putM
  by_cases hts : t' = s
  · subst hts
    rw [if_pos rfl, Maps.atKey_put_same h1.isMap (Kd.key hkey)]
    rfl
  · rw [if_neg hts, Maps.atKey_put_other (by intro h; cases h; exact hts rfl)]
    exact h2 t' z
/-- A store at a text. -/
theorem wp_update_txt (m x v : Operand) (t : TypeId) (hop : o.op = Op.mapUpdate t m x v) {e : TypeId}
    (ht : P.underlying t = some (.map k e)) (hk : P.underlying k = some .string)
    (hm : a.eval m = .map (some b)) (hown : SMap P k w b n f) (hn : n < maxLen) {s : List UInt8} (hx : a.eval x = .string ⟨s.toArray⟩) (hs : s.length ≤ 140737488355328)
    {val : Value} (hv : a.eval v = val) {B : Nat} (hB : B ≤ b)
    (hK : ∀ w', SMap P k w' b (n + 1) (putM f s val) → Below B w w' → w.grownBy w' (some b) → K (a.put o.dst undef) w') : o.wp P a w K Q := by
  have hlt := hown.lt
  obtain ⟨D, h1, h2⟩ := hown
  have Kd := string_keyed hk
  have hkey := key_txt hk hs
  obtain ⟨w', hrun, r1, r2⟩ := h1.update (d := .held val) (ps := []) Kd ht hn hkey rfl
  unfold Oper.wp
  simp [execOp, hop, hm, hx, hv, hrun, Result.andThen]
  refine hK w' ⟨_, r1, fun t' z => ?_⟩ ((Below.refl B w).grown r2 (by omega) fun j hj => by cases hj; exact hB) r2
  unfold putM
  by_cases hts : t' = s
  · subst hts
    rw [if_pos rfl, Maps.atKey_put_same h1.isMap (Kd.key hkey)]
    rfl
  · rw [if_neg hts, Maps.atKey_put_other (by intro h; cases h; exact hts rfl)]
    exact h2 t' z
theorem wpList_update_txt (hw : Region.wanted o (yielded ops a.tmps) = true) (m x v : Operand) (t : TypeId) (hop : o.op = Op.mapUpdate t m x v) {e : TypeId}
    (ht : P.underlying t = some (.map k e)) (hk : P.underlying k = some .string)
    (hm : a.eval m = .map (some b)) (hown : SMap P k w b n f) (hn : n < maxLen) {s : List UInt8} (hx : a.eval x = .string ⟨s.toArray⟩) (hs : s.length ≤ 140737488355328)
    {val : Value} (hv : a.eval v = val) {B : Nat} (hB : B ≤ b)
    (hK : ∀ w', SMap P k w' b (n + 1) (putM f s val) → Below B w w' → w.grownBy w' (some b) → wpList P ops Q rest (a.put o.dst undef) w') : wpList P ops Q (o :: rest) a w :=
  wpList_of hw fun _ h => wp_update_txt m x v t hop ht hk hm hown hn hx hs hv hB fun w' h1 h2 h3 => h _ _ (hK w' h1 h2 h3)
theorem step_update_txt {E : Prop} (hw : Region.wanted o (yielded ops a.tmps) = true) (m x v : Operand) (t : TypeId) (hop : o.op = Op.mapUpdate t m x v) {e : TypeId}
    (ht : P.underlying t = some (.map k e)) (hk : P.underlying k = some .string)
    (hm : a.eval m = .map (some b)) (hown : SMap P k w b n f) (hn : n < maxLen) {s : List UInt8} (hx : a.eval x = .string ⟨s.toArray⟩) (hs : s.length ≤ 140737488355328)
    {val : Value} (hv : a.eval v = val) {B : Nat} (hB : B ≤ b)
    (hK : ∀ w', SMap P k w' b (n + 1) (putM f s val) → Below B w w' → w.grownBy w' (some b) → K (a.put o.dst undef) w') : if Region.wanted o (yielded ops a.tmps) = true then Oper.wp P o a w K Q else E := by
  rw [if_pos hw]
  exact wp_update_txt m x v t hop ht hk hm hown hn hx hs hv hB hK
theorem step_lookup_txt {E : Prop} (hw : Region.wanted o (yielded ops a.tmps) = true) (m x : Operand) (t : TypeId) (hop : o.op = Op.lookup t m x false) {e : TypeId}
    (ht : P.underlying t = some (.map k e)) (hk : P.underlying k = some .string) {z v : Value} (hz : (zeroValue e).run P w = .ok z w)
    (hm : a.eval m = .map (some b)) (hown : SMap P k w b n f) {s : List UInt8} (hx : a.eval x = .string ⟨s.toArray⟩) (hs : s.length ≤ 140737488355328)
    (hv : (f s).getD z = v) (hK : K (a.put o.dst v) w) : if Region.wanted o (yielded ops a.tmps) = true then Oper.wp P o a w K Q else E := by
  rw [if_pos hw]
  exact wp_lookup_txt m x t hop ht hk hz hm hown hx hs hv hK
end
end

end Go.Proofs.Ytlopccnehgolnab

namespace Go.Proofs.Ytlopccnehgolnab
open Go.RowKit Rb

structure An where
  name : Txt
  found : Bool
  n : Int
def an0 : An := ⟨[], false, 0⟩
def ansV (a : An) : Value := .agg #[.string ⟨a.name.toArray⟩, .bool a.found, .int .i64 a.n]
def atM (m : Txt → Option An) (s : Txt) : An := (m s).getD an0
/-- The numbers of names, if all of them say something. -/
def gotM (m : Txt → Option An) : List Txt → Option (List Int)
  | [] => some []
  | s :: l => if (atM m s).found then (gotM m l).map ((atM m s).n :: ·) else none
def saysA (m : Txt → Option An) (t : Tb) : An := match gotM m t.ins with | none => an0 | some ns => ⟨[], (saysT t ns).2.1, (saysT t ns).1⟩
theorem gotM_at {m : Txt → Option An} {l : List Txt} {k : Nat} {s : Txt} (h : l[k]? = some s) : gotM m (l.drop k) = if (atM m s).found then (gotM m (l.drop (k + 1))).map ((atM m s).n :: ·) else none := by
  rw [drop_cons h]; rfl

/-- A map of answers. -/
def MapA (w : World) (b n : Nat) (m : Txt → Option An) : Prop := SMap Try.prog 9 w b n (fun s => (m s).map ansV) ∧ ∀ s, InI (atM m s).n
theorem MapA.getD {m : Txt → Option An} (s : Txt) : ((m s).map ansV).getD (ansV an0) = ansV (atM m s) := by
  unfold atM
  cases m s <;> rfl
theorem MapA.below {w w' : World} {b n : Nat} {m : Txt → Option An} (h : MapA w b n m) (hb : Below w.heap.size w w') : MapA w' b n m := ⟨h.1.below hb, h.2⟩
theorem MapA.alloc {w : World} {b n : Nat} {m : Txt → Option An} (h : MapA w b n m) (o : Obj) : MapA (w.alloc o) b n m := ⟨h.1.alloc o, h.2⟩
theorem zeroA (w : World) : (zeroValue 57).run Try.prog w = .ok (ansV an0) w := by kernel_rfl

theorem fieldA (v0 v1 v2 : Value) (w : World) : (Instr.field 57 (.agg #[v0, v1, v2]) 0).run Try.prog w = .ok v0 w ∧ (Instr.field 57 (.agg #[v0, v1, v2]) 1).run Try.prog w = .ok v1 w ∧ (Instr.field 57 (.agg #[v0, v1, v2]) 2).run Try.prog w = .ok v2 w :=
  ⟨by kernel_rfl, by kernel_rfl, by kernel_rfl⟩

/-- Three cells are stored over. -/
theorem store3A {w : World} {q : Nat} {u0 u1 u2 : Value} (v0 v1 v2 : Value) (h0 : w.cell? ⟨q, 0, none⟩ = some u0) (h1 : w.cell? ⟨q, 1, none⟩ = some u1) (h2 : w.cell? ⟨q, 2, none⟩ = some u2) :
    ∃ W, ((w.setCell ⟨q, 0, none⟩ v0).setCell ⟨q, 1, none⟩ v1).setCell ⟨q, 2, none⟩ v2 = W ∧ (∀ B, B ≤ q → ∀ w0, Below B w0 w → Below B w0 W) ∧
      W.cell? ⟨q, 0, none⟩ = some v0 ∧ W.cell? ⟨q, 1, none⟩ = some v1 ∧ W.cell? ⟨q, 2, none⟩ = some v2 := by
  have o : ∀ (w : World) (i j : Nat) (v : Value), i ≠ j → (w.setCell ⟨q, i, none⟩ v).cell? ⟨q, j, none⟩ = w.cell? ⟨q, j, none⟩ := fun w i j v h => World.cell?_setCell_other _ _ _ _ (by simp <;> omega)
  refine ⟨_, rfl, fun B hB w0 hb => ((hb.setCell hB _).setCell hB _).setCell hB _, ?_, ?_, ?_⟩
  · rw [o _ 2 0 _ (by decide), o _ 1 0 _ (by decide)]
    exact World.cell?_setCell_same _ _ _ h0
  · rw [o _ 2 1 _ (by decide)]
    exact World.cell?_setCell_same _ _ _ ((o _ 0 1 _ (by decide)).trans h1)
  · exact World.cell?_setCell_same _ _ _ ((o _ 1 2 _ (by decide)).trans ((o _ 0 2 _ (by decide)).trans h2))

theorem Says_m {S T : Nat → Prop} {cs : List Value} {t : Tb} {u : Value} {ns : List Int} {r : Int} {o : Bool} {e : Int} (w : World) (hl : rTb.rel w S cs t) (hn : (rSl rInt).rel w T [u] ns) (h : saysT t ns = (r, o, e)) :
    Calls Try.prog 11 #[.agg cs.toArray, u] w fun x w' => x = .returned (.tuple #[.int .i64 r, .bool o, .int .i64 e]) ∧ Below w.heap.size w w' := by
  have := Says_any w hl hn
  rwa [h] at this

set_option maxRecDepth 100000 in
set_option maxHeartbeats 800000 in
theorem says_any {S : Nat → Prop} {cs : List Value} {t : Tb} {mb mn : Nat} {m : Txt → Option An} (w : World) (hl : rTb.rel w S cs t) (hm : MapA w mb mn m) :
    Calls Try.prog 36 #[.agg cs.toArray, .map (some mb)] w fun e w' => e = .returned (ansV (saysA m t)) ∧ Below w.heap.size w w' := by
  have hl' := hl
  obtain ⟨v, u, rfl, hnm, hp, hi, hr⟩ := hl
  obtain ⟨A, c, rfl, _, _, hbt, hF⟩ := rSl.elems hi
  obtain ⟨B, d, rfl, _⟩ := rSl.elems hr
  have hlt5 : t.ins.length ≤ 8796093022208 := by simp only [rStr] at hbt; omega
  obtain ⟨W1, e1, hb1, k0, k1, k2, k3, k4, f0, f1, f2, z0, z1, z2, hs1, HM1, HT1⟩ : ∃ W1, (w.alloc (.cells #[.string ⟨t.name.toArray⟩, .int .i64 t.pol, .bool t.comp, .slice A t.ins.length c, .slice B t.rules.length d] 25)).alloc (.cells #[.string ⟨#[]⟩, .bool false, .int .i64 0] 57) = W1 ∧ Hid (Below w.heap.size w W1) ∧
      W1.cell? ⟨w.heap.size, 0, none⟩ = some (.string ⟨t.name.toArray⟩) ∧ W1.cell? ⟨w.heap.size, 1, none⟩ = some (.int .i64 t.pol) ∧ W1.cell? ⟨w.heap.size, 2, none⟩ = some (.bool t.comp) ∧ W1.cell? ⟨w.heap.size, 3, none⟩ = some (.slice A t.ins.length c) ∧ W1.cell? ⟨w.heap.size, 4, none⟩ = some (.slice B t.rules.length d) ∧
      W1.cell? ⟨w.heap.size + 1, 0, none⟩ = some (.string ⟨#[]⟩) ∧ W1.cell? ⟨w.heap.size + 1, 1, none⟩ = some (.bool false) ∧ W1.cell? ⟨w.heap.size + 1, 2, none⟩ = some (.int .i64 0) ∧
      W1.frozen? ⟨w.heap.size + 1, 0, none⟩ = false ∧ W1.frozen? ⟨w.heap.size + 1, 1, none⟩ = false ∧ W1.frozen? ⟨w.heap.size + 1, 2, none⟩ = false ∧ w.heap.size + 1 < W1.heap.size ∧ Hid (MapA W1 mb mn m) ∧ Hid (rTb.rel W1 S [.string ⟨t.name.toArray⟩, .int .i64 t.pol, .bool t.comp, .slice A t.ins.length c, .slice B t.rules.length d] t) := by
    have e : (w.alloc (.cells #[.string ⟨t.name.toArray⟩, .int .i64 t.pol, .bool t.comp, .slice A t.ins.length c, .slice B t.rules.length d] 25)).heap.size = w.heap.size + 1 := by simp
    refine ⟨_, rfl, Lib.hid (((Below.refl _ _).alloc (Nat.le_refl _) _).alloc (by simp) _), (World.cell?_alloc_lt _ _ _ (by simp)).trans (World.cell?_alloc_new _ _ _ _), (World.cell?_alloc_lt _ _ _ (by simp)).trans (World.cell?_alloc_new _ _ _ _), (World.cell?_alloc_lt _ _ _ (by simp)).trans (World.cell?_alloc_new _ _ _ _), (World.cell?_alloc_lt _ _ _ (by simp)).trans (World.cell?_alloc_new _ _ _ _), (World.cell?_alloc_lt _ _ _ (by simp)).trans (World.cell?_alloc_new _ _ _ _), ?_, ?_, ?_, ?_, ?_, ?_, by simp, Lib.hid ((hm.alloc _).alloc _), Lib.hid (Rd.alloc (Rd.alloc hl' _) _)⟩ <;> rw [← e] <;> first | exact World.cell?_alloc_new _ _ _ _ | simp
  clear hl' hi hr hbt hm
  go_enter Try.func36, Try.ntmps36
  go_wp2
  clear e1
  generalize hq4 : w.heap.size + 1 = q4 at *
  have hq5 : w.heap.size ≤ q4 := by omega
  have HS0 := Lib.hid (show w.heap.size < W1.heap.size by omega)
  clear hq4
  go_loopw [5, 14] (fun o i wr => ∃ (k : Nat) (out : List Int), k ≤ t.ins.length ∧ i = .int .i64 k ∧ Own rInt 3 wr W1.heap.size (fun _ => False) o out ∧ Hid (out.length = k) ∧ Hid (gotM m t.ins = (gotM m (t.ins.drop k)).map (out ++ ·)) ∧ Hid (Below W1.heap.size W1 wr)) (fun _ i _ => t.ins.length - (intOf i).toNat)
  case atStart => exact ⟨0, [], Nat.zero_le _, rfl, Own.nil _ _ _ _ _, Lib.hid rfl, Lib.hid (by cases h : gotM m t.ins <;> simp [h]), Lib.hid (Below.refl _ _)⟩
  case round =>
    obtain ⟨k, out, hk, rfl, hown, HOL, HG, HB⟩ := hrel
    have hbw := hb1.out.trans (HB.out.mono hb1.out.size)
    have HMr := Lib.hid (HM1.out.below HB.out)
    have y0 : wr.frozen? ⟨q4, 0, none⟩ = false := (HB.out.frozen (p := ⟨q4, 0, none⟩) hs1).trans z0
    have y1 : wr.frozen? ⟨q4, 1, none⟩ = false := (HB.out.frozen (p := ⟨q4, 1, none⟩) hs1).trans z1
    have y2 : wr.frozen? ⟨q4, 2, none⟩ = false := (HB.out.frozen (p := ⟨q4, 2, none⟩) hs1).trans z2
    have p0 := (HB.out.cell (p := ⟨q4, 0, none⟩) hs1).trans f0
    have p1 := (HB.out.cell (p := ⟨q4, 1, none⟩) hs1).trans f1
    have p2 := (HB.out.cell (p := ⟨q4, 2, none⟩) hs1).trans f2
    by_cases hlt : k < t.ins.length
    · obtain ⟨bB, off, x, rfl, _, hbB, hx, hxl, g0⟩ := hF.str hlt
      rw [← hbw.cell (p := ⟨bB, _, none⟩) hbB] at g0
      have hik : (k : Int) < (t.ins.length : Int) := by omega
      have HAT := Lib.hid (gotM_at (m := m) hx)
      have HNI := Lib.hid (HMr.out.2 x)
      obtain ⟨⟨nm, fd, nn⟩, ha⟩ : ∃ a, atM m x = a := ⟨_, rfl⟩
      have HV : Hid (((m x).map ansV).getD (ansV an0) = .agg #[.string ⟨nm.toArray⟩, .bool fd, .int .i64 nn]) := Lib.hid (by rw [MapA.getD, ha]; rfl)
      have HA := Lib.hid ha
      clear hx ha hF
      cases fd
      · have HF : Hid (gotM m t.ins = none) := Lib.hid (by rw [HG.out, HAT.out, HA.out]; rfl)
        obtain ⟨W4, e4, hB4, n0, n1, n2⟩ := store3A (.string ⟨#[]⟩) (.bool false) (.int .i64 0) p0 p1 p2
        have HB4 := Lib.hid (hB4 _ hq5 _ hbw)
        clear hB4
        go_wp2_with (first | (refine wpList_field rfl (.tmp 20) 57 1 rfl rfl (fieldA _ _ _ _).2.1 ?_) | (refine wpList_field rfl (.tmp 27) 57 2 rfl rfl (fieldA _ _ _ _).2.2 ?_) | (at_lookup; go_must (refine wpList_lookup_txt rfl _ _ 53 rfl Try.underlying53 Try.underlying9 (zeroA _) rfl HMr.out.1 rfl hxl HV.out ?_)))
        refine bodyPost_ret (by simp [results, Try.results36, go_sem, n0, n1, n2]; rfl) rfl ?_
        exact ⟨by unfold saysA; rw [HF.out]; rfl, HB4.out⟩
      · have HG' : Hid (gotM m t.ins = (gotM m (t.ins.drop (k + 1))).map ((out ++ [nn]) ++ ·)) := Lib.hid (by
          rw [HG.out, HAT.out, HA.out]
          cases gotM m (t.ins.drop (k + 1)) <;> simp)
        have HBY : Hid ((out.length + 1) * rInt.bytes ≤ 140737488355328) := Lib.hid (by have := HOL.out; show (_ + 1) * 8 ≤ _; omega)
        have HNN : Hid (InI nn) := Lib.hid (by have := HNI.out; rw [HA.out] at this; exact this)
        have HOW := Lib.hid hown
        clear hown
        go_wp2_with (first | (refine wpList_field rfl (.tmp 20) 57 1 rfl rfl (fieldA _ _ _ _).2.1 ?_) | (refine wpList_field rfl (.tmp 27) 57 2 rfl rfl (fieldA _ _ _ _).2.2 ?_) | (at_lookup; go_must (refine wpList_lookup_txt rfl _ _ 53 rfl Try.underlying53 Try.underlying9 (zeroA _) rfl HMr.out.1 rfl hxl HV.out ?_)) | (at_builtin; go_must (refine wpList_append_new (R := rInt) (x := nn) el_I rfl (.tmp 24) (.tmp 29) rfl rfl HOW.out [.int .i64 nn] rfl rfl (fun _ => False) ⟨rfl, HNN.out⟩ (fun _ h => h.elim) HBY.out HB.out.size ?_); intro v9 w9 hown9 hb9 _ _))
        go_roundw
        case rel => exact ⟨k + 1, out ++ [nn], by omega, by go_num, hown9, Lib.hid (by have := HOL.out; rw [List.length_append]; simp only [List.length_cons, List.length_nil]; omega), HG', Lib.hid (HB.out.trans hb9)⟩
        case measure => simp [intOf]; omega
    · have HF : Hid (gotM m t.ins = some out) := Lib.hid (by rw [HG.out, List.drop_eq_nil_of_le (by omega)]; simp [gotM])
      obtain ⟨A9, l9, rfl⟩ := hown.value
      obtain ⟨⟨r, o, e⟩, hsy⟩ : ∃ x, saysT t out = x := ⟨_, rfl⟩
      have HSY := Lib.hid hsy
      have HTr := Lib.hid (Rd.below HT1.out HB.out)
      have HOR := Lib.hid (hown.rel (by decide))
      have c0 := (HB.out.cell (p := ⟨w.heap.size, 0, none⟩) HS0.out).trans k0
      have c1 := (HB.out.cell (p := ⟨w.heap.size, 1, none⟩) HS0.out).trans k1
      have c2 := (HB.out.cell (p := ⟨w.heap.size, 2, none⟩) HS0.out).trans k2
      have c3 := (HB.out.cell (p := ⟨w.heap.size, 3, none⟩) HS0.out).trans k3
      have c4 := (HB.out.cell (p := ⟨w.heap.size, 4, none⟩) HS0.out).trans k4
      have HQ : Hid (q4 < wr.heap.size) := Lib.hid (Nat.lt_of_lt_of_le hs1 HB.out.size)
      clear hF hsy hown
      go_wp2_with (first | (go_at_call 11; go_must ((with_reducible refine (Says_m wr HTr.out HOR.out HSY.out).mono ?_); rintro x8 w8 ⟨rfl, hb8⟩; have HB8 := Lib.hid (hbw.trans (hb8.mono hbw.size)); have x0 : w8.frozen? ⟨q4, 0, none⟩ = false := (hb8.frozen (p := ⟨q4, 0, none⟩) HQ.out).trans y0; have x1 : w8.frozen? ⟨q4, 1, none⟩ = false := (hb8.frozen (p := ⟨q4, 1, none⟩) HQ.out).trans y1; have x2 : w8.frozen? ⟨q4, 2, none⟩ = false := (hb8.frozen (p := ⟨q4, 2, none⟩) HQ.out).trans y2; have r0 := (hb8.cell (p := ⟨q4, 0, none⟩) HQ.out).trans p0; have r1 := (hb8.cell (p := ⟨q4, 1, none⟩) HQ.out).trans p1; have r2 := (hb8.cell (p := ⟨q4, 2, none⟩) HQ.out).trans p2; obtain ⟨W4, e4, hB4, n0, n1, n2⟩ := store3A (.string ⟨#[]⟩) (.bool o) (.int .i64 r) r0 r1 r2; have HB4 := Lib.hid (hB4 _ hq5 _ HB8.out); clear hB4 hb8)))
      refine bodyPost_ret (by simp [results, Try.results36, go_sem, n0, n1, n2]; rfl) rfl ?_
      exact ⟨by unfold saysA; rw [HF.out]; dsimp only; rw [HSY.out]; rfl, HB4.out⟩

end Go.Proofs.Ytlopccnehgolnab

namespace Go.Proofs.Ytlopccnehgolnab
open Go.RowKit Rb

def rAn : Rd An where
  k := 3
  bytes := 32
  rel _ _ cs x := cs = [.string ⟨x.name.toArray⟩, .bool x.found, .int .i64 x.n] ∧ x.name.length ≤ 140737488355328 ∧ InI x.n
  len h := by obtain ⟨rfl, _⟩ := h; rfl
  keep h _ := h
  mono h _ := h
  one h u hu := by
    obtain ⟨rfl, _⟩ := h
    simp at hu
    rcases hu with rfl | rfl | rfl <;> rfl
theorem el_An : ElemOf Try.prog rAn 50 57 := .mk' Try.underlying50 (z := .agg #[.string ⟨#[]⟩, .bool false, .int .i64 0]) (k := 3) (b := 32) (by kernel_rfl) rfl rfl rfl (by decide) (by decide)

def putA (m : Txt → Option An) (s : Txt) (a : An) : Txt → Option An := fun t => if t = s then some a else m t
theorem MapA.put {w : World} {b n : Nat} {m : Txt → Option An} {s : Txt} {a : An} (h : SMap Try.prog 9 w b n (putM (fun s => (m s).map ansV) s (ansV a))) (hm : ∀ s, InI (atM m s).n) (ha : InI a.n) : MapA w b n (putA m s a) := by
  refine ⟨h.congr fun t => ?_, fun t => ?_⟩
  · unfold putM putA
    split <;> rfl
  · have := hm t
    unfold atM putA at *
    split
    · exact ha
    · exact this
theorem MapA.made (w : World) : MapA (w.alloc (.map #[] 0)) w.heap.size 0 (fun _ => none) := ⟨SMap.made _ _ _, fun _ => by show InI 0; unfold InI; decide⟩
theorem MapA.mono {w : World} {b n n' : Nat} {m : Txt → Option An} (h : MapA w b n m) (hn : n ≤ n') : MapA w b n' m := ⟨h.1.mono hn, h.2⟩

/-- What the numbers for the first k domains say. -/
def knownTo (l : List Dm) (ns : List Int) : Nat → (Txt → Option An)
  | 0 => fun _ => none
  | k + 1 => match l[k]? with | some d => putA (knownTo l ns k) d.name ⟨[], true, (ns[k]?).getD 0⟩ | none => knownTo l ns k
def inOk (l : List Dm) (ns : List Int) (k : Nat) : Bool := match l[k]? with | some d => decide (d.lo ≤ (ns[k]?).getD 0) && decide ((ns[k]?).getD 0 ≤ d.hi) | none => true
def insOk (l : List Dm) (ns : List Int) : Bool := (List.range l.length).all (inOk l ns)
theorem insOk_no {l : List Dm} {ns : List Int} {k : Nat} (hk : k < l.length) (h : inOk l ns k = false) : insOk l ns = false := all_range_false hk h
def stepM (b : Bk) (m : Txt → Option An) (s : Txt) : Txt → Option An := putA m s (saysA m (tbOf (findT b.tabs s)))
/-- What is known when the first k tables in order have been asked. -/
def askedTo (b : Bk) (ns : List Int) (o : List Txt) (k : Nat) : Txt → Option An := (o.take k).foldl (stepM b) (knownTo b.doms ns b.doms.length)
def asked (b : Bk) (ns : List Int) (o : List Txt) : Txt → Option An := o.foldl (stepM b) (knownTo b.doms ns b.doms.length)
def answerOf (m : Txt → Option An) (t : Tb) : An := ⟨t.name, (atM m t.name).found, (atM m t.name).n⟩
def askB (b : Bk) (ns : List Int) : List An × Int :=
  if (checkB b).2.2 ≠ 0 then ([], (checkB b).2.2)
  else if ns.length ≠ b.doms.length then ([], 1)
  else if insOk b.doms ns = false then ([], 2)
  else (b.tabs.map (answerOf (asked b ns ((orderB b).getD []))), 0)
theorem askedTo_succ {b : Bk} {ns : List Int} {o : List Txt} {k : Nat} {s : Txt} (h : o[k]? = some s) : askedTo b ns o (k + 1) = putA (askedTo b ns o k) s (saysA (askedTo b ns o k) (tbOf (findT b.tabs s))) := by
  unfold askedTo
  rw [take_getElem? h, List.foldl_append]
  rfl

theorem saysA_in {m : Txt → Option An} {t : Tb} (h : ∀ ns, InI (saysT t ns).1) : InI (saysA m t).n := by
  unfold saysA
  split
  · show InI 0; unfold InI; decide
  · exact h _
theorem checkB_le {b : Bk} (h : (checkB b).2.2 = 0) : b.doms.length ≤ 4 ∧ b.tabs.length ≤ 4 := by
  unfold checkB at h
  split at h
  · cases h
  · omega
theorem checkB_tabs {b : Bk} (h : (checkB b).2.2 = 0) : domsOk b.doms = true ∧ tabsOk b = true := by
  unfold checkB at h
  split at h
  · cases h
  · split at h
    · cases h
    · split at h
      · cases h
      · rename_i h1 h2
        exact ⟨by simpa using h1, by simpa using h2⟩

theorem Check_at {S : Nat → Prop} {bs : List Value} {b : Bk} {nm : Txt} {l : List Int} {r : Int} (w : World) (hl : rBk.rel w S bs b) (h : checkB b = (nm, l, r)) :
    Calls Try.prog 16 #[.agg bs.toArray] w fun e w' => ∃ A c S', e = .returned (.tuple #[.string ⟨nm.toArray⟩, .slice A l.length c, .int .i64 r]) ∧ (rSl rInt).rel w' S' [.slice A l.length c] l ∧ Below w.heap.size w w' := by
  refine (Check_any w hl).mono ?_
  rintro e w' ⟨z, S', he, hz, hb⟩
  rw [h] at he hz
  obtain ⟨A, c, rfl, _⟩ := rSl.elems hz
  exact ⟨A, c, S', he, hz, hb⟩
theorem says_at {S : Nat → Prop} {cs : List Value} {t : Tb} {mb mn : Nat} {m : Txt → Option An} {a : An} (w : World) (hl : rTb.rel w S cs t) (hm : MapA w mb mn m) (h : saysA m t = a) :
    Calls Try.prog 36 #[.agg cs.toArray, .map (some mb)] w fun e w' => e = .returned (.agg #[.string ⟨a.name.toArray⟩, .bool a.found, .int .i64 a.n]) ∧ Below w.heap.size w w' := h ▸ says_any w hl hm

theorem drewB {B : Nat} {a w : World} (h : Below B a w) : Below B a w.drew := ⟨h.os, h.tape, h.output, h.size, h.block⟩
theorem goodT_tabs {b : Bk} (h : tabsOk b = true) {t : Tb} (ht : t ∈ b.tabs) : goodT t = true := tabsOk_good h t ht
theorem sayLoop_bd {pol : Int} : ∀ (l : List Int) (n B : Int), 0 ≤ B → -B ≤ n → n ≤ B → (∀ x ∈ l, -1000000 ≤ x ∧ x ≤ 1000000) → 1000000 ≤ B → -(B + 1000000 * l.length) ≤ (sayLoop pol n l).1 ∧ (sayLoop pol n l).1 ≤ B + 1000000 * l.length
  | [], n, B, h0, h1, h2, _, _ => by simp only [sayLoop, List.length_nil]; omega
  | o :: t, n, B, h0, h1, h2, h, hB => by
    have ho := h o (by simp)
    have ht : ∀ x ∈ t, -1000000 ≤ x ∧ x ≤ 1000000 := fun x hx => h x (by simp [hx])
    have k := fun n' (a1 : -(B + 1000000) ≤ n') (a2 : n' ≤ B + 1000000) => sayLoop_bd (pol := pol) t n' (B + 1000000) (by omega) (by omega) (by omega) ht (by omega)
    rw [List.length_cons]
    unfold sayLoop
    split
    · dsimp only; omega
    · split
      · split
        · dsimp only; omega
        · have := k n (by omega) (by omega); push_cast; omega
      · split
        · have := k (min n o) (by omega) (by omega); push_cast; omega
        · split
          · have := k (max n o) (by omega) (by omega); push_cast; omega
          · split
            · have := k (n + o) (by omega) (by omega); push_cast; omega
            · have := k n (by omega) (by omega); push_cast; omega
theorem saysT_in0 (ms : List Int) : InI (saysT (tbOf none) ms).1 := by
  unfold saysT
  rw [if_neg (fun h => by have := (goodT_head h.1).1; simp [tbOf, tb0] at this)]
  show InI 0; unfold InI; decide
theorem saysT_in {t : Tb} (hg : goodT t = true) (ms : List Int) : InI (saysT t ms).1 := by
  have h6 := goodT_head hg
  have hml : (matchesL t.rules ms).length ≤ 6 := Nat.le_trans (matchesTo_len _ _ _) h6.2.2.2.2.2
  unfold saysT
  split
  · unfold sayL
    split
    · show InI _; unfold InI; omega
    · split
      · show InI 0; unfold InI; decide
      · rename_i o os he
        have hall : ∀ x ∈ o :: os, -1000000 ≤ x ∧ x ≤ 1000000 := by
          rw [← he]
          intro x hx
          rw [List.mem_map] at hx
          obtain ⟨i, hi, rfl⟩ := hx
          obtain ⟨k, rfl, hk⟩ := matchesL_lt hi
          unfold outAt
          rw [Int.toNat_natCast, List.getElem?_eq_getElem hk]
          exact goodT_out hg (List.getElem_mem hk)
        have hl : (o :: os).length ≤ 6 := by rw [← he, List.length_map]; exact hml
        rw [List.length_cons] at hl
        have := sayLoop_bd (pol := t.pol) os o 1000000 (by omega) (hall o (by simp)).1 (hall o (by simp)).2 (fun x hx => hall x (by simp [hx])) (by omega)
        show InI _; unfold InI; omega
  · show InI 0; unfold InI; decide
theorem Own.flat_set {α : Type} {R : Rd α} {e : TypeId} {w : World} {base : Nat} {S0 : Nat → Prop} {v : Value} {xs : List α} (h : Own R e w base S0 v xs) (hF : Flat R) {a : Addr} (ha : ∀ g, v.ownBlock = some g → g ≠ a.block) (u : Value) : Own R e (w.setCell a u) base (fun _ => False) v xs := by
  obtain ⟨S, ⟨cells, h1, h2, h3, h4⟩, h5⟩ := h.flat hF
  have hg : w.grownBy (w.setCell a u) (some a.block) := ⟨rfl, rfl, rfl, by simp [World.setCell], fun i _ hi => Below.heap_setCell w a u i (fun e => hi (by rw [e]))⟩
  refine ⟨fun _ => False, ⟨cells, h1.kept hg ?_, fun _ _ h => h, h3, fun i x hx => hF _ _ _ _ _ _ (h4 i x hx)⟩, fun _ h => h.elim⟩
  cases hv : v.ownBlock with
  | none => exact .inl rfl
  | some g => exact .inr (fun e => ha g hv (by injection e))

def askPost (b : Bk) (ns : List Int) (w : World) (e : Ending) (w' : World) : Prop := ∃ z S', e = .returned (.tuple #[z, .int .i64 (askB b ns).2]) ∧ (rSl rAn).rel w' S' [z] (askB b ns).1 ∧ Below w.heap.size w w'
theorem ans_nil (w : World) : (rSl rAn).rel w (fun _ => True) [.slice none 0 0] [] := ⟨none, 0, rfl, Nat.le_refl _, by decide, by simp, fun i x hx => by simp at hx⟩

set_option maxRecDepth 100000 in
set_option maxHeartbeats 1600000 in
theorem Ask_any {S T : Nat → Prop} {bs : List Value} {b : Bk} {u : Value} {ns : List Int} (w : World) (hl : rBk.rel w S bs b) (hn : (rSl rInt).rel w T [u] ns) :
    Calls Try.prog 19 #[.agg bs.toArray, u] w fun e w' => askPost b ns w e w' := by
  have hl' := hl
  obtain ⟨v0, u0, rfl, hd, htb⟩ := hl
  obtain ⟨A, c, rfl, _, _, hbd, hD⟩ := rSl.elems hd
  obtain ⟨B, d, rfl, _, _, hbt, hF⟩ := rSl.elems htb
  obtain ⟨C, g, rfl, _, _, hbn, hN⟩ := rSl.elems hn
  have hld : b.doms.length ≤ 4398046511104 := by simp only [rDm] at hbd; omega
  have hlt5 : b.tabs.length ≤ 1759218604441 := by simp only [rTb] at hbt; omega
  have hln : ns.length ≤ 17592186044416 := by simp only [rInt] at hbn; omega
  obtain ⟨W0, e0, HB0, c0, c1, hs0, HBK⟩ : ∃ W0, w.alloc (.cells #[.slice A b.doms.length c, .slice B b.tabs.length d] 46) = W0 ∧ Hid (Below w.heap.size w W0) ∧ W0.cell? ⟨w.heap.size, 0, none⟩ = some (.slice A b.doms.length c) ∧ W0.cell? ⟨w.heap.size, 1, none⟩ = some (.slice B b.tabs.length d) ∧ w.heap.size < W0.heap.size ∧ Hid (rBk.rel W0 S [.slice A b.doms.length c, .slice B b.tabs.length d] b) :=
    ⟨_, rfl, Lib.hid ((Below.refl _ _).alloc (Nat.le_refl _) _), World.cell?_alloc_new _ _ _ _, World.cell?_alloc_new _ _ _ _, by simp, Lib.hid (Rd.alloc hl' _)⟩
  have HD := Lib.hid hD
  have HF := Lib.hid hF
  have HN := Lib.hid hN
  clear hl' hd htb hbd hbt hbn hn hD hF hN
  have HZ : Hid (∀ (e : Ending) (w' : World) (r : Int), askB b ns = ([], r) → e = .returned (.tuple #[.slice none 0 0, .int .i64 r]) → Below W0.heap.size W0 w' → askPost b ns w e w') := Lib.hid (by
    rintro e w' r h rfl h2
    exact ⟨_, _, by rw [h], by rw [h]; exact ans_nil _, HB0.out.trans (h2.mono HB0.out.size)⟩)
  obtain ⟨⟨nm, at_, er⟩, hck⟩ : ∃ x, checkB b = x := ⟨_, rfl⟩
  have HCK := Lib.hid hck
  have hmm := @run_makeMap Try.prog
  go_enter Try.func19, Try.ntmps19
  by_cases her : er = 0
  · subst her
    have HC0 : Hid ((checkB b).2.2 = 0) := Lib.hid (by rw [hck])
    have HL := Lib.hid (checkB_le HC0.out)
    have HTO := Lib.hid (checkB_tabs HC0.out)
    have HA1 : Hid (askB b ns = if ns.length ≠ b.doms.length then ([], 1) else if insOk b.doms ns = false then ([], 2) else (b.tabs.map (answerOf (asked b ns ((orderB b).getD []))), 0)) := Lib.hid (by unfold askB; rw [if_neg (by rw [HC0.out]; simp)])
    clear hck
    by_cases hne : ns.length = b.doms.length
    · have HNE := Lib.hid hne
      have hq1 : ((ns.length : Int) == (b.doms.length : Int)) = true := by simp [hne]
      have hq2 : (ns.length == b.doms.length) = true := by simp [hne]
      have HA2 := Lib.hid (HA1.out.trans (if_neg (by rw [hne]; simp)))
      clear hne HA1
      go_wp2_with (first | (go_at_call 16; go_must ((with_reducible refine (Check_at W0 HBK.out HCK.out).mono ?_); rintro e w1 ⟨Ak, ck, Sk, rfl, _, hb1⟩; have HB1 := Lib.hid hb1; have d0 := (hb1.cell (p := ⟨w.heap.size, 0, none⟩) hs0).trans c0; have d1 := (hb1.cell (p := ⟨w.heap.size, 1, none⟩) hs0).trans c1; clear hb1; obtain ⟨WM, eM, HBM, HMA, m0, HMb⟩ : ∃ WM, w1.alloc (.map #[] 0) = WM ∧ Hid (Below W0.heap.size W0 WM) ∧ Hid (MapA WM w1.heap.size 0 (knownTo b.doms ns 0)) ∧ WM.cell? ⟨w.heap.size, 0, none⟩ = some (.slice A b.doms.length c) ∧ Hid (W0.heap.size ≤ w1.heap.size) := ⟨_, rfl, Lib.hid (HB1.out.alloc HB1.out.size _), Lib.hid (MapA.made _), (World.cell?_alloc_lt _ _ _ (Nat.lt_of_lt_of_le hs0 HB1.out.size)).trans d0, Lib.hid HB1.out.size⟩)))
      clear d0 d1 m0 eM hq1 hq2 e0
      generalize hmb : w1.heap.size = mb at *
      clear hmb
      go_loopw [41] (fun i wr => ∃ (k n : Nat), k ≤ b.doms.length ∧ i = .int .i64 k ∧ Hid (MapA wr mb n (knownTo b.doms ns k)) ∧ Hid (n ≤ k) ∧ Hid (∀ j, j < k → inOk b.doms ns j = true) ∧ Hid (Below W0.heap.size W0 wr)) (fun i _ => b.doms.length - (intOf i).toNat)
      case atStart => exact ⟨0, 0, Nat.zero_le _, rfl, HMA, Lib.hid (Nat.le_refl _), Lib.hid (by omega), HBM⟩
      case round =>
        obtain ⟨k, n, hk, rfl, HM, Hn, HK, HB⟩ := hrel
        by_cases hlt : k < b.doms.length
        · obtain ⟨bB, off, x, rfl, hbB, hx, ⟨hxl, hxi⟩, g0, g1, g2⟩ := HD.out.dm hlt
          obtain ⟨q, off', v, rfl, _, hq, hy, hyi, h3⟩ := HN.out.intAt (show k < ns.length by rw [HNE.out]; exact hlt)
          have hbw := HB0.out.trans (HB.out.mono HB0.out.size)
          rw [← hbw.cell (p := ⟨bB, _, none⟩) hbB] at g0 g1 g2
          rw [← hbw.cell (p := ⟨q, _, none⟩) hq] at h3
          have hik : (k : Int) < (b.doms.length : Int) := by omega
          have hin : (k : Int) < (ns.length : Int) := by rw [HNE.out]; exact hik
          have HIK : Hid (inOk b.doms ns k = (decide (x.lo ≤ v) && decide (v ≤ x.hi))) := Lib.hid (by unfold inOk; rw [hx, hy]; rfl)
          have HKN : Hid (knownTo b.doms ns (k + 1) = putA (knownTo b.doms ns k) x.name ⟨[], true, v⟩) := Lib.hid (by rw [knownTo, hx, hy]; rfl)
          obtain ⟨W3, e3, HB3, j0, j1, j2, h4, hqs, hws, HM3⟩ : ∃ W3, wr.alloc (.cells #[.string ⟨x.name.toArray⟩, .int .i64 x.lo, .int .i64 x.hi] 55) = W3 ∧ Hid (Below W0.heap.size W0 W3) ∧ W3.cell? ⟨wr.heap.size, 0, none⟩ = some (.string ⟨x.name.toArray⟩) ∧ W3.cell? ⟨wr.heap.size, 1, none⟩ = some (.int .i64 x.lo) ∧ W3.cell? ⟨wr.heap.size, 2, none⟩ = some (.int .i64 x.hi) ∧ W3.cell? ⟨q, off' + k, none⟩ = some (.int .i64 v) ∧ q < W3.heap.size ∧ wr.heap.size < W3.heap.size ∧ Hid (MapA W3 mb n (knownTo b.doms ns k)) :=
            ⟨_, rfl, Lib.hid (HB.out.alloc HB.out.size _), World.cell?_alloc_new _ _ _ _, World.cell?_alloc_new _ _ _ _, World.cell?_alloc_new _ _ _ _, (World.cell?_alloc_lt _ _ _ (Nat.lt_of_lt_of_le hq hbw.size)).trans h3, Nat.lt_of_lt_of_le (Nat.lt_of_lt_of_le hq hbw.size) (by simp), by simp, Lib.hid (HM.out.alloc _)⟩
          have HYI := Lib.hid hyi
          clear hx hy hyi hbw hq
          by_cases h1 : v < x.lo
          · have hd1 : decide (v < x.lo) = true := decide_eq_true h1
            have HC : Hid (askB b ns = ([], 2)) := Lib.hid (by rw [HA2.out, if_pos (insOk_no hlt (by rw [HIK.out, decide_eq_false (by omega)]; rfl))])
            clear h1
            go_wp2
            refine wp_region_quiet_below (by kernel_rfl) (by kernel_rfl) ?_
            repeat (go_big_quiet_step (fail))
            refine wpQuiet_nil ?_
            intro _ hw'
            obtain ⟨⟨dq, osq⟩, hw''⟩ := hw'
            subst hw''
            go_wp2
            go_ret2
            exact HZ.out _ _ _ HC.out rfl (HB3.out.trans ((below_regrown _ _ _).mono HB3.out.size))
          · by_cases h2 : x.hi < v
            · have hd1 : decide (v < x.lo) = false := decide_eq_false h1
              have hd2 : decide (x.hi < v) = true := decide_eq_true h2
              have HC : Hid (askB b ns = ([], 2)) := Lib.hid (by rw [HA2.out, if_pos (insOk_no hlt (by rw [HIK.out, decide_eq_false (show ¬ v ≤ x.hi by omega)]; simp))])
              clear h1 h2
              go_wp2
              refine wp_region_quiet_below (by kernel_rfl) (by kernel_rfl) ?_
              repeat (go_big_quiet_step (fail))
              refine wpQuiet_nil ?_
              intro _ hw'
              obtain ⟨⟨dq, osq⟩, hw''⟩ := hw'
              subst hw''
              go_wp2
              go_ret2
              exact HZ.out _ _ _ HC.out rfl (HB3.out.trans ((below_regrown _ _ _).mono HB3.out.size))
            · have hd1 : decide (v < x.lo) = false := decide_eq_false h1
              have hd2 : decide (x.hi < v) = false := decide_eq_false h2
              have HS := Lib.hid (upto_step HK.out (by rw [HIK.out, decide_eq_true (show x.lo ≤ v by omega), decide_eq_true (show v ≤ x.hi by omega)]; rfl))
              clear h1 h2
              go_wp2
              refine wp_region_quiet_below (by kernel_rfl) (by kernel_rfl) ?_
              repeat (go_big_quiet_step (fail))
              refine wpQuiet_nil ?_
              intro _ hw'
              obtain ⟨⟨dq, osq⟩, hw''⟩ := hw'
              subst hw''
              obtain ⟨W4, e4, HB4, a0, a4, HM4⟩ : ∃ W4, Go.Sort.grow (redrawn W3 dq) osq = W4 ∧ Hid (Below W0.heap.size W0 W4) ∧ W4.cell? ⟨wr.heap.size, 0, none⟩ = some (.string ⟨x.name.toArray⟩) ∧ W4.cell? ⟨q, off' + k, none⟩ = some (.int .i64 v) ∧ Hid (MapA W4 mb n (knownTo b.doms ns k)) :=
                ⟨_, rfl, Lib.hid (HB3.out.trans ((below_regrown _ _ _).mono HB3.out.size)), ((below_regrown W3 dq osq).cell (p := ⟨wr.heap.size, 0, none⟩) hws).trans j0, ((below_regrown W3 dq osq).cell (p := ⟨q, _, none⟩) hqs).trans h4, Lib.hid (HM3.out.below (below_regrown _ _ _))⟩
              obtain ⟨W5, e5, hM5, hb5, hg5⟩ := SMap.update (B := W0.heap.size) (t := 53) HM4.out.1.drew Try.underlying53 Try.underlying9 (by have := Hn.out; unfold maxLen; omega) hxl (.agg #[.string ⟨#[]⟩, .bool true, .int .i64 v]) HMb.out
              have HM5 : Hid (MapA W5 mb (n + 1) (knownTo b.doms ns (k + 1))) := Lib.hid (by rw [HKN.out]; exact MapA.put hM5 HM4.out.2 HYI.out)
              have HB5 := Lib.hid ((drewB HB4.out).trans hb5)
              clear hM5 hb5 hg5
              rw [e4]
              go_wp2
              go_region
              all_goals
                go_wp2
                go_roundw
                case rel => exact ⟨k + 1, n + 1, by omega, by go_num, HM5, Lib.hid (by have := Hn.out; omega), HS, HB5⟩
                case measure => simp [intOf]; omega
        · have HIO : Hid (insOk b.doms ns = true) := Lib.hid (all_range_true hlt HK.out)
          have HA3 := Lib.hid (HA2.out.trans (if_neg (by rw [HIO.out]; decide)))
          obtain rfl : k = b.doms.length := by omega
          clear HK HA2 hk
          obtain ⟨w2, hw2⟩ : ∃ x, x = wr := ⟨_, rfl⟩
          subst hw2
          have f0 := (HB.out.cell (p := ⟨w.heap.size, 0, none⟩) hs0).trans c0
          have f1 := (HB.out.cell (p := ⟨w.heap.size, 1, none⟩) hs0).trans c1
          have HBK2 := Lib.hid (Rd.below HBK.out HB.out)
          obtain ⟨oo, hoo⟩ : ∃ o, orderB b = o := ⟨_, rfl⟩
          have HOO := Lib.hid hoo
          obtain ⟨o, ho⟩ : ∃ x, oo.getD [] = x := ⟨_, rfl⟩
          have HO := Lib.hid ho
          clear hoo ho
          go_wp2_with (first | (go_at_call 20; go_must ((with_reducible refine (Order_at w2 HBK2.out HOO.out).mono ?_); rintro e wo ⟨zo, rfl, hzo, hbo⟩; obtain ⟨HB9, HM9, HR9⟩ : Hid (Below W0.heap.size W0 wo) ∧ Hid (MapA wo mb n (knownTo b.doms ns b.doms.length)) ∧ Hid ((rSl rStr).rel wo (Up (fun _ => False) w2.heap.size) [zo] o) := ⟨Lib.hid (HB.out.trans (hbo.mono HB.out.size)), Lib.hid (HM.out.below hbo), Lib.hid (by rw [← HO.out]; exact hzo)⟩; clear hzo hbo; have hro := HR9.out; obtain ⟨Ao, co, rfl, _, _, hbyo, _⟩ := rSl.elems hro; clear hro)))
          clear f0 f1 hlt
          have hlo : o.length ≤ 8796093022208 := by simp only [rStr] at hbyo; omega
          clear hbyo
          have Hmb := Lib.hid (show mb < w2.heap.size from HM.out.1.lt)
          generalize hN2 : w2.heap.size = N2 at *
          clear hN2
          go_loopw [78] (fun i wr => ∃ (k n : Nat), k ≤ o.length ∧ i = .int .i64 k ∧ Hid (MapA wr mb n (askedTo b ns o k)) ∧ Hid (n ≤ k + 4) ∧ Hid ((rSl rStr).rel wr (Up (fun _ => False) N2) [.slice Ao o.length co] o) ∧ Hid (Below W0.heap.size W0 wr)) (fun i _ => o.length - (intOf i).toNat)
          case atStart => exact ⟨0, n, Nat.zero_le _, rfl, HM9, Lib.hid (by have := Hn.out; have := HL.out.1; omega), HR9, HB9⟩
          case round =>
            obtain ⟨k, n', hk, rfl, HM, Hn', HR, HB⟩ := hrel
            by_cases hlt : k < o.length
            · obtain ⟨_, _, hA0, _, _, _, hE⟩ := rSl.elems HR.out
              obtain ⟨rfl, rfl⟩ : Ao = _ ∧ co = _ := by injection hA0 with h1 h2 h3; exact ⟨h1, h3⟩
              obtain ⟨q, off, s, rfl, hSq, hq, hx, hxl, g0⟩ := hE.str hlt
              have hik : (k : Int) < (o.length : Int) := by omega
              have HST := Lib.hid (askedTo_succ (b := b) (ns := ns) hx)
              obtain ⟨tb, htb⟩ : ∃ x, tbOf (findT b.tabs s) = x := ⟨_, rfl⟩
              obtain ⟨ft, hft⟩ : ∃ x, (findT b.tabs s).isSome = x := ⟨_, rfl⟩
              have HT := Lib.hid htb
              have HF2 := Lib.hid hft
              obtain ⟨a, ha⟩ : ∃ a, saysA (askedTo b ns o k) tb = a := ⟨_, rfl⟩
              have HSA := Lib.hid ha
              have HAI : Hid (InI a.n) := Lib.hid (by
                rw [← ha]
                refine saysA_in fun ms => ?_
                rw [← htb]
                cases hf : findT b.tabs s with
                | none => exact saysT_in0 _
                | some t => exact saysT_in (goodT_tabs HTO.out.2 (List.mem_of_find?_eq_some hf)) _)
              have f0 := (HB.out.cell (p := ⟨w.heap.size, 0, none⟩) hs0).trans c0
              have f1 := (HB.out.cell (p := ⟨w.heap.size, 1, none⟩) hs0).trans c1
              have HBK2 := Lib.hid (Rd.below HBK.out HB.out)
              clear hx hE hA0 htb hft ha
              go_wp2_with (first | (go_at_call 21; go_must ((with_reducible refine (FindTable_at wr HBK2.out hxl HT.out HF2.out).mono ?_); rintro e w4 ⟨A5, c5, B5, d5, S5, rfl, hr5, hb4⟩; obtain ⟨W5, e5, HB5, j50, j51, j52, j53, j54, HR5, HM5, HO5⟩ : ∃ W5, w4.alloc (.cells #[.string ⟨tb.name.toArray⟩, .int .i64 tb.pol, .bool tb.comp, .slice A5 tb.ins.length c5, .slice B5 tb.rules.length d5] 25) = W5 ∧ Hid (Below W0.heap.size W0 W5) ∧ W5.cell? ⟨w4.heap.size, 0, none⟩ = some (.string ⟨tb.name.toArray⟩) ∧ W5.cell? ⟨w4.heap.size, 1, none⟩ = some (.int .i64 tb.pol) ∧ W5.cell? ⟨w4.heap.size, 2, none⟩ = some (.bool tb.comp) ∧ W5.cell? ⟨w4.heap.size, 3, none⟩ = some (.slice A5 tb.ins.length c5) ∧ W5.cell? ⟨w4.heap.size, 4, none⟩ = some (.slice B5 tb.rules.length d5) ∧ Hid (rTb.rel W5 S5 [.string ⟨tb.name.toArray⟩, .int .i64 tb.pol, .bool tb.comp, .slice A5 tb.ins.length c5, .slice B5 tb.rules.length d5] tb) ∧ Hid (MapA W5 mb n' (askedTo b ns o k)) ∧ Hid ((rSl rStr).rel W5 (Up (fun _ => False) N2) [.slice (some ⟨q, off, none⟩) o.length co] o) := ⟨_, rfl, Lib.hid ((HB.out.trans (hb4.mono HB.out.size)).alloc (Nat.le_trans HB.out.size hb4.size) _), World.cell?_alloc_new _ _ _ _, World.cell?_alloc_new _ _ _ _, World.cell?_alloc_new _ _ _ _, World.cell?_alloc_new _ _ _ _, World.cell?_alloc_new _ _ _ _, Lib.hid (Rd.alloc hr5 _), Lib.hid ((HM.out.below hb4).alloc _), Lib.hid (Rd.alloc (Rd.below HR.out hb4) _)⟩; clear hr5 hb4))| (go_at_call 36; go_must ((with_reducible refine (says_at W5 HR5.out HM5.out HSA.out).mono ?_); rintro e w6 ⟨rfl, hb6⟩; have HM6 := Lib.hid (HM5.out.below hb6); have HB6 := Lib.hid (HB5.out.trans (hb6.mono HB5.out.size)); have HO6 := Lib.hid (Rd.below HO5.out hb6); clear hb6))| (at_mapUpdate; go_must (refine wpList_update_txt (B := W0.heap.size) rfl (.tmp 88) (.tmp 89) (.tmp 92) 53 rfl Try.underlying53 Try.underlying9 rfl HM6.out.1 (by have := Hn'.out; unfold maxLen; omega) rfl hxl rfl HMb.out ?_); intro w7 hM7 hb7 hg7))
              have HM7 : Hid (MapA w7 mb (n' + 1) (askedTo b ns o (k + 1))) := Lib.hid (by rw [HST.out, HT.out, HSA.out]; exact MapA.put hM7 HM6.out.2 HAI.out)
              have HO7 := Lib.hid ((rSl rStr).keep HO6.out (.grown hg7 fun g hg h => by cases hg; rcases h with h | h; exact h; have := Hmb.out; omega))
              go_roundw
              case rel => exact ⟨k + 1, n' + 1, by omega, by go_num, HM7, Lib.hid (by have := Hn'.out; omega), HO7, Lib.hid (HB6.out.trans hb7)⟩
              case measure => simp [intOf]; omega
            · have HAS : Hid (askedTo b ns o k = asked b ns o) := Lib.hid (by unfold askedTo asked; rw [List.take_of_length_le (by omega)])
              rw [HAS.out] at HM
              have HA4 : Hid (askB b ns = (b.tabs.map (answerOf (asked b ns o)), 0)) := Lib.hid (by rw [HA3.out, HOO.out, HO.out])
              clear HA3 hk
              generalize asked b ns o = m at *
              obtain ⟨w3, hw3⟩ : ∃ x, x = wr := ⟨_, rfl⟩
              subst hw3
              have f1 := (HB.out.cell (p := ⟨w.heap.size, 1, none⟩) hs0).trans c1
              go_wp2
              clear f1 hlt
              have HMs := HM
              have HBs := HB
              go_loopw [18, 97] (fun ov i wr => ∃ (k : Nat) (out : List An), k ≤ b.tabs.length ∧ i = .int .i64 k ∧ Own rAn 57 wr w3.heap.size (fun _ => False) ov out ∧ Hid (out = (b.tabs.take k).map (answerOf m)) ∧ Hid (Below w3.heap.size w3 wr)) (fun _ i _ => b.tabs.length - (intOf i).toNat)
              case atStart => exact ⟨0, [], Nat.zero_le _, rfl, Own.nil _ _ _ _ _, Lib.hid rfl, Lib.hid (Below.refl _ _)⟩
              case round =>
                obtain ⟨k, out, hk, rfl, hown, HO2, HB⟩ := hrel
                have HBW := Lib.hid (HBs.out.trans (HB.out.mono HBs.out.size))
                by_cases hlt : k < b.tabs.length
                · obtain ⟨bB, off, x, A1, ca, A2, cb, rfl, hbB, hx, hr, g0, g1, g2, g3, g4⟩ := HF.out.tb hlt
                  have hbw := HB0.out.trans (HBW.out.mono HB0.out.size)
                  rw [← hbw.cell (p := ⟨bB, _, none⟩) hbB] at g0 g1 g2 g3 g4
                  have hik : (k : Int) < (b.tabs.length : Int) := by omega
                  have hxl : x.name.length ≤ 140737488355328 := by obtain ⟨_, _, _, h, _⟩ := hr; exact h
                  obtain ⟨⟨nm', fd, nn⟩, ha⟩ : ∃ a, atM m x.name = a := ⟨_, rfl⟩
                  have HV : Hid (((m x.name).map ansV).getD (ansV an0) = .agg #[.string ⟨nm'.toArray⟩, .bool fd, .int .i64 nn]) := Lib.hid (by rw [MapA.getD, ha]; rfl)
                  have HNN : Hid (InI nn) := Lib.hid (by have := HMs.out.2 x.name; rw [ha] at this; exact this)
                  have HOS : Hid (out ++ [⟨x.name, fd, nn⟩] = (b.tabs.take (k + 1)).map (answerOf m)) := Lib.hid (by rw [take_getElem? hx, List.map_append, ← HO2.out]; simp [answerOf, ha])
                  have HOL : Hid (out.length ≤ 4) := Lib.hid (by rw [HO2.out, List.length_map, List.length_take]; have := HL.out.2; omega)
                  have HBY : Hid ((out.length + 1) * rAn.bytes ≤ 140737488355328) := Lib.hid (by have := HOL.out; show (_ + 1) * 32 ≤ _; omega)
                  obtain ⟨W3, e3, HB3, j0, HM3, HOW3, hw3s⟩ : ∃ W3, wr.alloc (.cells #[.string ⟨x.name.toArray⟩, .int .i64 x.pol, .bool x.comp, .slice A1 x.ins.length ca, .slice A2 x.rules.length cb] 25) = W3 ∧ Hid (Below w3.heap.size w3 W3) ∧ W3.cell? ⟨wr.heap.size, 0, none⟩ = some (.string ⟨x.name.toArray⟩) ∧ Hid (MapA W3 mb n' m) ∧ Hid (Own rAn 57 W3 w3.heap.size (fun _ => False) u18 out) ∧ wr.heap.size < W3.heap.size :=
                    ⟨_, rfl, Lib.hid (HB.out.alloc HB.out.size _), World.cell?_alloc_new _ _ _ _, Lib.hid ((HMs.out.below HB.out).alloc _), Lib.hid (hown.alloc _), by simp⟩
                  obtain ⟨W4, e4, HB4, k0, k1, k2, z0, hk0, hw4s, HOW4⟩ : ∃ W4, W3.alloc (.cells #[.string ⟨nm'.toArray⟩, .bool fd, .int .i64 nn] 57) = W4 ∧ Hid (Below w3.heap.size w3 W4) ∧ W4.cell? ⟨W3.heap.size, 0, none⟩ = some (.string ⟨nm'.toArray⟩) ∧ W4.cell? ⟨W3.heap.size, 1, none⟩ = some (.bool fd) ∧ W4.cell? ⟨W3.heap.size, 2, none⟩ = some (.int .i64 nn) ∧ W4.frozen? ⟨W3.heap.size, 0, none⟩ = false ∧ W4.cell? ⟨wr.heap.size, 0, none⟩ = some (.string ⟨x.name.toArray⟩) ∧ Hid (W3.heap.size < W4.heap.size) ∧ Hid (Own rAn 57 W4 w3.heap.size (fun _ => False) u18 out) :=
                    ⟨_, rfl, Lib.hid (HB3.out.alloc HB3.out.size _), World.cell?_alloc_new _ _ _ _, World.cell?_alloc_new _ _ _ _, World.cell?_alloc_new _ _ _ _, by simp, (World.cell?_alloc_lt _ _ _ hw3s).trans j0, Lib.hid (by simp), Lib.hid (HOW3.out.alloc _)⟩
                  obtain ⟨W5, e5, HB5, l0, l1, l2, HOW5⟩ : ∃ W5, W4.setCell ⟨W3.heap.size, 0, none⟩ (.string ⟨x.name.toArray⟩) = W5 ∧ Hid (Below w3.heap.size w3 W5) ∧ W5.cell? ⟨W3.heap.size, 0, none⟩ = some (.string ⟨x.name.toArray⟩) ∧ W5.cell? ⟨W3.heap.size, 1, none⟩ = some (.bool fd) ∧ W5.cell? ⟨W3.heap.size, 2, none⟩ = some (.int .i64 nn) ∧ Hid (Own rAn 57 W5 w3.heap.size (fun _ => False) u18 out) :=
                    ⟨_, rfl, Lib.hid (HB4.out.setCell HB3.out.size _), World.cell?_setCell_same _ _ _ k0, (World.cell?_setCell_other _ _ _ _ (by simp)).trans k1, (World.cell?_setCell_other _ _ _ _ (by simp)).trans k2, Lib.hid (HOW4.out.flat_set (fun _ _ _ _ _ _ h => h) (fun g hg => by have := HOW3.out.lt g hg; show g ≠ W3.heap.size; omega) _)⟩
                  clear hx hr hbw hown ha
                  go_wp2_with (first | (at_lookup; go_must (refine wpList_lookup_txt rfl (.tmp 101) (.tmp 103) 53 rfl Try.underlying53 Try.underlying9 (zeroA _) rfl HM3.out.1 rfl hxl HV.out ?_)) | (at_builtin; go_must (refine wpList_append_new (R := rAn) (x := ⟨x.name, fd, nn⟩) el_An rfl (.tmp 108) (.tmp 110) rfl rfl HOW5.out [.string ⟨x.name.toArray⟩, .bool fd, .int .i64 nn] rfl rfl (fun _ => False) ⟨rfl, hxl, HNN.out⟩ (fun _ h => h.elim) HBY.out HB5.out.size ?_); intro v9 w9 hown9 hb9 _ _))
                  go_roundw
                  case rel => exact ⟨k + 1, out ++ [⟨x.name, fd, nn⟩], by omega, by go_num, hown9, HOS, Lib.hid (HB5.out.trans hb9)⟩
                  case measure => simp [intOf]; omega
                · have HC : Hid (askB b ns = (out, 0)) := Lib.hid (by rw [HA4.out, HO2.out, List.take_of_length_le (by omega)])
                  obtain ⟨A9, l9, rfl⟩ := hown.value
                  go_wp2
                  go_ret2
                  exact ⟨_, _, by rw [HC.out]; rfl, by rw [HC.out]; exact hown.rel (by decide), HB0.out.trans (HBW.out.mono HB0.out.size)⟩
    · have HA3 : Hid (askB b ns = ([], 1)) := Lib.hid (by rw [HA1.out, if_pos hne])
      have hq1 : ((ns.length : Int) == (b.doms.length : Int)) = false := beq_eq_false_iff_ne.2 (by omega)
      have hq2 : (ns.length == b.doms.length) = false := beq_eq_false_iff_ne.2 hne
      clear hne
      go_wp2_with (first | (go_at_call 16; go_must ((with_reducible refine (Check_at W0 HBK.out HCK.out).mono ?_); rintro e w1 ⟨Ak, ck, Sk, rfl, _, hb1⟩; have HB1 := Lib.hid hb1; have d0 := (hb1.cell (p := ⟨w.heap.size, 0, none⟩) hs0).trans c0; have d1 := (hb1.cell (p := ⟨w.heap.size, 1, none⟩) hs0).trans c1; clear hb1)))
      go_ret2
      exact HZ.out _ _ _ HA3.out rfl HB1.out
  · have HA3 : Hid (askB b ns = ([], er)) := Lib.hid (by unfold askB; rw [hck]; exact if_pos her)
    have hq1 : (er == 0) = false := by simpa using her
    clear hck her
    go_wp2_with (first | (go_at_call 16; go_must ((with_reducible refine (Check_at W0 HBK.out HCK.out).mono ?_); rintro e w1 ⟨Ak, ck, Sk, rfl, _, hb1⟩; have HB1 := Lib.hid hb1; have d0 := (hb1.cell (p := ⟨w.heap.size, 0, none⟩) hs0).trans c0; have d1 := (hb1.cell (p := ⟨w.heap.size, 1, none⟩) hs0).trans c1; clear hb1)))
    go_ret2
    exact HZ.out _ _ _ HA3.out rfl HB1.out

end Go.Proofs.Ytlopccnehgolnab

namespace Go.Proofs.Ytlopccnehgolnab
open Go.RowKit Rb

def bkEx : Bk := ⟨[⟨[97], 0, 9⟩], [⟨[116], 7, false, [[97]], [⟨[⟨false, []⟩], 0⟩]⟩]⟩
theorem ask_ex : askB bkEx [4] = ([⟨[116], true, 1⟩], 0) := by kernel_rfl

theorem lit_bk (w : World) : rBk.rel (((((w.alloc (.cells #[.string ⟨#[97]⟩, .int .i64 0, .int .i64 9] 55)).alloc (.cells #[.string ⟨#[97]⟩] 9)).alloc (.cells #[.bool false, .slice none 0 0] 74)).alloc
    (.cells #[.slice (some ⟨w.heap.size + 1 + 1, 0, none⟩) 1 1, .int .i64 0] 70)).alloc (.cells #[.string ⟨#[116]⟩, .int .i64 7, .bool false, .slice (some ⟨w.heap.size + 1, 0, none⟩) 1 1, .slice (some ⟨w.heap.size + 1 + 1 + 1, 0, none⟩) 1 1] 25)) (fun _ => True)
    [.slice (some ⟨w.heap.size, 0, none⟩) 1 1, .slice (some ⟨w.heap.size + 1 + 1 + 1 + 1, 0, none⟩) 1 1] bkEx := by
  have h1 := Rd.lit1 (R := rDm) (w := w) (S := fun _ => True) (x := ⟨[97], 0, 9⟩) (cells := [.string ⟨#[97]⟩, .int .i64 0, .int .i64 9]) 55 rfl (by decide) (by decide) ⟨rfl, by decide, by unfold InI; decide, by unfold InI; decide⟩
  have h2 := Rd.lit1 (R := rStr) (w := w.alloc (.cells #[.string ⟨#[97]⟩, .int .i64 0, .int .i64 9] 55)) (S := fun _ => True) (x := [97]) (cells := [.string ⟨#[97]⟩]) (n := w.heap.size + 1) 9 (by simp) (by decide) (by decide) ⟨rfl, by decide⟩
  have h3 := Rd.lit1 (R := rCl) (w := (w.alloc (.cells #[.string ⟨#[97]⟩, .int .i64 0, .int .i64 9] 55)).alloc (.cells #[.string ⟨#[97]⟩] 9)) (S := fun _ => True) (x := ⟨false, []⟩) (cells := [.bool false, .slice none 0 0]) (n := w.heap.size + 1 + 1) 74 (by simp) (by decide) (by decide) ⟨_, rfl, none, 0, rfl, Nat.le_refl _, by decide, by decide, fun i x hx => by simp at hx⟩
  have h4 := Rd.lit1 (R := rRl) (S := fun _ => True) (x := ⟨[⟨false, []⟩], 0⟩) (cells := [.slice (some ⟨w.heap.size + 1 + 1, 0, none⟩) 1 1, .int .i64 0]) (n := w.heap.size + 1 + 1 + 1) 70 (by simp) (by decide) (by decide) ⟨_, rfl, by unfold InI; dsimp only; omega, h3⟩
  have h5 := Rd.lit1 (R := rTb) (S := fun _ => True) (x := ⟨[116], 7, false, [[97]], [⟨[⟨false, []⟩], 0⟩]⟩) (cells := [.string ⟨#[116]⟩, .int .i64 7, .bool false, .slice (some ⟨w.heap.size + 1, 0, none⟩) 1 1, .slice (some ⟨w.heap.size + 1 + 1 + 1, 0, none⟩) 1 1]) (n := w.heap.size + 1 + 1 + 1 + 1) 25 (by simp) (by decide) (by decide)
    ⟨_, _, rfl, by decide, by unfold InI; decide, Rd.alloc (Rd.alloc h2 _) _, h4⟩
  exact ⟨_, _, rfl, Rd.alloc (Rd.alloc (Rd.alloc (Rd.alloc h1 _) _) _) _, h5⟩

theorem Ask_at {S T : Nat → Prop} {bs : List Value} {b : Bk} {u : Value} {ns : List Int} {l : List An} {r : Int} (w : World) (hl : rBk.rel w S bs b) (hn : (rSl rInt).rel w T [u] ns) (h : askB b ns = (l, r)) :
    Calls Try.prog 19 #[.agg bs.toArray, u] w fun e w' => ∃ A c S', e = .returned (.tuple #[.slice A l.length c, .int .i64 r]) ∧ (rSl rAn).rel w' S' [.slice A l.length c] l ∧ Below w.heap.size w w' := by
  refine (Ask_any w hl hn).mono ?_
  rintro e w' ⟨z, S', he, hz, hb⟩
  rw [h] at he hz
  obtain ⟨A, c, rfl, _⟩ := rSl.elems hz
  exact ⟨A, c, S', he, hz, hb⟩

set_option maxHeartbeats 800000 in
theorem booksKeep_any (w : World) : Calls Try.prog 17 #[] w fun e w' => e = .returned (.bool true) ∧ Below w.heap.size w w' := by
  have hl := lit_bk w
  obtain ⟨W0, e0, hl0, hb0, hs0⟩ : ∃ W0, ((((w.alloc (.cells #[.string ⟨#[97]⟩, .int .i64 0, .int .i64 9] 55)).alloc (.cells #[.string ⟨#[97]⟩] 9)).alloc (.cells #[.bool false, .slice none 0 0] 74)).alloc
    (.cells #[.slice (some ⟨w.heap.size + 1 + 1, 0, none⟩) 1 1, .int .i64 0] 70)).alloc (.cells #[.string ⟨#[116]⟩, .int .i64 7, .bool false, .slice (some ⟨w.heap.size + 1, 0, none⟩) 1 1, .slice (some ⟨w.heap.size + 1 + 1 + 1, 0, none⟩) 1 1] 25) = W0 ∧
      rBk.rel W0 (fun _ => True) [.slice (some ⟨w.heap.size, 0, none⟩) 1 1, .slice (some ⟨w.heap.size + 1 + 1 + 1 + 1, 0, none⟩) 1 1] bkEx ∧ Below w.heap.size w W0 ∧ W0.heap.size = w.heap.size + 1 + 1 + 1 + 1 + 1 :=
    ⟨_, rfl, hl, ((((((Below.refl _ _).alloc (Nat.le_refl _) _).alloc (by simp) _).alloc (by simp; omega) _).alloc (by simp; omega) _).alloc (by simp; omega) _), by simp⟩
  clear hl
  obtain ⟨W1, e1, HL1, HB1, c0, c1, hs1⟩ : ∃ W1, W0.alloc (.cells #[.slice (some ⟨w.heap.size, 0, none⟩) 1 1, .slice (some ⟨w.heap.size + 1 + 1 + 1 + 1, 0, none⟩) 1 1] 46) = W1 ∧
      Hid (rBk.rel W1 (fun _ => True) [.slice (some ⟨w.heap.size, 0, none⟩) 1 1, .slice (some ⟨w.heap.size + 1 + 1 + 1 + 1, 0, none⟩) 1 1] bkEx) ∧ Hid (Below w.heap.size w W1) ∧
      W1.cell? ⟨w.heap.size + 1 + 1 + 1 + 1 + 1, 0, none⟩ = some (.slice (some ⟨w.heap.size, 0, none⟩) 1 1) ∧ W1.cell? ⟨w.heap.size + 1 + 1 + 1 + 1 + 1, 1, none⟩ = some (.slice (some ⟨w.heap.size + 1 + 1 + 1 + 1, 0, none⟩) 1 1) ∧ W1.heap.size = w.heap.size + 1 + 1 + 1 + 1 + 1 + 1 :=
    ⟨_, rfl, Lib.hid (Rd.alloc hl0 _), Lib.hid (hb0.alloc hb0.size _), by rw [← hs0]; exact World.cell?_alloc_new _ _ _ _, by rw [← hs0]; exact World.cell?_alloc_new _ _ _ _, by simp [hs0]⟩
  obtain ⟨W2, e2, HL2, HB2, HN2⟩ : ∃ W2, W1.alloc (.cells #[.int .i64 4] 3) = W2 ∧ Hid (rBk.rel W2 (fun _ => True) [.slice (some ⟨w.heap.size, 0, none⟩) 1 1, .slice (some ⟨w.heap.size + 1 + 1 + 1 + 1, 0, none⟩) 1 1] bkEx) ∧ Hid (Below w.heap.size w W2) ∧ Hid ((rSl rInt).rel W2 (fun _ => True) [.slice (some ⟨w.heap.size + 1 + 1 + 1 + 1 + 1 + 1, 0, none⟩) 1 1] [4]) :=
    ⟨_, rfl, Lib.hid (Rd.alloc HL1.out _), Lib.hid (HB1.out.alloc HB1.out.size _), Lib.hid (Rd.lit1 (R := rInt) (w := W1) (S := fun _ => True) (x := 4) (cells := [.int .i64 4]) (n := w.heap.size + 1 + 1 + 1 + 1 + 1 + 1) 3 hs1 (by decide) (by decide) ⟨rfl, by unfold InI; omega⟩)⟩
  have HC := Lib.hid (Ask_at W2 HL2.out HN2.out ask_ex)
  clear hl0 hb0
  go_enter Try.func17, Try.ntmps17
  go_wp2_with (first | (go_at_call 19; go_must ((with_reducible refine HC.out.mono ?_); rintro e w3 ⟨A3, c3, S3, rfl, hz, hb3⟩; obtain ⟨b3, o3, es, rfl, _, hb4, ⟨rfl, _⟩, hce⟩ := (let ⟨_, _, hv, _, _, _, hE⟩ := hz; (show Elems rAn w3 S3 A3 _ by injection hv with hv _; injection hv with hv _ _; rw [hv]; exact hE)) 0 _ rfl; have k0 := hce 0 _ rfl; have k1 := hce 1 _ rfl; have k2 := hce 2 _ rfl; simp only [Nat.zero_mul, Nat.add_zero] at k0 k1 k2; have HB3 := Lib.hid (HB2.out.trans (hb3.mono HB2.out.size)); clear hz hb3 hce hb4)))
  go_ret
  exact ⟨rfl, HB3.out⟩

end Go.Proofs.Ytlopccnehgolnab
