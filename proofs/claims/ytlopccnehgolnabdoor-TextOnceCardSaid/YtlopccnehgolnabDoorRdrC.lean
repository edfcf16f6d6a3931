
/- The reader's cell. -/
import Derived.Test.YtlopccnehgolnabDoorRdrB
import Derived.Test.YtlopccnehgolnabDoorSpanD
import Derived.Deep.DeepMust
namespace Go.Proofs.YtlopccnehgolnabDoor
open Go.RowKit Rb

theorem numberR_in (r : Rs) : -1000000 ≤ (numberR r).1 ∧ (numberR r).1 ≤ 1000000 := by
  unfold numberR
  cases h : numOf (nextR r).1 with
  | none => exact ⟨by dsimp only; omega, by dsimp only; omega⟩
  | some v =>
    unfold numOf at h
    split at h
    · split at h
      · rename_i h1
        injection h with h
        subst h
        exact h1.2
      · cases h
    · cases h
theorem nextR_len (r : Rs) : (nextR r).2.l.length ≤ r.l.length := by
  unfold nextR
  split <;> simp_all
theorem atR_len (r : Rs) (s : Txt) : (atR r s).2.l.length ≤ r.l.length := by
  unfold atR
  split
  · simp
  · split <;> simp_all
theorem atR_lt {r : Rs} {s : Txt} (h : (atR r s).1 = true) : (atR r s).2.l.length < r.l.length := by
  unfold atR at h ⊢
  split
  · rename_i e; rw [e] at h; cases h
  · rename_i x l e
    rw [e] at h
    dsimp only at h
    split
    · simp [e]
    · rename_i hx; rw [if_neg hx] at h; cases h
theorem numberR_len (r : Rs) : (numberR r).2.l.length ≤ r.l.length := by
  unfold numberR
  have := nextR_len r
  split <;> exact this

/-- One range, the state behind it. -/
def rangeR (r : Rs) : Rg × Rs :=
  if (atR (numberR r).2 [46, 46]).1 then
    (((numberR r).1, (numberR (atR (numberR r).2 [46, 46]).2).1), ⟨(numberR (atR (numberR r).2 [46, 46]).2).2.l, (numberR (atR (numberR r).2 [46, 46]).2).2.bad || decide ((numberR (atR (numberR r).2 [46, 46]).2).1 ≤ (numberR r).1)⟩)
  else (((numberR r).1, (numberR r).1), (atR (numberR r).2 [46, 46]).2)
theorem rangeR_len (r : Rs) : (rangeR r).2.l.length ≤ r.l.length := by
  unfold rangeR
  have h1 := numberR_len r
  have h2 := atR_len (numberR r).2 [46, 46]
  have h3 := numberR_len (atR (numberR r).2 [46, 46]).2
  split <;> dsimp only <;> omega
def cellGo : Nat → Rs → List Rg → List Rg × Rs
  | 0, r, acc => (acc, r)
  | f + 1, r, acc => if r.bad then (acc, r) else if (atR (rangeR r).2 [124]).1 then cellGo f (atR (rangeR r).2 [124]).2 (acc ++ [(rangeR r).1]) else (acc ++ [(rangeR r).1], (atR (rangeR r).2 [124]).2)
def cellEnd (r : Rs) (acc : List Rg) : List Rg × Rs := cellGo (r.l.length + 1) r acc
theorem cellGo_two : ∀ (f g : Nat) (r : Rs) (acc : List Rg), r.l.length < f → r.l.length < g → cellGo f r acc = cellGo g r acc := by
  intro f
  induction f with
  | zero => intro g r acc h; omega
  | succ f ih =>
    intro g r acc h hg
    cases g with
    | zero => omega
    | succ g =>
      simp only [cellGo]
      split
      · rfl
      · split
        · rename_i h1
          have h2 := atR_lt h1
          have h3 := rangeR_len r
          exact ih g _ _ (by omega) (by omega)
        · rfl
theorem cellEnd_bad {r : Rs} (acc : List Rg) (h : r.bad = true) : cellEnd r acc = (acc, r) := by
  unfold cellEnd
  simp only [cellGo]
  rw [if_pos h]
theorem cellEnd_on {r r5 r6 : Rs} {x : Rg} (acc : List Rg) (h : r.bad = false) (h1 : rangeR r = (x, r5)) (h2 : atR r5 [124] = (true, r6)) : cellEnd r acc = cellEnd r6 (acc ++ [x]) := by
  have e1 : cellEnd r acc = cellGo r.l.length (atR (rangeR r).2 [124]).2 (acc ++ [(rangeR r).1]) := by
    unfold cellEnd
    simp only [cellGo]
    rw [if_neg (by simp [h]), if_pos (by rw [h1, h2])]
  rw [e1, h1, h2]
  have h4 : (atR r5 [124]).2.l.length < r5.l.length := atR_lt (by rw [h2])
  have h3 := rangeR_len r
  rw [h1] at h3
  rw [h2] at h4
  dsimp only at h3 h4
  show cellGo r.l.length r6 (acc ++ [x]) = cellGo (r6.l.length + 1) r6 (acc ++ [x])
  exact cellGo_two _ _ _ _ (by omega) (by omega)
theorem cellEnd_off {r r5 r6 : Rs} {x : Rg} (acc : List Rg) (h : r.bad = false) (h1 : rangeR r = (x, r5)) (h2 : atR r5 [124] = (false, r6)) : cellEnd r acc = (acc ++ [x], r6) := by
  unfold cellEnd
  simp only [cellGo]
  rw [if_neg (by simp [h]), if_neg (by rw [h1, h2]; simp), h1, h2]
def cellR (r : Rs) : Cl × Rs :=
  if (atR r [42]).1 then (⟨false, []⟩, (atR r [42]).2)
  else (⟨(atR (atR r [42]).2 [110, 111, 116]).1, (cellEnd (atR (atR r [42]).2 [110, 111, 116]).2 []).1⟩, (cellEnd (atR (atR r [42]).2 [110, 111, 116]).2 []).2)

def rdLen (w : World) (q : Nat) : Nat := match w.cell? ⟨q, 0, none⟩ with | some (.slice _ n _) => n | _ => 0
theorem RdAt.len {w : World} {q : Nat} {r : Rs} (h : RdAt w q r) : rdLen w q = r.l.length := by
  obtain ⟨A, c, h0, _⟩ := h
  unfold rdLen
  rw [h0]
theorem Own.other {α : Type} {R : Rd α} {e : TypeId} {w : World} {base : Nat} {S0 : Nat → Prop} {v : Value} {xs : List α} (h : Own R e w base S0 v xs) (hF : Flat R) {b i : Nat} (ha : ∀ g, v.ownBlock = some g → g ≠ b) (u : Value) : Own R e (w.setCell ⟨b, i, none⟩ u) base (fun _ => False) v xs := by
  obtain ⟨S, ⟨cells, h1, _, h3, h4⟩, _⟩ := h
  refine ⟨fun _ => False, ⟨cells, h1.kept (grown_setCell w ⟨b, i, none⟩ u) ?_, fun _ _ h => h, h3, fun i x hx => hF _ _ _ _ _ _ (h4 i x hx)⟩, fun _ h => h.elim⟩
  cases hv : v.ownBlock with
  | none => exact .inl rfl
  | some g => exact .inr fun e => ha g hv (by injection e)

theorem Only.trans_below {q : Nat} {w w' w'' : World} (h : Only q w w') {B : Nat} (hb : Below B w' w'') (hB : w.heap.size ≤ B) : Only q w w'' :=
  ⟨hb.os.trans h.os, hb.tape.trans h.tape, hb.output.trans h.output, Nat.le_trans h.size hb.size, fun k hk hne => (hb.block k (Nat.lt_of_lt_of_le hk hB)).trans (h.block k hk hne)⟩

theorem Only.new {q : Nat} {w w' : World} (h : Only q w w') {b : Nat} (hb : w.heap.size ≤ b) (i : Nat) (u : Value) : Only q w (w'.setCell ⟨b, i, none⟩ u) :=
  ⟨h.os, h.tape, h.output, by simpa using h.size, fun k hk hne => (Below.heap_setCell w' ⟨b, i, none⟩ u k (by show k ≠ b; omega)).trans (h.block k hk hne)⟩

/-- The state of the reading loop. -/
structure CellI (w : World) (q q2 q3 B0 : Nat) (no : Bool) (r : Rs) (u : Value) (acc : List Rg) (wr : World) : Prop where
  rd : RdAt wr q r
  c0 : wr.cell? ⟨q3, 0, none⟩ = some (.bool no)
  c1 : wr.cell? ⟨q3, 1, none⟩ = some u
  z1 : wr.frozen? ⟨q3, 1, none⟩ = false
  f0 : wr.cell? ⟨q2, 0, none⟩ = some (.bool false)
  f1 : wr.cell? ⟨q2, 1, none⟩ = some (.slice none 0 0)
  y : ∀ i, wr.frozen? ⟨q2, i, none⟩ = false
  own : Own rRg 72 wr B0 (fun _ => False) u acc
  only : Only q w wr
  hB : B0 ≤ wr.heap.size
  hq : q < w.heap.size ∧ w.heap.size ≤ q2 ∧ q2 < q3 ∧ q3 < B0
theorem CellI.step {w : World} {q q2 q3 B0 : Nat} {no : Bool} {r r' : Rs} {u : Value} {acc : List Rg} {wr wr' : World} (h : CellI w q q2 q3 B0 no r u acc wr) (ho : Only q wr wr') (hr : RdAt wr' q r') : CellI w q q2 q3 B0 no r' u acc wr' := by
  obtain ⟨h1, h2, h3, h4⟩ := h.hq
  have hB := h.hB
  have n2 : q2 ≠ q := by omega
  have n3 : q3 ≠ q := by omega
  exact ⟨hr, (ho.cell (by omega) n3 0).trans h.c0, (ho.cell (by omega) n3 1).trans h.c1, (ho.frozen (by omega) n3 1).trans h.z1, (ho.cell (by omega) n2 0).trans h.f0, (ho.cell (by omega) n2 1).trans h.f1, fun i => (ho.frozen (by omega) n2 i).trans (h.y i),
    h.own.only ho (by omega), h.only.trans ho, Nat.le_trans hB ho.size, h.hq⟩
/-- A later block is stored over. -/
theorem CellI.later {w : World} {q q2 q3 B0 : Nat} {no : Bool} {r : Rs} {u : Value} {acc : List Rg} {wr : World} (h : CellI w q q2 q3 B0 no r u acc wr) {b : Nat} (hb : B0 ≤ b) (hu : ∀ g, u.ownBlock = some g → g ≠ b) {i : Nat} {v : Value} (ho : Only q w (wr.setCell ⟨b, i, none⟩ v)) : CellI w q q2 q3 B0 no r u acc (wr.setCell ⟨b, i, none⟩ v) := by
  obtain ⟨h1, h2, h3, h4⟩ := h.hq
  have n3 : ¬ (b = q3) := by omega
  have n2 : ¬ (b = q2) := by omega
  exact ⟨h.rd.other (by omega) _ _, (World.cell?_setCell_other _ _ _ _ (by simp <;> omega)).trans h.c0, (World.cell?_setCell_other _ _ _ _ (by simp <;> omega)).trans h.c1, by rw [World.frozen?_setCell]; exact h.z1, (World.cell?_setCell_other _ _ _ _ (by simp <;> omega)).trans h.f0, (World.cell?_setCell_other _ _ _ _ (by simp <;> omega)).trans h.f1, fun j => by rw [World.frozen?_setCell]; exact h.y j,
    h.own.other flat_R hu _, ho, by simpa using h.hB, h.hq⟩

theorem CellI.grow {w : World} {q q2 q3 B0 : Nat} {no : Bool} {r : Rs} {u v : Value} {acc acc' : List Rg} {wr w' : World} (h : CellI w q q2 q3 B0 no r u acc wr) (hb : Below B0 wr w') (ho : Own rRg 72 w' B0 (fun _ => False) v acc') : CellI w q q2 q3 B0 no r v acc' (w'.setCell ⟨q3, 1, none⟩ v) ∧ w'.cell? ⟨q3, 1, none⟩ = some u ∧ w'.frozen? ⟨q3, 1, none⟩ = false := by
  obtain ⟨h1, h2, h3, h4⟩ := h.hq
  have n2 : ¬ (q3 = q2) := by omega
  have n0 : ¬ (q3 = q) := by omega
  have k := (hb.cell (p := ⟨q3, 1, none⟩) h4).trans h.c1
  have z := (hb.frozen (p := ⟨q3, 1, none⟩) h4).trans h.z1
  have hrd : RdAt w' q r := by
    obtain ⟨A, c, a0, a1, b0, b1, hr⟩ := h.rd
    have hq : q < B0 := by omega
    exact ⟨A, c, (hb.cell (p := ⟨q, 0, none⟩) hq).trans a0, (hb.cell (p := ⟨q, 1, none⟩) hq).trans a1, (hb.frozen (p := ⟨q, 0, none⟩) hq).trans b0, (hb.frozen (p := ⟨q, 1, none⟩) hq).trans b1, (rSl rStr).keep hr (.of_belowB hb fun b hb' => by omega)⟩
  have hon : Only q w w' := h.only.trans_below hb (by omega)
  refine ⟨⟨hrd.other (by omega) _ _, (World.cell?_setCell_other _ _ _ _ (by simp)).trans ((hb.cell (p := ⟨q3, 0, none⟩) h4).trans h.c0), World.cell?_setCell_same _ _ _ k, by rw [World.frozen?_setCell]; exact z, (World.cell?_setCell_other _ _ _ _ (by simp <;> omega)).trans ((hb.cell (p := ⟨q2, 0, none⟩) (by show q2 < _; omega)).trans h.f0), (World.cell?_setCell_other _ _ _ _ (by simp <;> omega)).trans ((hb.cell (p := ⟨q2, 1, none⟩) (by show q2 < _; omega)).trans h.f1), fun i => by rw [World.frozen?_setCell]; exact (hb.frozen (p := ⟨q2, i, none⟩) (by show q2 < _; omega)).trans (h.y i),
    ho.other flat_R (fun g hg => by have := (ho.lt g hg).1; omega) _, hon.new (by omega) _ _, by have := h.hB; have := hb.size; simp; omega, h.hq⟩, k, z⟩
theorem CellI.mark {w : World} {q q2 q3 B0 : Nat} {no : Bool} {r : Rs} {u : Value} {acc : List Rg} {wr : World} (h : CellI w q q2 q3 B0 no r u acc wr) (X : Bool) {b : Nat} (hb : q < b) {x y : Value} (m0 : wr.cell? ⟨b, 0, none⟩ = some x) (m1 : wr.cell? ⟨b, 1, none⟩ = some y) :
    ∃ W6, wr.setCell ⟨q, 1, none⟩ (.bool X) = W6 ∧ Hid (CellI w q q2 q3 B0 no ⟨r.l, X⟩ u acc W6) ∧ W6.cell? ⟨b, 0, none⟩ = some x ∧ W6.cell? ⟨b, 1, none⟩ = some y ∧ W6.cell? ⟨q3, 1, none⟩ = some u := by
  have hne : ¬ (q = b) := by omega
  have k := h.step (Only.set _ _ _) (h.rd.setBad X)
  exact ⟨_, rfl, Lib.hid k, (World.cell?_setCell_other _ _ _ _ (by simp)).trans m0, (World.cell?_setCell_other _ _ _ _ (by simp <;> omega)).trans m1, k.c1⟩
theorem CellI.second {w : World} {q q2 q3 B0 : Nat} {no : Bool} {r : Rs} {u : Value} {acc : List Rg} {wr : World} (h : CellI w q q2 q3 B0 no r u acc wr) {b : Nat} (hB : B0 ≤ b) (hq : q < b) (hw : w.heap.size ≤ b) (hu : ∀ g, u.ownBlock = some g → g ≠ b) {x y : Value} (v : Value) (p0 : wr.cell? ⟨b, 0, none⟩ = some x) (p1 : wr.cell? ⟨b, 1, none⟩ = some y) :
    ∃ W5, wr.setCell ⟨b, 1, none⟩ v = W5 ∧ Hid (CellI w q q2 q3 B0 no r u acc W5) ∧ W5.cell? ⟨b, 0, none⟩ = some x ∧ W5.cell? ⟨b, 1, none⟩ = some v ∧ W5.cell? ⟨q, 1, none⟩ = some (.bool r.bad) ∧ W5.frozen? ⟨q, 1, none⟩ = false :=
  ⟨_, rfl, Lib.hid (h.later hB hu (h.only.new hw _ _)), (World.cell?_setCell_other _ _ _ _ (by simp)).trans p0, World.cell?_setCell_same _ _ _ p1, (h.rd.other hq _ _).bad.1, (h.rd.other hq _ _).bad.2⟩
theorem store2R {w : World} {q : Nat} {u0 u1 : Value} (v0 v1 : Value) (h0 : w.cell? ⟨q, 0, none⟩ = some u0) (h1 : w.cell? ⟨q, 1, none⟩ = some u1) :
    ∃ W, (w.setCell ⟨q, 0, none⟩ v0).setCell ⟨q, 1, none⟩ v1 = W ∧ W.cell? ⟨q, 0, none⟩ = some v0 ∧ W.cell? ⟨q, 1, none⟩ = some v1 := by
  have o : ∀ (w : World) (i j : Nat) (v : Value), i ≠ j → (w.setCell ⟨q, i, none⟩ v).cell? ⟨q, j, none⟩ = w.cell? ⟨q, j, none⟩ := fun w i j v h => World.cell?_setCell_other _ _ _ _ (by simp <;> omega)
  refine ⟨_, rfl, ?_, ?_⟩
  · rw [o _ 1 0 _ (by decide)]
    exact World.cell?_setCell_same _ _ _ h0
  · exact World.cell?_setCell_same _ _ _ ((o _ 0 1 _ (by decide)).trans h1)
theorem CellI.start {w W0 w2 : World} {q : Nat} {no : Bool} {r : Rs} {ty : TypeId} (f0 : W0.cell? ⟨w.heap.size, 0, none⟩ = some (.bool false)) (f1 : W0.cell? ⟨w.heap.size, 1, none⟩ = some (.slice none 0 0)) (y : ∀ i, W0.frozen? ⟨w.heap.size, i, none⟩ = false) (hs : w.heap.size < W0.heap.size) (hq : q < w.heap.size) (ho : Only q w W0) (hr : RdAt w2 q r) (h2 : Only q W0 w2) :
    ∃ W3, w2.alloc (.cells #[.bool no, .slice none 0 0] ty) = W3 ∧ W3.frozen? ⟨w2.heap.size, 1, none⟩ = false ∧ W3.cell? ⟨w2.heap.size, 1, none⟩ = some (.slice none 0 0) ∧ ∃ W4, W3.setCell ⟨w2.heap.size, 1, none⟩ (.slice none 0 0) = W4 ∧ Hid (CellI w q w.heap.size w2.heap.size W3.heap.size no r (.slice none 0 0) [] W4) ∧ Hid (w2.heap.size < W3.heap.size) := by
  have hne : w.heap.size ≠ q := by omega
  have hs2 := h2.size
  have hlt : w.heap.size < w2.heap.size := by omega
  have k : (w2.alloc (.cells #[.bool no, .slice none 0 0] ty)).cell? ⟨w2.heap.size, 1, none⟩ = some (.slice none 0 0) := World.cell?_alloc_new _ _ _ _
  have n2 : ¬ (w2.heap.size = w.heap.size) := by omega
  refine ⟨_, rfl, by simp, k, _, rfl, Lib.hid ⟨(hr.alloc _).other (by omega) _ _, (World.cell?_setCell_other _ _ _ _ (by simp)).trans (World.cell?_alloc_new _ _ _ _), World.cell?_setCell_same _ _ _ k, by rw [World.frozen?_setCell]; simp, ?_, ?_, fun i => ?_, Own.nil _ _ _ _ _, ((ho.trans h2).trans (Only.alloc _ _)).new (by omega) _ _, by simp, ⟨hq, Nat.le_refl _, hlt, by simp⟩⟩, Lib.hid (by simp)⟩
  · exact (World.cell?_setCell_other _ _ _ _ (by simp <;> omega)).trans ((World.cell?_alloc_lt _ _ _ hlt).trans ((h2.cell hs hne 0).trans f0))
  · exact (World.cell?_setCell_other _ _ _ _ (by simp <;> omega)).trans ((World.cell?_alloc_lt _ _ _ hlt).trans ((h2.cell hs hne 1).trans f1))
  · rw [World.frozen?_setCell]
    exact (((Below.refl w2.heap.size w2).alloc (Nat.le_refl _) (.cells #[.bool no, .slice none 0 0] ty)).frozen (p := ⟨w.heap.size, i, none⟩) hlt).trans ((h2.frozen hs hne i).trans (y i))
/-- The result is stored. -/
theorem CellI.done {w : World} {q q2 q3 B0 : Nat} {no : Bool} {r : Rs} {u : Value} {acc : List Rg} {wr : World} (h : CellI w q q2 q3 B0 no r u acc wr) : ∃ W, (wr.setCell ⟨q2, 0, none⟩ (.bool no)).setCell ⟨q2, 1, none⟩ u = W ∧ W.cell? ⟨q2, 0, none⟩ = some (.bool no) ∧ W.cell? ⟨q2, 1, none⟩ = some u ∧ Hid (Own rRg 72 W w.heap.size (fun _ => False) u acc ∧ RdAt W q r ∧ Only q w W) := by
  obtain ⟨h1, h2, h3, h4⟩ := h.hq
  obtain ⟨W, e, n0, n1⟩ := store2R (.bool no) u h.f0 h.f1
  have hlt := h.own.lt
  refine ⟨W, e, n0, n1, Lib.hid ?_⟩
  rw [← e]
  have hne : ∀ g, u.ownBlock = some g → g ≠ q2 := fun g hg => by have := (hlt g hg).1; omega
  exact ⟨((h.own.other flat_R hne _).other flat_R hne _).lower (by omega), (h.rd.other (by omega) _ _).other (by omega) _ _, (h.only.new h2 _ _).new h2 _ _⟩

set_option maxRecDepth 100000 in
set_option maxHeartbeats 6400000 in
theorem rcell_any {q : Nat} {r : Rs} (w : World) (h : RdAt w q r) (hl : r.l.length ≤ 4000) (hq : ∀ w', Only q w w' → LibW w') :
    Calls Tryd.prog 58 #[.pointer (some ⟨q, 0, none⟩)] w fun e w' => ∃ v, e = .returned (.agg #[.bool (cellR r).1.no, v]) ∧ Own rRg 72 w' w.heap.size (fun _ => False) v (cellR r).1.rs ∧ RdAt w' q (cellR r).2 ∧ Only q w w' := by
  have hql := h.lt
  obtain ⟨W0, e0, HR0, f0, f1, y0, HO0, hs0⟩ : ∃ W0, w.alloc (.cells #[.bool false, .slice none 0 0] 53) = W0 ∧ Hid (RdAt W0 q r) ∧ W0.cell? ⟨w.heap.size, 0, none⟩ = some (.bool false) ∧ W0.cell? ⟨w.heap.size, 1, none⟩ = some (.slice none 0 0) ∧ (∀ i, W0.frozen? ⟨w.heap.size, i, none⟩ = false) ∧ Hid (Only q w W0) ∧ Hid (w.heap.size < W0.heap.size) :=
    ⟨_, rfl, Lib.hid (h.alloc _), World.cell?_alloc_new _ _ _ _, World.cell?_alloc_new _ _ _ _, fun i => by simp, Lib.hid (Only.alloc _ _), Lib.hid (by simp)⟩
  have HS0 := hs0
  have HQL := Lib.hid hql
  have HL := Lib.hid hq
  have HLN := Lib.hid hl
  obtain ⟨⟨s1, r1⟩, h1⟩ : ∃ x, atR r [42] = x := ⟨_, rfl⟩
  have HAT1 : Hid (Calls Tryd.prog 23 #[.pointer (some ⟨q, 0, none⟩), .string ⟨#[42]⟩] W0 fun e w' => e = .returned (.bool s1) ∧ RdAt w' q r1 ∧ Only q W0 w') := Lib.hid (by have := at_any [42] W0 HR0.out; rw [h1] at this; exact this)
  have HLN1 : Hid (r1.l.length ≤ r.l.length) := Lib.hid (by have := atR_len r [42]; rw [h1] at this; exact this)
  have HF0 := Lib.hid f0
  have HF1 := Lib.hid f1
  have HY0 := Lib.hid y0
  clear h hl hq hql y0
  go_enter Tryd.func58, Tryd.ntmps58
  cases s1
  · obtain ⟨⟨no, r2⟩, h2⟩ : ∃ x, atR r1 [110, 111, 116] = x := ⟨_, rfl⟩
    have HCR : Hid (cellR r = (⟨no, (cellEnd r2 []).1⟩, (cellEnd r2 []).2)) := Lib.hid (by unfold cellR; rw [h1]; dsimp only; rw [h2]; rfl)
    have HAT2 : Hid (∀ w, RdAt w q r1 → Calls Tryd.prog 23 #[.pointer (some ⟨q, 0, none⟩), .string ⟨#[110, 111, 116]⟩] w fun e w' => e = .returned (.bool no) ∧ RdAt w' q r2 ∧ Only q w w') := Lib.hid fun w hr => by have := at_any [110, 111, 116] w hr; rw [h2] at this; exact this
    have HLN2 : Hid (r2.l.length ≤ 4000) := Lib.hid (by have := atR_len r1 [110, 111, 116]; rw [h2] at this; have := HLN1.out; have := HLN.out; dsimp only at *; omega)
    rw [HCR.out]
    clear h1 h2
    dsimp only
    obtain ⟨⟨fin, rfin⟩, hfin⟩ : ∃ x, cellEnd r2 [] = x := ⟨_, rfl⟩
    have HFIN := Lib.hid hfin
    rw [hfin]
    clear hfin
    dsimp only
    go_wp2_with (first
      | (go_at_call 23; first
        | ((with_reducible refine HAT1.out.mono ?_); rintro e w1 ⟨rfl, hr1, o1⟩; have H1 := Lib.hid hr1; have O1 := Lib.hid o1; clear hr1 o1)
        | ((with_reducible refine (HAT2.out w1 H1.out).mono ?_); rintro e w2 ⟨rfl, hr2, o2⟩; have H2 := Lib.hid hr2; have O2 := Lib.hid (O1.out.trans o2); clear hr2 o2; obtain ⟨W3, e3, z3, k3, W4, e4, HCI, HS3⟩ : ∃ W3, w2.alloc (.cells #[.bool no, .slice none 0 0] 53) = W3 ∧ W3.frozen? ⟨w2.heap.size, 1, none⟩ = false ∧ W3.cell? ⟨w2.heap.size, 1, none⟩ = some (.slice none 0 0) ∧ ∃ W4, W3.setCell ⟨w2.heap.size, 1, none⟩ (.slice none 0 0) = W4 ∧ Hid (CellI w q w.heap.size w2.heap.size W3.heap.size no r2 (.slice none 0 0) [] W4) ∧ Hid (w2.heap.size < W3.heap.size) := CellI.start HF0.out HF1.out HY0.out HS0.out HQL.out HO0.out H2.out O2.out)))
    clear e0 e3 e4 z3 k3 f0 f1 hs0
    generalize hq3 : w2.heap.size = q3 at *
    generalize hB0 : W3.heap.size = B0 at *
    clear hq3 hB0
    obtain ⟨q2, hq2⟩ : ∃ n, w.heap.size = n := ⟨_, rfl⟩
    have HQ2 := Lib.hid hq2
    rw [hq2] at HCI HQL
    rw [hq2]
    clear hq2
    go_loopw [] (fun wr => ∃ (rr : Rs) (acc : List Rg) (u : Value), wr.cell? ⟨q, 1, none⟩ = some (.bool rr.bad) ∧ wr.cell? ⟨q3, 0, none⟩ = some (.bool no) ∧ wr.cell? ⟨q3, 1, none⟩ = some u ∧ Hid (CellI w q q2 q3 B0 no rr u acc wr) ∧ Hid (cellEnd rr acc = (fin, rfin)) ∧ Hid (acc.length + rr.l.length ≤ 4000)) (fun wr => rdLen wr q)
    case atStart => exact ⟨r2, [], _, HCI.out.rd.bad.1, HCI.out.c0, HCI.out.c1, HCI, HFIN, Lib.hid (by simpa using HLN2.out)⟩
    case round =>
      clear HCI HFIN HLN2
      obtain ⟨⟨l1, b1⟩, acc, u, k0, k1, k2, HCI, HCE, HLA⟩ := hrel
      cases b1
      · obtain ⟨Au, lu, rfl⟩ := HCI.out.own.value
        have hli := numberR_in ⟨l1, false⟩
        obtain ⟨⟨n, r2'⟩, hn⟩ : ∃ x, numberR ⟨l1, false⟩ = x := ⟨_, rfl⟩
        rw [hn] at hli
        have hlen1 := numberR_len ⟨l1, false⟩
        rw [hn] at hlen1
        obtain ⟨⟨b, r3⟩, hp1⟩ : ∃ x, atR r2' [46, 46] = x := ⟨_, rfl⟩
        have hlen2 := atR_len r2' [46, 46]
        rw [hp1] at hlen2
        have HN1 : Hid (Calls Tryd.prog 25 #[.pointer (some ⟨q, 0, none⟩)] wr fun e w' => e = .returned (.int .i64 n) ∧ RdAt w' q r2' ∧ Only q wr w') := Lib.hid (by have := rnumber_any wr HCI.out.rd (fun w' ho => HL.out _ (HCI.out.only.trans ho)); rw [hn] at this; exact this)
        have HP1 : Hid (∀ w, RdAt w q r2' → Calls Tryd.prog 23 #[.pointer (some ⟨q, 0, none⟩), .string ⟨#[46, 46]⟩] w fun e w' => e = .returned (.bool b) ∧ RdAt w' q r3 ∧ Only q w w') := Lib.hid fun w hr => by have := at_any [46, 46] w hr; rw [hp1] at this; exact this
        have HBY : Hid ((acc.length + 1) * rRg.bytes ≤ 140737488355328) := Lib.hid (by have := HLA.out; dsimp only at this; simp only [rRg]; omega)
        cases b
        · obtain ⟨⟨p, r6⟩, hp2⟩ : ∃ x, atR r3 [124] = x := ⟨_, rfl⟩
          have hx : rangeR ⟨l1, false⟩ = ((n, n), r3) := by unfold rangeR; rw [hn]; dsimp only; rw [hp1]; rfl
          have HP2 : Hid (∀ w, RdAt w q r3 → Calls Tryd.prog 23 #[.pointer (some ⟨q, 0, none⟩), .string ⟨#[124]⟩] w fun e w' => e = .returned (.bool p) ∧ RdAt w' q r6 ∧ Only q w w') := Lib.hid fun w hr => by have := at_any [124] w hr; rw [hp2] at this; exact this
          have HNI : Hid (InI n ∧ InI n) := Lib.hid (by unfold InI; dsimp only at hli; omega)
          cases p
          · have HCE2 := Lib.hid ((cellEnd_off acc rfl hx hp2).symm.trans HCE.out)
            clear hn hp1 hp2 hx hli hlen1 hlen2
            go_wp2_with (first | (go_at_call 25; first | ((with_reducible refine HN1.out.mono ?_); rintro e w1 ⟨rfl, hr1, o1⟩; have o1' := HCI.out.only.trans o1; obtain ⟨W2, e2, HC2, j0, j1, y2, HS2⟩ : ∃ W2, w1.alloc (.cells #[.int .i64 n, .int .i64 n] 72) = W2 ∧ Hid (CellI w q q2 q3 B0 no r2' (.slice Au acc.length lu) acc W2) ∧ W2.cell? ⟨w1.heap.size, 0, none⟩ = some (.int .i64 n) ∧ W2.cell? ⟨w1.heap.size, 1, none⟩ = some (.int .i64 n) ∧ W2.frozen? ⟨w1.heap.size, 1, none⟩ = false ∧ Hid (w1.heap.size < W2.heap.size ∧ B0 ≤ w1.heap.size ∧ q < w1.heap.size ∧ w.heap.size ≤ w1.heap.size ∧ ∀ g, (Value.slice Au acc.length lu).ownBlock = some g → g ≠ w1.heap.size) := ⟨_, rfl, Lib.hid ((HCI.out.step o1 hr1).step (Only.alloc _ _) (hr1.alloc _)), World.cell?_alloc_new _ _ _ _, World.cell?_alloc_new _ _ _ _, by simp, Lib.hid ⟨by simp, Nat.le_trans HCI.out.hB o1.size, hr1.lt, o1'.size, fun g hg => (by (have := (HCI.out.own.lt g hg).2; have := o1.size; omega))⟩⟩; clear hr1 o1 o1')) | (go_at_call 23; first | ((with_reducible refine (HP1.out W2 HC2.out.rd).mono ?_); rintro e w3 ⟨rfl, hr3, o3⟩; have HC3 := Lib.hid (HC2.out.step o3 hr3); have i0 := (o3.cell HS2.out.1 (Nat.ne_of_gt HS2.out.2.2.1) 0).trans j0; have i1 := (o3.cell HS2.out.1 (Nat.ne_of_gt HS2.out.2.2.1) 1).trans j1; have iz := (o3.frozen HS2.out.1 (Nat.ne_of_gt HS2.out.2.2.1) 1).trans y2; have kk := HC3.out.c1; have HS3' : Hid (w1.heap.size < w3.heap.size) := Lib.hid (Nat.lt_of_lt_of_le HS2.out.1 o3.size); clear hr3 o3) | ((with_reducible refine (HP2.out W8 HC8.out.rd).mono ?_); rintro e w9 ⟨rfl, hr9, o9⟩; have HC9 := Lib.hid (HC8.out.step o9 hr9); obtain ⟨W9, e9, n0, n1, H9⟩ := HC9.out.done; have g0 := HC9.out.f0; have g1 := HC9.out.f1; have x0 := HC9.out.y 0; have x1 := HC9.out.y 1; have d0 := HC9.out.c0; have d1 := HC9.out.c1; clear hr9 o9)) | (at_builtin; go_must (refine wpList_append_new (R := rRg) (x := (n, n)) el_Rg rfl (.tmp 42) (.tmp 44) rfl rfl HC3.out.own [.int .i64 n, .int .i64 n] rfl rfl (fun _ => False) ⟨rfl, HNI.out.1, HNI.out.2⟩ (fun _ h => h.elim) HBY.out HC3.out.hB ?_); intro v7 w7 hown7 hb7 _ _; obtain ⟨A7, l7, rfl⟩ : ∃ A7 l7, v7 = .slice A7 (acc.length + 1) l7 := (by (obtain ⟨A7, l7, h⟩ := hown7.value; exact ⟨A7, l7, by rw [h, List.length_append, List.length_singleton]⟩)); obtain ⟨hc8, k8, z8⟩ := HC3.out.grow hb7 hown7; obtain ⟨W8, e8, HC8⟩ : ∃ W8, w7.setCell ⟨q3, 1, none⟩ (.slice A7 (acc.length + 1) l7) = W8 ∧ Hid (CellI w q q2 q3 B0 no r3 (.slice A7 (acc.length + 1) l7) (acc ++ [(n, n)]) W8) := ⟨_, rfl, Lib.hid hc8⟩; clear hc8 hown7 hb7))
            refine bodyPost_ret (by simp [results, Tryd.results58, go_sem, n0, n1]; rfl) rfl ?_
            have hz := HCE2.out
            injection hz with hz1 hz2
            exact ⟨_, rfl, by rw [← hz1]; exact H9.out.1, by rw [← hz2]; exact H9.out.2.1, H9.out.2.2⟩
          · have HCE2 := Lib.hid ((cellEnd_on acc rfl hx hp2).symm.trans HCE.out)
            have HLT : Hid (r6.l.length < l1.length ∧ r6.l.length < r3.l.length) := Lib.hid (by have h := atR_lt (r := r3) (s := [124]) (by rw [hp2]); rw [hp2] at h; dsimp only at h hlen1 hlen2; omega)
            clear hn hp1 hp2 hx hli hlen1 hlen2
            go_wp2_with (first | (go_at_call 25; first | ((with_reducible refine HN1.out.mono ?_); rintro e w1 ⟨rfl, hr1, o1⟩; have o1' := HCI.out.only.trans o1; obtain ⟨W2, e2, HC2, j0, j1, y2, HS2⟩ : ∃ W2, w1.alloc (.cells #[.int .i64 n, .int .i64 n] 72) = W2 ∧ Hid (CellI w q q2 q3 B0 no r2' (.slice Au acc.length lu) acc W2) ∧ W2.cell? ⟨w1.heap.size, 0, none⟩ = some (.int .i64 n) ∧ W2.cell? ⟨w1.heap.size, 1, none⟩ = some (.int .i64 n) ∧ W2.frozen? ⟨w1.heap.size, 1, none⟩ = false ∧ Hid (w1.heap.size < W2.heap.size ∧ B0 ≤ w1.heap.size ∧ q < w1.heap.size ∧ w.heap.size ≤ w1.heap.size ∧ ∀ g, (Value.slice Au acc.length lu).ownBlock = some g → g ≠ w1.heap.size) := ⟨_, rfl, Lib.hid ((HCI.out.step o1 hr1).step (Only.alloc _ _) (hr1.alloc _)), World.cell?_alloc_new _ _ _ _, World.cell?_alloc_new _ _ _ _, by simp, Lib.hid ⟨by simp, Nat.le_trans HCI.out.hB o1.size, hr1.lt, o1'.size, fun g hg => (by (have := (HCI.out.own.lt g hg).2; have := o1.size; omega))⟩⟩; clear hr1 o1 o1')) | (go_at_call 23; first | ((with_reducible refine (HP1.out W2 HC2.out.rd).mono ?_); rintro e w3 ⟨rfl, hr3, o3⟩; have HC3 := Lib.hid (HC2.out.step o3 hr3); have i0 := (o3.cell HS2.out.1 (Nat.ne_of_gt HS2.out.2.2.1) 0).trans j0; have i1 := (o3.cell HS2.out.1 (Nat.ne_of_gt HS2.out.2.2.1) 1).trans j1; have iz := (o3.frozen HS2.out.1 (Nat.ne_of_gt HS2.out.2.2.1) 1).trans y2; have kk := HC3.out.c1; have HS3' : Hid (w1.heap.size < w3.heap.size) := Lib.hid (Nat.lt_of_lt_of_le HS2.out.1 o3.size); clear hr3 o3) | ((with_reducible refine (HP2.out W8 HC8.out.rd).mono ?_); rintro e w9 ⟨rfl, hr9, o9⟩; have HC9 := Lib.hid (HC8.out.step o9 hr9); clear hr9 o9)) | (at_builtin; go_must (refine wpList_append_new (R := rRg) (x := (n, n)) el_Rg rfl (.tmp 42) (.tmp 44) rfl rfl HC3.out.own [.int .i64 n, .int .i64 n] rfl rfl (fun _ => False) ⟨rfl, HNI.out.1, HNI.out.2⟩ (fun _ h => h.elim) HBY.out HC3.out.hB ?_); intro v7 w7 hown7 hb7 _ _; obtain ⟨A7, l7, rfl⟩ : ∃ A7 l7, v7 = .slice A7 (acc.length + 1) l7 := (by (obtain ⟨A7, l7, h⟩ := hown7.value; exact ⟨A7, l7, by rw [h, List.length_append, List.length_singleton]⟩)); obtain ⟨hc8, k8, z8⟩ := HC3.out.grow hb7 hown7; obtain ⟨W8, e8, HC8⟩ : ∃ W8, w7.setCell ⟨q3, 1, none⟩ (.slice A7 (acc.length + 1) l7) = W8 ∧ Hid (CellI w q q2 q3 B0 no r3 (.slice A7 (acc.length + 1) l7) (acc ++ [(n, n)]) W8) := ⟨_, rfl, Lib.hid hc8⟩; clear hc8 hown7 hb7))
            go_roundw
            case rel => exact ⟨r6, acc ++ [(n, n)], _, HC9.out.rd.bad.1, HC9.out.c0, HC9.out.c1, HC9, HCE2, Lib.hid (by have := HLT.out; have := HLA.out; rw [List.length_append, List.length_singleton]; have h2 : acc.length + l1.length ≤ 4000 := this; omega)⟩
            case measure => rw [HC9.out.rd.len, HCI.out.rd.len]; exact HLT.out.1
        · have hmi := numberR_in r3
          have hlen3 := numberR_len r3
          obtain ⟨⟨m, ⟨l4, b4⟩⟩, hm⟩ : ∃ x, numberR r3 = x := ⟨_, rfl⟩
          rw [hm] at hmi hlen3
          have HNI : Hid (InI n ∧ InI m) := Lib.hid (by unfold InI; dsimp only at hli hmi; omega)
          have HN2 : Hid (∀ w', RdAt w' q r3 → Only q w w' → Calls Tryd.prog 25 #[.pointer (some ⟨q, 0, none⟩)] w' fun e w'' => e = .returned (.int .i64 m) ∧ RdAt w'' q ⟨l4, b4⟩ ∧ Only q w' w'') := Lib.hid fun w' hr ho => by have := rnumber_any w' hr (fun w'' ho' => HL.out _ (ho.trans ho')); rw [hm] at this; exact this
          have hx : rangeR ⟨l1, false⟩ = ((n, m), ⟨l4, b4 || decide (m ≤ n)⟩) := by unfold rangeR; rw [hn]; dsimp only; rw [hp1]; dsimp only; rw [hm]; rfl
          cases b4
          · by_cases hmn : m ≤ n
            · have hx : rangeR ⟨l1, false⟩ = ((n, m), ⟨l4, true⟩) := by rw [hx, decide_eq_true hmn]; rfl
              obtain ⟨⟨p, r6⟩, hp2⟩ : ∃ x, atR ⟨l4, true⟩ [124] = x := ⟨_, rfl⟩
              have HP2 : Hid (∀ w, RdAt w q ⟨l4, true⟩ → Calls Tryd.prog 23 #[.pointer (some ⟨q, 0, none⟩), .string ⟨#[124]⟩] w fun e w' => e = .returned (.bool p) ∧ RdAt w' q r6 ∧ Only q w w') := Lib.hid fun w hr => by have := at_any [124] w hr; rw [hp2] at this; exact this
              cases p
              · have HCE2 := Lib.hid ((cellEnd_off acc rfl hx hp2).symm.trans HCE.out)
                clear hn hp1 hp2 hx hm hli hmi hlen1 hlen2 hlen3
                go_wp2_with (first | (go_at_call 25; first | ((with_reducible refine HN1.out.mono ?_); rintro e w1 ⟨rfl, hr1, o1⟩; have o1' := HCI.out.only.trans o1; obtain ⟨W2, e2, HC2, j0, j1, y2, HS2⟩ : ∃ W2, w1.alloc (.cells #[.int .i64 n, .int .i64 n] 72) = W2 ∧ Hid (CellI w q q2 q3 B0 no r2' (.slice Au acc.length lu) acc W2) ∧ W2.cell? ⟨w1.heap.size, 0, none⟩ = some (.int .i64 n) ∧ W2.cell? ⟨w1.heap.size, 1, none⟩ = some (.int .i64 n) ∧ W2.frozen? ⟨w1.heap.size, 1, none⟩ = false ∧ Hid (w1.heap.size < W2.heap.size ∧ B0 ≤ w1.heap.size ∧ q < w1.heap.size ∧ w.heap.size ≤ w1.heap.size ∧ ∀ g, (Value.slice Au acc.length lu).ownBlock = some g → g ≠ w1.heap.size) := ⟨_, rfl, Lib.hid ((HCI.out.step o1 hr1).step (Only.alloc _ _) (hr1.alloc _)), World.cell?_alloc_new _ _ _ _, World.cell?_alloc_new _ _ _ _, by simp, Lib.hid ⟨by simp, Nat.le_trans HCI.out.hB o1.size, hr1.lt, o1'.size, fun g hg => (by (have := (HCI.out.own.lt g hg).2; have := o1.size; omega))⟩⟩; clear hr1 o1 o1') | (go_must ((with_reducible refine (HN2.out w3 HC3.out.rd HC3.out.only).mono ?_); rintro e w4 ⟨rfl, hr4, o4⟩; have HC4 := Lib.hid (HC3.out.step o4 hr4); have p1 := (o4.cell HS3'.out (Nat.ne_of_gt HS2.out.2.2.1) 1).trans i1; have p0 := (o4.cell HS3'.out (Nat.ne_of_gt HS2.out.2.2.1) 0).trans i0; have pz := (o4.frozen HS3'.out (Nat.ne_of_gt HS2.out.2.2.1) 1).trans iz; obtain ⟨W5, e5, HC5, m0, m1, hbd, hbz⟩ := HC4.out.second HS2.out.2.1 HS2.out.2.2.1 HS2.out.2.2.2.1 HS2.out.2.2.2.2 (.int .i64 m) p0 p1; obtain ⟨W6, e6, HC6, t0, t1, t2⟩ := HC5.out.mark true HS2.out.2.2.1 m0 m1; clear hr4 o4))) | (go_at_call 23; first | ((with_reducible refine (HP1.out W2 HC2.out.rd).mono ?_); rintro e w3 ⟨rfl, hr3, o3⟩; have HC3 := Lib.hid (HC2.out.step o3 hr3); have i0 := (o3.cell HS2.out.1 (Nat.ne_of_gt HS2.out.2.2.1) 0).trans j0; have i1 := (o3.cell HS2.out.1 (Nat.ne_of_gt HS2.out.2.2.1) 1).trans j1; have iz := (o3.frozen HS2.out.1 (Nat.ne_of_gt HS2.out.2.2.1) 1).trans y2; have kk := HC3.out.c1; have HS3' : Hid (w1.heap.size < w3.heap.size) := Lib.hid (Nat.lt_of_lt_of_le HS2.out.1 o3.size); clear hr3 o3) | ((with_reducible refine (HP2.out W8 HC8.out.rd).mono ?_); rintro e w9 ⟨rfl, hr9, o9⟩; have HC9 := Lib.hid (HC8.out.step o9 hr9); obtain ⟨W9, e9, n0, n1, H9⟩ := HC9.out.done; have g0 := HC9.out.f0; have g1 := HC9.out.f1; have x0 := HC9.out.y 0; have x1 := HC9.out.y 1; have d0 := HC9.out.c0; have d1 := HC9.out.c1; clear hr9 o9)) | (at_builtin; go_must (refine wpList_append_new (R := rRg) (x := (n, m)) el_Rg rfl (.tmp 42) (.tmp 44) rfl rfl HC6.out.own [.int .i64 n, .int .i64 m] rfl rfl (fun _ => False) ⟨rfl, HNI.out.1, HNI.out.2⟩ (fun _ h => h.elim) HBY.out HC6.out.hB ?_); intro v7 w7 hown7 hb7 _ _; obtain ⟨A7, l7, rfl⟩ : ∃ A7 l7, v7 = .slice A7 (acc.length + 1) l7 := (by (obtain ⟨A7, l7, h⟩ := hown7.value; exact ⟨A7, l7, by rw [h, List.length_append, List.length_singleton]⟩)); obtain ⟨hc8, k8, z8⟩ := HC6.out.grow hb7 hown7; obtain ⟨W8, e8, HC8⟩ : ∃ W8, w7.setCell ⟨q3, 1, none⟩ (.slice A7 (acc.length + 1) l7) = W8 ∧ Hid (CellI w q q2 q3 B0 no ⟨l4, true⟩ (.slice A7 (acc.length + 1) l7) (acc ++ [(n, m)]) W8) := ⟨_, rfl, Lib.hid hc8⟩; clear hc8 hown7 hb7))
                refine bodyPost_ret (by simp [results, Tryd.results58, go_sem, n0, n1]; rfl) rfl ?_
                have hz := HCE2.out
                injection hz with hz1 hz2
                exact ⟨_, rfl, by rw [← hz1]; exact H9.out.1, by rw [← hz2]; exact H9.out.2.1, H9.out.2.2⟩
              · have HCE2 := Lib.hid ((cellEnd_on acc rfl hx hp2).symm.trans HCE.out)
                have HLT : Hid (r6.l.length < l1.length) := Lib.hid (by have h := atR_lt (r := ⟨l4, true⟩) (s := [124]) (by rw [hp2]); rw [hp2] at h; dsimp only at h hlen1 hlen2 hlen3; omega)
                clear hn hp1 hp2 hx hm hli hmi hlen1 hlen2 hlen3
                go_wp2_with (first | (go_at_call 25; first | ((with_reducible refine HN1.out.mono ?_); rintro e w1 ⟨rfl, hr1, o1⟩; have o1' := HCI.out.only.trans o1; obtain ⟨W2, e2, HC2, j0, j1, y2, HS2⟩ : ∃ W2, w1.alloc (.cells #[.int .i64 n, .int .i64 n] 72) = W2 ∧ Hid (CellI w q q2 q3 B0 no r2' (.slice Au acc.length lu) acc W2) ∧ W2.cell? ⟨w1.heap.size, 0, none⟩ = some (.int .i64 n) ∧ W2.cell? ⟨w1.heap.size, 1, none⟩ = some (.int .i64 n) ∧ W2.frozen? ⟨w1.heap.size, 1, none⟩ = false ∧ Hid (w1.heap.size < W2.heap.size ∧ B0 ≤ w1.heap.size ∧ q < w1.heap.size ∧ w.heap.size ≤ w1.heap.size ∧ ∀ g, (Value.slice Au acc.length lu).ownBlock = some g → g ≠ w1.heap.size) := ⟨_, rfl, Lib.hid ((HCI.out.step o1 hr1).step (Only.alloc _ _) (hr1.alloc _)), World.cell?_alloc_new _ _ _ _, World.cell?_alloc_new _ _ _ _, by simp, Lib.hid ⟨by simp, Nat.le_trans HCI.out.hB o1.size, hr1.lt, o1'.size, fun g hg => (by (have := (HCI.out.own.lt g hg).2; have := o1.size; omega))⟩⟩; clear hr1 o1 o1') | (go_must ((with_reducible refine (HN2.out w3 HC3.out.rd HC3.out.only).mono ?_); rintro e w4 ⟨rfl, hr4, o4⟩; have HC4 := Lib.hid (HC3.out.step o4 hr4); have p1 := (o4.cell HS3'.out (Nat.ne_of_gt HS2.out.2.2.1) 1).trans i1; have p0 := (o4.cell HS3'.out (Nat.ne_of_gt HS2.out.2.2.1) 0).trans i0; have pz := (o4.frozen HS3'.out (Nat.ne_of_gt HS2.out.2.2.1) 1).trans iz; obtain ⟨W5, e5, HC5, m0, m1, hbd, hbz⟩ := HC4.out.second HS2.out.2.1 HS2.out.2.2.1 HS2.out.2.2.2.1 HS2.out.2.2.2.2 (.int .i64 m) p0 p1; obtain ⟨W6, e6, HC6, t0, t1, t2⟩ := HC5.out.mark true HS2.out.2.2.1 m0 m1; clear hr4 o4))) | (go_at_call 23; first | ((with_reducible refine (HP1.out W2 HC2.out.rd).mono ?_); rintro e w3 ⟨rfl, hr3, o3⟩; have HC3 := Lib.hid (HC2.out.step o3 hr3); have i0 := (o3.cell HS2.out.1 (Nat.ne_of_gt HS2.out.2.2.1) 0).trans j0; have i1 := (o3.cell HS2.out.1 (Nat.ne_of_gt HS2.out.2.2.1) 1).trans j1; have iz := (o3.frozen HS2.out.1 (Nat.ne_of_gt HS2.out.2.2.1) 1).trans y2; have kk := HC3.out.c1; have HS3' : Hid (w1.heap.size < w3.heap.size) := Lib.hid (Nat.lt_of_lt_of_le HS2.out.1 o3.size); clear hr3 o3) | ((with_reducible refine (HP2.out W8 HC8.out.rd).mono ?_); rintro e w9 ⟨rfl, hr9, o9⟩; have HC9 := Lib.hid (HC8.out.step o9 hr9); clear hr9 o9)) | (at_builtin; go_must (refine wpList_append_new (R := rRg) (x := (n, m)) el_Rg rfl (.tmp 42) (.tmp 44) rfl rfl HC6.out.own [.int .i64 n, .int .i64 m] rfl rfl (fun _ => False) ⟨rfl, HNI.out.1, HNI.out.2⟩ (fun _ h => h.elim) HBY.out HC6.out.hB ?_); intro v7 w7 hown7 hb7 _ _; obtain ⟨A7, l7, rfl⟩ : ∃ A7 l7, v7 = .slice A7 (acc.length + 1) l7 := (by (obtain ⟨A7, l7, h⟩ := hown7.value; exact ⟨A7, l7, by rw [h, List.length_append, List.length_singleton]⟩)); obtain ⟨hc8, k8, z8⟩ := HC6.out.grow hb7 hown7; obtain ⟨W8, e8, HC8⟩ : ∃ W8, w7.setCell ⟨q3, 1, none⟩ (.slice A7 (acc.length + 1) l7) = W8 ∧ Hid (CellI w q q2 q3 B0 no ⟨l4, true⟩ (.slice A7 (acc.length + 1) l7) (acc ++ [(n, m)]) W8) := ⟨_, rfl, Lib.hid hc8⟩; clear hc8 hown7 hb7))
                go_roundw
                case rel => exact ⟨r6, acc ++ [(n, m)], _, HC9.out.rd.bad.1, HC9.out.c0, HC9.out.c1, HC9, HCE2, Lib.hid (by have := HLT.out; have h2 : acc.length + l1.length ≤ 4000 := HLA.out; rw [List.length_append, List.length_singleton]; omega)⟩
                case measure => rw [HC9.out.rd.len, HCI.out.rd.len]; exact HLT.out
            · have hx : rangeR ⟨l1, false⟩ = ((n, m), ⟨l4, false⟩) := by rw [hx, decide_eq_false hmn]; rfl
              have hdf : decide (m ≤ n) = false := decide_eq_false hmn
              obtain ⟨⟨p, r6⟩, hp2⟩ : ∃ x, atR ⟨l4, false⟩ [124] = x := ⟨_, rfl⟩
              have HP2 : Hid (∀ w, RdAt w q ⟨l4, false⟩ → Calls Tryd.prog 23 #[.pointer (some ⟨q, 0, none⟩), .string ⟨#[124]⟩] w fun e w' => e = .returned (.bool p) ∧ RdAt w' q r6 ∧ Only q w w') := Lib.hid fun w hr => by have := at_any [124] w hr; rw [hp2] at this; exact this
              cases p
              · have HCE2 := Lib.hid ((cellEnd_off acc rfl hx hp2).symm.trans HCE.out)
                clear hn hp1 hp2 hx hm hli hmi hlen1 hlen2 hlen3
                go_wp2_with (first | (go_at_call 25; first | ((with_reducible refine HN1.out.mono ?_); rintro e w1 ⟨rfl, hr1, o1⟩; have o1' := HCI.out.only.trans o1; obtain ⟨W2, e2, HC2, j0, j1, y2, HS2⟩ : ∃ W2, w1.alloc (.cells #[.int .i64 n, .int .i64 n] 72) = W2 ∧ Hid (CellI w q q2 q3 B0 no r2' (.slice Au acc.length lu) acc W2) ∧ W2.cell? ⟨w1.heap.size, 0, none⟩ = some (.int .i64 n) ∧ W2.cell? ⟨w1.heap.size, 1, none⟩ = some (.int .i64 n) ∧ W2.frozen? ⟨w1.heap.size, 1, none⟩ = false ∧ Hid (w1.heap.size < W2.heap.size ∧ B0 ≤ w1.heap.size ∧ q < w1.heap.size ∧ w.heap.size ≤ w1.heap.size ∧ ∀ g, (Value.slice Au acc.length lu).ownBlock = some g → g ≠ w1.heap.size) := ⟨_, rfl, Lib.hid ((HCI.out.step o1 hr1).step (Only.alloc _ _) (hr1.alloc _)), World.cell?_alloc_new _ _ _ _, World.cell?_alloc_new _ _ _ _, by simp, Lib.hid ⟨by simp, Nat.le_trans HCI.out.hB o1.size, hr1.lt, o1'.size, fun g hg => (by (have := (HCI.out.own.lt g hg).2; have := o1.size; omega))⟩⟩; clear hr1 o1 o1') | (go_must ((with_reducible refine (HN2.out w3 HC3.out.rd HC3.out.only).mono ?_); rintro e w4 ⟨rfl, hr4, o4⟩; have HC4 := Lib.hid (HC3.out.step o4 hr4); have p1 := (o4.cell HS3'.out (Nat.ne_of_gt HS2.out.2.2.1) 1).trans i1; have p0 := (o4.cell HS3'.out (Nat.ne_of_gt HS2.out.2.2.1) 0).trans i0; have pz := (o4.frozen HS3'.out (Nat.ne_of_gt HS2.out.2.2.1) 1).trans iz; obtain ⟨W5, e5, HC5, m0, m1, hbd, hbz⟩ := HC4.out.second HS2.out.2.1 HS2.out.2.2.1 HS2.out.2.2.2.1 HS2.out.2.2.2.2 (.int .i64 m) p0 p1; obtain ⟨W6, e6, HC6, t0, t1, t2⟩ := HC5.out.mark false HS2.out.2.2.1 m0 m1; clear hr4 o4))) | (go_at_call 23; first | ((with_reducible refine (HP1.out W2 HC2.out.rd).mono ?_); rintro e w3 ⟨rfl, hr3, o3⟩; have HC3 := Lib.hid (HC2.out.step o3 hr3); have i0 := (o3.cell HS2.out.1 (Nat.ne_of_gt HS2.out.2.2.1) 0).trans j0; have i1 := (o3.cell HS2.out.1 (Nat.ne_of_gt HS2.out.2.2.1) 1).trans j1; have iz := (o3.frozen HS2.out.1 (Nat.ne_of_gt HS2.out.2.2.1) 1).trans y2; have kk := HC3.out.c1; have HS3' : Hid (w1.heap.size < w3.heap.size) := Lib.hid (Nat.lt_of_lt_of_le HS2.out.1 o3.size); clear hr3 o3) | ((with_reducible refine (HP2.out W8 HC8.out.rd).mono ?_); rintro e w9 ⟨rfl, hr9, o9⟩; have HC9 := Lib.hid (HC8.out.step o9 hr9); obtain ⟨W9, e9, n0, n1, H9⟩ := HC9.out.done; have g0 := HC9.out.f0; have g1 := HC9.out.f1; have x0 := HC9.out.y 0; have x1 := HC9.out.y 1; have d0 := HC9.out.c0; have d1 := HC9.out.c1; clear hr9 o9)) | (at_builtin; go_must (refine wpList_append_new (R := rRg) (x := (n, m)) el_Rg rfl (.tmp 42) (.tmp 44) rfl rfl HC6.out.own [.int .i64 n, .int .i64 m] rfl rfl (fun _ => False) ⟨rfl, HNI.out.1, HNI.out.2⟩ (fun _ h => h.elim) HBY.out HC6.out.hB ?_); intro v7 w7 hown7 hb7 _ _; obtain ⟨A7, l7, rfl⟩ : ∃ A7 l7, v7 = .slice A7 (acc.length + 1) l7 := (by (obtain ⟨A7, l7, h⟩ := hown7.value; exact ⟨A7, l7, by rw [h, List.length_append, List.length_singleton]⟩)); obtain ⟨hc8, k8, z8⟩ := HC6.out.grow hb7 hown7; obtain ⟨W8, e8, HC8⟩ : ∃ W8, w7.setCell ⟨q3, 1, none⟩ (.slice A7 (acc.length + 1) l7) = W8 ∧ Hid (CellI w q q2 q3 B0 no ⟨l4, false⟩ (.slice A7 (acc.length + 1) l7) (acc ++ [(n, m)]) W8) := ⟨_, rfl, Lib.hid hc8⟩; clear hc8 hown7 hb7))
                refine bodyPost_ret (by simp [results, Tryd.results58, go_sem, n0, n1]; rfl) rfl ?_
                have hz := HCE2.out
                injection hz with hz1 hz2
                exact ⟨_, rfl, by rw [← hz1]; exact H9.out.1, by rw [← hz2]; exact H9.out.2.1, H9.out.2.2⟩
              · have HCE2 := Lib.hid ((cellEnd_on acc rfl hx hp2).symm.trans HCE.out)
                have HLT : Hid (r6.l.length < l1.length) := Lib.hid (by have h := atR_lt (r := ⟨l4, false⟩) (s := [124]) (by rw [hp2]); rw [hp2] at h; dsimp only at h hlen1 hlen2 hlen3; omega)
                clear hn hp1 hp2 hx hm hli hmi hlen1 hlen2 hlen3
                go_wp2_with (first | (go_at_call 25; first | ((with_reducible refine HN1.out.mono ?_); rintro e w1 ⟨rfl, hr1, o1⟩; have o1' := HCI.out.only.trans o1; obtain ⟨W2, e2, HC2, j0, j1, y2, HS2⟩ : ∃ W2, w1.alloc (.cells #[.int .i64 n, .int .i64 n] 72) = W2 ∧ Hid (CellI w q q2 q3 B0 no r2' (.slice Au acc.length lu) acc W2) ∧ W2.cell? ⟨w1.heap.size, 0, none⟩ = some (.int .i64 n) ∧ W2.cell? ⟨w1.heap.size, 1, none⟩ = some (.int .i64 n) ∧ W2.frozen? ⟨w1.heap.size, 1, none⟩ = false ∧ Hid (w1.heap.size < W2.heap.size ∧ B0 ≤ w1.heap.size ∧ q < w1.heap.size ∧ w.heap.size ≤ w1.heap.size ∧ ∀ g, (Value.slice Au acc.length lu).ownBlock = some g → g ≠ w1.heap.size) := ⟨_, rfl, Lib.hid ((HCI.out.step o1 hr1).step (Only.alloc _ _) (hr1.alloc _)), World.cell?_alloc_new _ _ _ _, World.cell?_alloc_new _ _ _ _, by simp, Lib.hid ⟨by simp, Nat.le_trans HCI.out.hB o1.size, hr1.lt, o1'.size, fun g hg => (by (have := (HCI.out.own.lt g hg).2; have := o1.size; omega))⟩⟩; clear hr1 o1 o1') | (go_must ((with_reducible refine (HN2.out w3 HC3.out.rd HC3.out.only).mono ?_); rintro e w4 ⟨rfl, hr4, o4⟩; have HC4 := Lib.hid (HC3.out.step o4 hr4); have p1 := (o4.cell HS3'.out (Nat.ne_of_gt HS2.out.2.2.1) 1).trans i1; have p0 := (o4.cell HS3'.out (Nat.ne_of_gt HS2.out.2.2.1) 0).trans i0; have pz := (o4.frozen HS3'.out (Nat.ne_of_gt HS2.out.2.2.1) 1).trans iz; obtain ⟨W5, e5, HC5, m0, m1, hbd, hbz⟩ := HC4.out.second HS2.out.2.1 HS2.out.2.2.1 HS2.out.2.2.2.1 HS2.out.2.2.2.2 (.int .i64 m) p0 p1; obtain ⟨W6, e6, HC6, t0, t1, t2⟩ := HC5.out.mark false HS2.out.2.2.1 m0 m1; clear hr4 o4))) | (go_at_call 23; first | ((with_reducible refine (HP1.out W2 HC2.out.rd).mono ?_); rintro e w3 ⟨rfl, hr3, o3⟩; have HC3 := Lib.hid (HC2.out.step o3 hr3); have i0 := (o3.cell HS2.out.1 (Nat.ne_of_gt HS2.out.2.2.1) 0).trans j0; have i1 := (o3.cell HS2.out.1 (Nat.ne_of_gt HS2.out.2.2.1) 1).trans j1; have iz := (o3.frozen HS2.out.1 (Nat.ne_of_gt HS2.out.2.2.1) 1).trans y2; have kk := HC3.out.c1; have HS3' : Hid (w1.heap.size < w3.heap.size) := Lib.hid (Nat.lt_of_lt_of_le HS2.out.1 o3.size); clear hr3 o3) | ((with_reducible refine (HP2.out W8 HC8.out.rd).mono ?_); rintro e w9 ⟨rfl, hr9, o9⟩; have HC9 := Lib.hid (HC8.out.step o9 hr9); clear hr9 o9)) | (at_builtin; go_must (refine wpList_append_new (R := rRg) (x := (n, m)) el_Rg rfl (.tmp 42) (.tmp 44) rfl rfl HC6.out.own [.int .i64 n, .int .i64 m] rfl rfl (fun _ => False) ⟨rfl, HNI.out.1, HNI.out.2⟩ (fun _ h => h.elim) HBY.out HC6.out.hB ?_); intro v7 w7 hown7 hb7 _ _; obtain ⟨A7, l7, rfl⟩ : ∃ A7 l7, v7 = .slice A7 (acc.length + 1) l7 := (by (obtain ⟨A7, l7, h⟩ := hown7.value; exact ⟨A7, l7, by rw [h, List.length_append, List.length_singleton]⟩)); obtain ⟨hc8, k8, z8⟩ := HC6.out.grow hb7 hown7; obtain ⟨W8, e8, HC8⟩ : ∃ W8, w7.setCell ⟨q3, 1, none⟩ (.slice A7 (acc.length + 1) l7) = W8 ∧ Hid (CellI w q q2 q3 B0 no ⟨l4, false⟩ (.slice A7 (acc.length + 1) l7) (acc ++ [(n, m)]) W8) := ⟨_, rfl, Lib.hid hc8⟩; clear hc8 hown7 hb7))
                go_roundw
                case rel => exact ⟨r6, acc ++ [(n, m)], _, HC9.out.rd.bad.1, HC9.out.c0, HC9.out.c1, HC9, HCE2, Lib.hid (by have := HLT.out; have h2 : acc.length + l1.length ≤ 4000 := HLA.out; rw [List.length_append, List.length_singleton]; omega)⟩
                case measure => rw [HC9.out.rd.len, HCI.out.rd.len]; exact HLT.out
          · have hx : rangeR ⟨l1, false⟩ = ((n, m), ⟨l4, true⟩) := hx
            obtain ⟨⟨p, r6⟩, hp2⟩ : ∃ x, atR ⟨l4, true⟩ [124] = x := ⟨_, rfl⟩
            have HP2 : Hid (∀ w, RdAt w q ⟨l4, true⟩ → Calls Tryd.prog 23 #[.pointer (some ⟨q, 0, none⟩), .string ⟨#[124]⟩] w fun e w' => e = .returned (.bool p) ∧ RdAt w' q r6 ∧ Only q w w') := Lib.hid fun w hr => by have := at_any [124] w hr; rw [hp2] at this; exact this
            cases p
            · have HCE2 := Lib.hid ((cellEnd_off acc rfl hx hp2).symm.trans HCE.out)
              clear hn hp1 hp2 hx hm hli hmi hlen1 hlen2 hlen3
              go_wp2_with (first | (go_at_call 25; first | ((with_reducible refine HN1.out.mono ?_); rintro e w1 ⟨rfl, hr1, o1⟩; have o1' := HCI.out.only.trans o1; obtain ⟨W2, e2, HC2, j0, j1, y2, HS2⟩ : ∃ W2, w1.alloc (.cells #[.int .i64 n, .int .i64 n] 72) = W2 ∧ Hid (CellI w q q2 q3 B0 no r2' (.slice Au acc.length lu) acc W2) ∧ W2.cell? ⟨w1.heap.size, 0, none⟩ = some (.int .i64 n) ∧ W2.cell? ⟨w1.heap.size, 1, none⟩ = some (.int .i64 n) ∧ W2.frozen? ⟨w1.heap.size, 1, none⟩ = false ∧ Hid (w1.heap.size < W2.heap.size ∧ B0 ≤ w1.heap.size ∧ q < w1.heap.size ∧ w.heap.size ≤ w1.heap.size ∧ ∀ g, (Value.slice Au acc.length lu).ownBlock = some g → g ≠ w1.heap.size) := ⟨_, rfl, Lib.hid ((HCI.out.step o1 hr1).step (Only.alloc _ _) (hr1.alloc _)), World.cell?_alloc_new _ _ _ _, World.cell?_alloc_new _ _ _ _, by simp, Lib.hid ⟨by simp, Nat.le_trans HCI.out.hB o1.size, hr1.lt, o1'.size, fun g hg => (by (have := (HCI.out.own.lt g hg).2; have := o1.size; omega))⟩⟩; clear hr1 o1 o1') | (go_must ((with_reducible refine (HN2.out w3 HC3.out.rd HC3.out.only).mono ?_); rintro e w4 ⟨rfl, hr4, o4⟩; have HC4 := Lib.hid (HC3.out.step o4 hr4); have p1 := (o4.cell HS3'.out (Nat.ne_of_gt HS2.out.2.2.1) 1).trans i1; have p0 := (o4.cell HS3'.out (Nat.ne_of_gt HS2.out.2.2.1) 0).trans i0; have pz := (o4.frozen HS3'.out (Nat.ne_of_gt HS2.out.2.2.1) 1).trans iz; obtain ⟨W5, e5, HC5, m0, m1, hbd, hbz⟩ := HC4.out.second HS2.out.2.1 HS2.out.2.2.1 HS2.out.2.2.2.1 HS2.out.2.2.2.2 (.int .i64 m) p0 p1; obtain ⟨W6, e6, HC6, t0, t1, t2⟩ := HC5.out.mark true HS2.out.2.2.1 m0 m1; clear hr4 o4))) | (go_at_call 23; first | ((with_reducible refine (HP1.out W2 HC2.out.rd).mono ?_); rintro e w3 ⟨rfl, hr3, o3⟩; have HC3 := Lib.hid (HC2.out.step o3 hr3); have i0 := (o3.cell HS2.out.1 (Nat.ne_of_gt HS2.out.2.2.1) 0).trans j0; have i1 := (o3.cell HS2.out.1 (Nat.ne_of_gt HS2.out.2.2.1) 1).trans j1; have iz := (o3.frozen HS2.out.1 (Nat.ne_of_gt HS2.out.2.2.1) 1).trans y2; have kk := HC3.out.c1; have HS3' : Hid (w1.heap.size < w3.heap.size) := Lib.hid (Nat.lt_of_lt_of_le HS2.out.1 o3.size); clear hr3 o3) | ((with_reducible refine (HP2.out W8 HC8.out.rd).mono ?_); rintro e w9 ⟨rfl, hr9, o9⟩; have HC9 := Lib.hid (HC8.out.step o9 hr9); obtain ⟨W9, e9, n0, n1, H9⟩ := HC9.out.done; have g0 := HC9.out.f0; have g1 := HC9.out.f1; have x0 := HC9.out.y 0; have x1 := HC9.out.y 1; have d0 := HC9.out.c0; have d1 := HC9.out.c1; clear hr9 o9)) | (at_builtin; go_must (refine wpList_append_new (R := rRg) (x := (n, m)) el_Rg rfl (.tmp 42) (.tmp 44) rfl rfl HC6.out.own [.int .i64 n, .int .i64 m] rfl rfl (fun _ => False) ⟨rfl, HNI.out.1, HNI.out.2⟩ (fun _ h => h.elim) HBY.out HC6.out.hB ?_); intro v7 w7 hown7 hb7 _ _; obtain ⟨A7, l7, rfl⟩ : ∃ A7 l7, v7 = .slice A7 (acc.length + 1) l7 := (by (obtain ⟨A7, l7, h⟩ := hown7.value; exact ⟨A7, l7, by rw [h, List.length_append, List.length_singleton]⟩)); obtain ⟨hc8, k8, z8⟩ := HC6.out.grow hb7 hown7; obtain ⟨W8, e8, HC8⟩ : ∃ W8, w7.setCell ⟨q3, 1, none⟩ (.slice A7 (acc.length + 1) l7) = W8 ∧ Hid (CellI w q q2 q3 B0 no ⟨l4, true⟩ (.slice A7 (acc.length + 1) l7) (acc ++ [(n, m)]) W8) := ⟨_, rfl, Lib.hid hc8⟩; clear hc8 hown7 hb7))
              refine bodyPost_ret (by simp [results, Tryd.results58, go_sem, n0, n1]; rfl) rfl ?_
              have hz := HCE2.out
              injection hz with hz1 hz2
              exact ⟨_, rfl, by rw [← hz1]; exact H9.out.1, by rw [← hz2]; exact H9.out.2.1, H9.out.2.2⟩
            · have HCE2 := Lib.hid ((cellEnd_on acc rfl hx hp2).symm.trans HCE.out)
              have HLT : Hid (r6.l.length < l1.length) := Lib.hid (by have h := atR_lt (r := ⟨l4, true⟩) (s := [124]) (by rw [hp2]); rw [hp2] at h; dsimp only at h hlen1 hlen2 hlen3; omega)
              clear hn hp1 hp2 hx hm hli hmi hlen1 hlen2 hlen3
              go_wp2_with (first | (go_at_call 25; first | ((with_reducible refine HN1.out.mono ?_); rintro e w1 ⟨rfl, hr1, o1⟩; have o1' := HCI.out.only.trans o1; obtain ⟨W2, e2, HC2, j0, j1, y2, HS2⟩ : ∃ W2, w1.alloc (.cells #[.int .i64 n, .int .i64 n] 72) = W2 ∧ Hid (CellI w q q2 q3 B0 no r2' (.slice Au acc.length lu) acc W2) ∧ W2.cell? ⟨w1.heap.size, 0, none⟩ = some (.int .i64 n) ∧ W2.cell? ⟨w1.heap.size, 1, none⟩ = some (.int .i64 n) ∧ W2.frozen? ⟨w1.heap.size, 1, none⟩ = false ∧ Hid (w1.heap.size < W2.heap.size ∧ B0 ≤ w1.heap.size ∧ q < w1.heap.size ∧ w.heap.size ≤ w1.heap.size ∧ ∀ g, (Value.slice Au acc.length lu).ownBlock = some g → g ≠ w1.heap.size) := ⟨_, rfl, Lib.hid ((HCI.out.step o1 hr1).step (Only.alloc _ _) (hr1.alloc _)), World.cell?_alloc_new _ _ _ _, World.cell?_alloc_new _ _ _ _, by simp, Lib.hid ⟨by simp, Nat.le_trans HCI.out.hB o1.size, hr1.lt, o1'.size, fun g hg => (by (have := (HCI.out.own.lt g hg).2; have := o1.size; omega))⟩⟩; clear hr1 o1 o1') | (go_must ((with_reducible refine (HN2.out w3 HC3.out.rd HC3.out.only).mono ?_); rintro e w4 ⟨rfl, hr4, o4⟩; have HC4 := Lib.hid (HC3.out.step o4 hr4); have p1 := (o4.cell HS3'.out (Nat.ne_of_gt HS2.out.2.2.1) 1).trans i1; have p0 := (o4.cell HS3'.out (Nat.ne_of_gt HS2.out.2.2.1) 0).trans i0; have pz := (o4.frozen HS3'.out (Nat.ne_of_gt HS2.out.2.2.1) 1).trans iz; obtain ⟨W5, e5, HC5, m0, m1, hbd, hbz⟩ := HC4.out.second HS2.out.2.1 HS2.out.2.2.1 HS2.out.2.2.2.1 HS2.out.2.2.2.2 (.int .i64 m) p0 p1; obtain ⟨W6, e6, HC6, t0, t1, t2⟩ := HC5.out.mark true HS2.out.2.2.1 m0 m1; clear hr4 o4))) | (go_at_call 23; first | ((with_reducible refine (HP1.out W2 HC2.out.rd).mono ?_); rintro e w3 ⟨rfl, hr3, o3⟩; have HC3 := Lib.hid (HC2.out.step o3 hr3); have i0 := (o3.cell HS2.out.1 (Nat.ne_of_gt HS2.out.2.2.1) 0).trans j0; have i1 := (o3.cell HS2.out.1 (Nat.ne_of_gt HS2.out.2.2.1) 1).trans j1; have iz := (o3.frozen HS2.out.1 (Nat.ne_of_gt HS2.out.2.2.1) 1).trans y2; have kk := HC3.out.c1; have HS3' : Hid (w1.heap.size < w3.heap.size) := Lib.hid (Nat.lt_of_lt_of_le HS2.out.1 o3.size); clear hr3 o3) | ((with_reducible refine (HP2.out W8 HC8.out.rd).mono ?_); rintro e w9 ⟨rfl, hr9, o9⟩; have HC9 := Lib.hid (HC8.out.step o9 hr9); clear hr9 o9)) | (at_builtin; go_must (refine wpList_append_new (R := rRg) (x := (n, m)) el_Rg rfl (.tmp 42) (.tmp 44) rfl rfl HC6.out.own [.int .i64 n, .int .i64 m] rfl rfl (fun _ => False) ⟨rfl, HNI.out.1, HNI.out.2⟩ (fun _ h => h.elim) HBY.out HC6.out.hB ?_); intro v7 w7 hown7 hb7 _ _; obtain ⟨A7, l7, rfl⟩ : ∃ A7 l7, v7 = .slice A7 (acc.length + 1) l7 := (by (obtain ⟨A7, l7, h⟩ := hown7.value; exact ⟨A7, l7, by rw [h, List.length_append, List.length_singleton]⟩)); obtain ⟨hc8, k8, z8⟩ := HC6.out.grow hb7 hown7; obtain ⟨W8, e8, HC8⟩ : ∃ W8, w7.setCell ⟨q3, 1, none⟩ (.slice A7 (acc.length + 1) l7) = W8 ∧ Hid (CellI w q q2 q3 B0 no ⟨l4, true⟩ (.slice A7 (acc.length + 1) l7) (acc ++ [(n, m)]) W8) := ⟨_, rfl, Lib.hid hc8⟩; clear hc8 hown7 hb7))
              go_roundw
              case rel => exact ⟨r6, acc ++ [(n, m)], _, HC9.out.rd.bad.1, HC9.out.c0, HC9.out.c1, HC9, HCE2, Lib.hid (by have := HLT.out; have h2 : acc.length + l1.length ≤ 4000 := HLA.out; rw [List.length_append, List.length_singleton]; omega)⟩
              case measure => rw [HC9.out.rd.len, HCI.out.rd.len]; exact HLT.out
      · have hfin := (cellEnd_bad acc rfl).symm.trans HCE.out
        obtain ⟨Au, lu, rfl⟩ := HCI.out.own.value
        obtain ⟨W9, e9, n0, n1, H9⟩ := HCI.out.done
        have g0 := HCI.out.f0
        have g1 := HCI.out.f1
        have x0 := HCI.out.y 0
        have x1 := HCI.out.y 1
        have d0 := HCI.out.c0
        have d1 := HCI.out.c1
        have HZ := Lib.hid hfin
        clear hfin
        go_wp2
        refine bodyPost_ret (by simp [results, Tryd.results58, go_sem, n0, n1]; rfl) rfl ?_
        have hz := HZ.out
        injection hz with hz1 hz2
        exact ⟨_, rfl, by rw [← hz1]; exact H9.out.1, by rw [← hz2]; exact H9.out.2.1, H9.out.2.2⟩
  · have HCR : Hid (cellR r = (⟨false, []⟩, r1)) := Lib.hid (by unfold cellR; rw [h1]; rfl)
    rw [HCR.out]
    clear h1
    go_wp2_with (first
      | (go_at_call 23; go_must ((with_reducible refine HAT1.out.mono ?_); rintro e w1 ⟨rfl, hr1, o1⟩; have g0 := (o1.cell HS0.out (Nat.ne_of_gt HQL.out) 0).trans HF0.out; have g1 := (o1.cell HS0.out (Nat.ne_of_gt HQL.out) 1).trans HF1.out; have x0 := (o1.frozen HS0.out (Nat.ne_of_gt HQL.out) 0).trans (HY0.out 0); have x1 := (o1.frozen HS0.out (Nat.ne_of_gt HQL.out) 1).trans (HY0.out 1); obtain ⟨W9, e9, n0, n1⟩ := store2R (.bool false) (.slice none 0 0) g0 g1; have H9 : Hid (RdAt W9 q r1 ∧ Only q w W9) := Lib.hid (by (rw [← e9]; exact ⟨(hr1.other HQL.out _ _).other HQL.out _ _, ((HO0.out.trans o1).new (Nat.le_refl _) _ _).new (Nat.le_refl _) _ _⟩)); clear hr1 o1)))
    refine bodyPost_ret (by simp [results, Tryd.results58, go_sem, n0, n1]; rfl) rfl ?_
    exact ⟨_, rfl, Own.nil _ _ _ _ _, H9.out.1, H9.out.2⟩

end Go.Proofs.YtlopccnehgolnabDoor
