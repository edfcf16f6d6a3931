
/- The contract of the reference's CopyTable: a table of the callee's own memory. -/
import Derived.Test.YtlopccnehgolnabDoorTabT
import Derived.Test.YtlopccnehgolnabDoorSpanD
import Derived.BigRegion
import Derived.Deep.RegionLaw
import Derived.BigQuiet
import Derived.Test.YtlopccnehgolnabDoorGrown
import Derived.Deep.RegionHeld3
import Derived.Deep.DeepMust
namespace Go.Proofs.YtlopccnehgolnabDoor
open Go.RowKit Rb

theorem el_Strs : ElemOf Tryd.prog rStr 22 9 := .mk' Tryd.underlying22 (z := .string ⟨#[]⟩) (k := 1) (b := 16) (by kernel_rfl) rfl rfl rfl (by decide) (by decide)
theorem el_Rl : ElemOf Tryd.prog rRl 23 43 := .mk' Tryd.underlying23 (z := .agg #[.slice none 0 0, .int .i64 0]) (k := 2) (b := 32) (by kernel_rfl) rfl rfl rfl (by decide) (by decide)
theorem el_Cl : ElemOf Tryd.prog rCl 41 53 := .mk' Tryd.underlying41 (z := .agg #[.bool false, .slice none 0 0]) (k := 2) (b := 32) (by kernel_rfl) rfl rfl rfl (by decide) (by decide)

/-- A row of the call's own, under a store into an elder block. -/
theorem Own.setLow {α : Type} {R : Rd α} {e : TypeId} {w : World} {base : Nat} {v : Value} {xs : List α} (h : Own R e w base (fun _ => False) v xs) {a : Addr} (ha : a.block < base) (u : Value) : Own R e (w.setCell a u) base (fun _ => False) v xs := by
  have hlt := h.lt
  obtain ⟨S, h1, h2⟩ := h
  refine ⟨S, h1.kept (grown_setCell w a u) ?_ ?_, h2⟩
  · cases hv : v.ownBlock with
    | none => exact .inl rfl
    | some g =>
      refine .inr fun e => ?_
      injection e with e
      have := (hlt g hv).1
      omega
  · intro g hg hS
    injection hg with hg
    rcases h2 g hS with h | h
    · exact h
    · omega

structure CopyI (w : World) (q1 q2 B0 : Nat) (v3 : Value) (t : Tb) (wr : World) : Prop where
  c0 : wr.cell? ⟨q1, 0, none⟩ = some (.string ⟨t.name.toArray⟩)
  c1 : wr.cell? ⟨q1, 1, none⟩ = some (.int .i64 t.pol)
  c2 : wr.cell? ⟨q1, 2, none⟩ = some (.bool t.comp)
  c3 : wr.cell? ⟨q1, 3, none⟩ = some v3
  z4 : wr.frozen? ⟨q1, 4, none⟩ = false
  f0 : wr.cell? ⟨q2, 0, none⟩ = some (.string ⟨#[]⟩)
  f1 : wr.cell? ⟨q2, 1, none⟩ = some (.int .i64 0)
  f2 : wr.cell? ⟨q2, 2, none⟩ = some (.bool false)
  f3 : wr.cell? ⟨q2, 3, none⟩ = some (.slice none 0 0)
  f4 : wr.cell? ⟨q2, 4, none⟩ = some (.slice none 0 0)
  y : ∀ i, wr.frozen? ⟨q2, i, none⟩ = false
  hin : (rSl rStr).rel wr (fun b => q2 < b ∧ b < B0) [v3] t.ins
  bel : Below w.heap.size w wr
  hB : B0 ≤ wr.heap.size
  hq : w.heap.size ≤ q1 ∧ q1 < q2 ∧ q2 < B0

theorem CopyI.step {w : World} {q1 q2 B0 : Nat} {v3 : Value} {t : Tb} {wr wr' : World} (h : CopyI w q1 q2 B0 v3 t wr) (hb : Below B0 wr wr') : CopyI w q1 q2 B0 v3 t wr' := by
  have h1 : q1 < B0 := by have := h.hq; omega
  have h2 : q2 < B0 := h.hq.2.2
  exact ⟨(hb.cell (p := ⟨q1, 0, none⟩) h1).trans h.c0, (hb.cell (p := ⟨q1, 1, none⟩) h1).trans h.c1, (hb.cell (p := ⟨q1, 2, none⟩) h1).trans h.c2, (hb.cell (p := ⟨q1, 3, none⟩) h1).trans h.c3, (hb.frozen (p := ⟨q1, 4, none⟩) h1).trans h.z4,
    (hb.cell (p := ⟨q2, 0, none⟩) h2).trans h.f0, (hb.cell (p := ⟨q2, 1, none⟩) h2).trans h.f1, (hb.cell (p := ⟨q2, 2, none⟩) h2).trans h.f2, (hb.cell (p := ⟨q2, 3, none⟩) h2).trans h.f3, (hb.cell (p := ⟨q2, 4, none⟩) h2).trans h.f4, fun i => (hb.frozen (p := ⟨q2, i, none⟩) h2).trans (h.y i),
    (rSl rStr).keep h.hin (.of_belowB hb fun b hb' => hb'.2), h.bel.trans (hb.mono (by have := h.hq; omega)), Nat.le_trans h.hB hb.size, h.hq⟩

theorem CopyI.set {w : World} {q1 q2 B0 : Nat} {v3 : Value} {t : Tb} {wr : World} (h : CopyI w q1 q2 B0 v3 t wr) (u : Value) : CopyI w q1 q2 B0 v3 t (wr.setCell ⟨q1, 4, none⟩ u) := by
  have hq := h.hq
  have hne : ¬ (q1 = q2) := by omega
  refine ⟨?_, ?_, ?_, ?_, ?_, ?_, ?_, ?_, ?_, ?_, ?_, ?_, ?_, ?_, h.hq⟩
  · exact (World.cell?_setCell_other _ _ _ _ (by simp)).trans h.c0
  · exact (World.cell?_setCell_other _ _ _ _ (by simp)).trans h.c1
  · exact (World.cell?_setCell_other _ _ _ _ (by simp)).trans h.c2
  · exact (World.cell?_setCell_other _ _ _ _ (by simp)).trans h.c3
  · rw [World.frozen?_setCell]; exact h.z4
  · exact (World.cell?_setCell_other _ _ _ _ (by simp)).trans h.f0
  · exact (World.cell?_setCell_other _ _ _ _ (by simp)).trans h.f1
  · exact (World.cell?_setCell_other _ _ _ _ (by simp)).trans h.f2
  · exact (World.cell?_setCell_other _ _ _ _ (by simp)).trans h.f3
  · exact (World.cell?_setCell_other _ _ _ _ (by simp)).trans h.f4
  · intro i; rw [World.frozen?_setCell]; exact h.y i
  · exact (rSl rStr).keep h.hin (.setCell (by simp; omega) _)
  · exact h.bel.setCell hq.1 _
  · simpa using h.hB

theorem fresh_elems {α : Type} {R : Rd α} {e : TypeId} {w : World} {S0 : Nat → Prop} {x : α} (hk : 0 < R.k) (cs : List Value) (hrel : R.rel w S0 cs x) (hb : R.bytes ≤ 140737488355328) : Elems R (w.alloc (.cells cs.toArray e)) (Up S0 w.heap.size) (some ⟨w.heap.size, 0, none⟩) [x] :=
  ((Own.fresh (R := R) (e := e) (x := x) (S0 := S0) hk cs hrel hb rfl).elems hk rfl).2

theorem CopyI.start {w W1 w3 : World} {q2 c d : Nat} {A B : Option Addr} {v3 : Value} {t : Tb}
    (a0 : W1.cell? ⟨w.heap.size, 0, none⟩ = some (.string ⟨t.name.toArray⟩)) (a1 : W1.cell? ⟨w.heap.size, 1, none⟩ = some (.int .i64 t.pol)) (a2 : W1.cell? ⟨w.heap.size, 2, none⟩ = some (.bool t.comp)) (a3 : W1.cell? ⟨w.heap.size, 3, none⟩ = some (.slice A t.ins.length c)) (a4 : W1.cell? ⟨w.heap.size, 4, none⟩ = some (.slice B t.rules.length d))
    (f0 : W1.cell? ⟨q2, 0, none⟩ = some (.string ⟨#[]⟩)) (f1 : W1.cell? ⟨q2, 1, none⟩ = some (.int .i64 0)) (f2 : W1.cell? ⟨q2, 2, none⟩ = some (.bool false)) (f3 : W1.cell? ⟨q2, 3, none⟩ = some (.slice none 0 0)) (f4 : W1.cell? ⟨q2, 4, none⟩ = some (.slice none 0 0))
    (z : ∀ i, W1.frozen? ⟨w.heap.size, i, none⟩ = false) (y : ∀ i, W1.frozen? ⟨q2, i, none⟩ = false) (hq : w.heap.size < q2 ∧ q2 + 1 = W1.heap.size) (hbw : Below w.heap.size w W1) (hb3 : Below W1.heap.size W1 w3) (hown : Own rStr 9 w3 W1.heap.size (fun _ => False) v3 t.ins) :
    CopyI w w.heap.size q2 w3.heap.size v3 t (w3.setCell ⟨w.heap.size, 3, none⟩ v3) ∧ w3.frozen? ⟨w.heap.size, 3, none⟩ = false ∧ (w3.setCell ⟨w.heap.size, 3, none⟩ v3).cell? ⟨w.heap.size, 4, none⟩ = some (.slice B t.rules.length d) ∧ w3.cell? ⟨w.heap.size, 3, none⟩ = some (.slice A t.ins.length c) := by
  have h1 : w.heap.size < W1.heap.size := by omega
  have h2 : q2 < W1.heap.size := by omega
  have o : ∀ i, i ≠ 3 → (w3.setCell ⟨w.heap.size, 3, none⟩ v3).cell? ⟨w.heap.size, i, none⟩ = W1.cell? ⟨w.heap.size, i, none⟩ := fun i hi => (World.cell?_setCell_other _ _ _ _ (by simp <;> omega)).trans (hb3.cell (p := ⟨w.heap.size, i, none⟩) h1)
  have o2 : ∀ i, (w3.setCell ⟨w.heap.size, 3, none⟩ v3).cell? ⟨q2, i, none⟩ = W1.cell? ⟨q2, i, none⟩ := fun i => (World.cell?_setCell_other _ _ _ _ (by simp <;> omega)).trans (hb3.cell (p := ⟨q2, i, none⟩) h2)
  have hz : ∀ i, w3.frozen? ⟨w.heap.size, i, none⟩ = false := fun i => (hb3.frozen (p := ⟨w.heap.size, i, none⟩) h1).trans (z i)
  refine ⟨⟨(o 0 (by decide)).trans a0, (o 1 (by decide)).trans a1, (o 2 (by decide)).trans a2, World.cell?_setCell_same _ _ _ ((hb3.cell (p := ⟨w.heap.size, 3, none⟩) h1).trans a3), ?_, (o2 0).trans f0, (o2 1).trans f1, (o2 2).trans f2, (o2 3).trans f3, (o2 4).trans f4, fun i => ?_, ?_, ?_, by simp, by have := hb3.size; exact ⟨Nat.le_refl _, hq.1, by omega⟩⟩, hz 3, (o 4 (by decide)).trans a4, (hb3.cell (p := ⟨w.heap.size, 3, none⟩) h1).trans a3⟩
  · rw [World.frozen?_setCell]; exact hz 4
  · rw [World.frozen?_setCell]; exact (hb3.frozen (p := ⟨q2, i, none⟩) h2).trans (y i)
  · refine (rSl rStr).keep ((rSl rStr).mono (hown.rel (by decide)) fun b hb hlt => ⟨?_, hlt⟩) (.setCell (by simp; omega) _)
    rcases hb with hb | hb
    · exact hb.elim
    · omega
  · exact (hbw.trans (hb3.mono (Nat.le_of_lt h1))).setCell (Nat.le_refl _) _

/-- Five cells are stored over. -/
theorem store5T {w : World} {q : Nat} {u0 u1 u2 u3 u4 : Value} (v0 v1 v2 v3 v4 : Value) (h0 : w.cell? ⟨q, 0, none⟩ = some u0) (h1 : w.cell? ⟨q, 1, none⟩ = some u1) (h2 : w.cell? ⟨q, 2, none⟩ = some u2) (h3 : w.cell? ⟨q, 3, none⟩ = some u3) (h4 : w.cell? ⟨q, 4, none⟩ = some u4) :
    ∃ W, ((((w.setCell ⟨q, 0, none⟩ v0).setCell ⟨q, 1, none⟩ v1).setCell ⟨q, 2, none⟩ v2).setCell ⟨q, 3, none⟩ v3).setCell ⟨q, 4, none⟩ v4 = W ∧ (∀ B, B ≤ q → ∀ w0, Below B w0 w → Below B w0 W) ∧ (∀ S : Nat → Prop, ¬ S q → Keeps S w W) ∧ W.cell? ⟨q, 0, none⟩ = some v0 ∧ W.cell? ⟨q, 1, none⟩ = some v1 ∧ W.cell? ⟨q, 2, none⟩ = some v2 ∧ W.cell? ⟨q, 3, none⟩ = some v3 ∧ W.cell? ⟨q, 4, none⟩ = some v4 := by
  have o : ∀ (w : World) (i j : Nat) (v : Value), i ≠ j → (w.setCell ⟨q, i, none⟩ v).cell? ⟨q, j, none⟩ = w.cell? ⟨q, j, none⟩ := fun w i j v h => World.cell?_setCell_other _ _ _ _ (by simp <;> omega)
  refine ⟨_, rfl, fun B hB w0 hb => ((((hb.setCell hB _).setCell hB _).setCell hB _).setCell hB _).setCell hB _, fun S hS => ((((Keeps.setCell hS _).trans (Keeps.setCell hS _)).trans (Keeps.setCell hS _)).trans (Keeps.setCell hS _)).trans (Keeps.setCell hS _), ?_, ?_, ?_, ?_, ?_⟩
  · rw [o _ 4 0 _ (by decide), o _ 3 0 _ (by decide), o _ 2 0 _ (by decide), o _ 1 0 _ (by decide)]
    exact World.cell?_setCell_same _ _ _ (h0)
  · rw [o _ 4 1 _ (by decide), o _ 3 1 _ (by decide), o _ 2 1 _ (by decide)]
    exact World.cell?_setCell_same _ _ _ ((o _ 0 1 _ (by decide)).trans h1)
  · rw [o _ 4 2 _ (by decide), o _ 3 2 _ (by decide)]
    exact World.cell?_setCell_same _ _ _ ((o _ 1 2 _ (by decide)).trans ((o _ 0 2 _ (by decide)).trans h2))
  · rw [o _ 4 3 _ (by decide)]
    exact World.cell?_setCell_same _ _ _ ((o _ 2 3 _ (by decide)).trans ((o _ 1 3 _ (by decide)).trans ((o _ 0 3 _ (by decide)).trans h3)))
  · exact World.cell?_setCell_same _ _ _ ((o _ 3 4 _ (by decide)).trans ((o _ 2 4 _ (by decide)).trans ((o _ 1 4 _ (by decide)).trans ((o _ 0 4 _ (by decide)).trans h4))))

end Go.Proofs.YtlopccnehgolnabDoor
