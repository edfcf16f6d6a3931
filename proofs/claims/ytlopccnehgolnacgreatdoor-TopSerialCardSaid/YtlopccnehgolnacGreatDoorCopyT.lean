import Derived.Test.YtlopccnehgolnacGreatDoorGK11
import Derived.Test.YtlopccnehgolnacGreatDoorGK8
import Derived.Test.YtlopccnehgolnacGreatDoorSpanD
import Derived.BigRegion
import Derived.Deep.RegionLaw
import Derived.BigQuiet
import Derived.Test.YtlopccnehgolnacGreatDoorGK0
import Derived.Deep.RegionHeld3
import Derived.Deep.DeepMust
namespace Go.Proofs.YtlopccnehgolnacGreatDoor
open Go.RowKit Rb
theorem X42 : ElemOf Tryz.prog rRl 64 69 := .mk' Tryz.underlying64 (z := .agg #[nl, .int .i64 0]) (k := 2) (b := 32) (by kernel_rfl) rfl rfl rfl (by decide) (by decide)
theorem X41 : ElemOf Tryz.prog rCl 67 72 := .mk' Tryz.underlying67 (z := .agg #[.bool false, nl]) (k := 2) (b := 32) (by kernel_rfl) rfl rfl rfl (by decide) (by decide)
theorem Own.setLow {α : Type} {R : Rd α} {e : TypeId} {w : World} {base : Nat} {v : Value} {xs : List α} (h : Own R e w base (fun _ => False) v xs) {a : Addr} (ha : a.block < base) (u : Value) : Own R e (w.setCell a u) base (fun _ => False) v xs := by
 have hlt := h.lt
 obtain ⟨S, h1, h2⟩ := h
 refine ⟨S, h1.kept (Z0u w a u) ?_ ?_, h2⟩
 ·cases hv : v.ownBlock with
  | none => exact .inl rfl
  | some g =>
   refine .inr fun e => ?_
   injection e with e
   have := (hlt g hv).1
   omega
 intro g hg hS
 injection hg with hg
 rcases h2 g hS with h | h
 ·exact h
 omega
theorem Z9k {α : Type} {R : Rd α} {e : TypeId} {w : World} {S0 : Nat -> Prop} {x : α} (hk : 0 < R.k) (cs : List Value) (hrel : R.rel w S0 cs x) (hb : R.bytes <= 140737488355328) : Elems R (w.alloc (.cells cs.toArray e)) (Up S0 w.heap.size) (some (zn w.heap.size 0)) [x] :=
 ((Own.fresh (R := R) (e := e) (x := x) (S0 := S0) hk cs hrel hb rfl).elems hk rfl).2
theorem Y97 {w : World} {q : Nat} {u0 u1 u2 u3 u4 : Value} (v0 v1 v2 v3 v4 : Value) (h0 : w.cell? (zn q 0) = some u0) (h1 : w.cell? (zn q 1) = some u1) (h2 : w.cell? (zn q 2) = some u2) (h3 : w.cell? (zn q 3) = some u3) (h4 : w.cell? (zn q 4) = some u4) :
  ∃ W, ((((w.setCell (zn q 0) v0).setCell (zn q 1) v1).setCell (zn q 2) v2).setCell (zn q 3) v3).setCell (zn q 4) v4 = W /\ (∀ B, B <= q -> ∀ w0, Below B w0 w -> Below B w0 W) /\ (∀ S : Nat -> Prop, ¬ S q -> Keeps S w W) /\ W.cell? (zn q 0) = some v0 /\ W.cell? (zn q 1) = some v1 /\ W.cell? (zn q 2) = some v2 /\ W.cell? (zn q 3) = some v3 /\ W.cell? (zn q 4) = some v4 := by
 have o : ∀ (w : World) (i j : Nat) (v : Value), i ≠ j -> (w.setCell (zn q i) v).cell? (zn q j) = w.cell? (zn q j) := fun w i j v h => L0a _ _ _ _ (by simp <;> omega)
 refine ⟨_, rfl, fun B hB w0 hb => ((((hb.setCell hB _).setCell hB _).setCell hB _).setCell hB _).setCell hB _, fun S hS => ((((Keeps.setCell hS _).trans (Keeps.setCell hS _)).trans (Keeps.setCell hS _)).trans (Keeps.setCell hS _)).trans (Keeps.setCell hS _), ?_, ?_, ?_, ?_, ?_⟩
 ·rw [o _ 4 0 _ (by decide), o _ 3 0 _ (by decide), o _ 2 0 _ (by decide), o _ 1 0 _ (by decide)]
  exact L0e _ _ _ (h0)
 ·rw [o _ 4 1 _ (by decide), o _ 3 1 _ (by decide), o _ 2 1 _ (by decide)]
  exact L0e _ _ _ ((o _ 0 1 _ (by decide)).trans h1)
 ·rw [o _ 4 2 _ (by decide), o _ 3 2 _ (by decide)]
  exact L0e _ _ _ ((o _ 1 2 _ (by decide)).trans ((o _ 0 2 _ (by decide)).trans h2))
 ·rw [o _ 4 3 _ (by decide)]
  exact L0e _ _ _ ((o _ 2 3 _ (by decide)).trans ((o _ 1 3 _ (by decide)).trans ((o _ 0 3 _ (by decide)).trans h3)))
 exact L0e _ _ _ ((o _ 3 4 _ (by decide)).trans ((o _ 2 4 _ (by decide)).trans ((o _ 1 4 _ (by decide)).trans ((o _ 0 4 _ (by decide)).trans h4))))
