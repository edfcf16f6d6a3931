import Derived.Test.YtlopccnehgolnabGreatDoorGK11
import Derived.Test.YtlopccnehgolnabGreatDoorGK8
import Derived.Test.YtlopccnehgolnabGreatDoorSpanD
import Derived.BigRegion
import Derived.Deep.RegionLaw
import Derived.BigQuiet
import Derived.Test.YtlopccnehgolnabGreatDoorGK0
import Derived.Deep.RegionHeld3
import Derived.Deep.DeepMust
namespace Go.Proofs.YtlopccnehgolnabGreatDoor
open Go.RowKit Rb
theorem X29 : ElemOf Tryz.prog rRl 40 93 := .mk' Tryz.underlying40 (z := .agg #[.slice none 0 0, .int .i64 0]) (k := 2) (b := 32) (by kernel_rfl) rfl rfl rfl (by decide) (by decide)
theorem X28 : ElemOf Tryz.prog rCl 91 97 := .mk' Tryz.underlying91 (z := .agg #[.bool false, .slice none 0 0]) (k := 2) (b := 32) (by kernel_rfl) rfl rfl rfl (by decide) (by decide)
theorem Own.setLow {α : Type} {R : Rd α} {e : TypeId} {w : World} {base : Nat} {v : Value} {xs : List α} (h : Own R e w base (fun _ => False) v xs) {a : Addr} (ha : a.block < base) (u : Value) : Own R e (w.setCell a u) base (fun _ => False) v xs := by
 have hlt := h.lt
 obtain ⟨S, h1, h2⟩ := h
 refine ⟨S, h1.kept (Z0p w a u) ?_ ?_, h2⟩
 ·cases hv : v.ownBlock with
  | none => exact .inl rfl
  | some g =>
   refine .inr fun e => ?_
   injection e with e
   have := (hlt g hv).1
   omega
 intro g hg hS
 injection hg with hg
 rcases h2 g hS with h | h
 ·exact h
 omega
theorem Z8l {α : Type} {R : Rd α} {e : TypeId} {w : World} {S0 : Nat -> Prop} {x : α} (hk : 0 < R.k) (cs : List Value) (hrel : R.rel w S0 cs x) (hb : R.bytes <= 140737488355328) : Elems R (w.alloc (.cells cs.toArray e)) (Up S0 w.heap.size) (some ⟨w.heap.size, 0, none⟩) [x] :=
 ((Own.fresh (R := R) (e := e) (x := x) (S0 := S0) hk cs hrel hb rfl).elems hk rfl).2
theorem Y8f {w : World} {q : Nat} {u0 u1 u2 u3 u4 : Value} (v0 v1 v2 v3 v4 : Value) (h0 : w.cell? ⟨q, 0, none⟩ = some u0) (h1 : w.cell? ⟨q, 1, none⟩ = some u1) (h2 : w.cell? ⟨q, 2, none⟩ = some u2) (h3 : w.cell? ⟨q, 3, none⟩ = some u3) (h4 : w.cell? ⟨q, 4, none⟩ = some u4) :
  ∃ W, ((((w.setCell ⟨q, 0, none⟩ v0).setCell ⟨q, 1, none⟩ v1).setCell ⟨q, 2, none⟩ v2).setCell ⟨q, 3, none⟩ v3).setCell ⟨q, 4, none⟩ v4 = W /\ (∀ B, B <= q -> ∀ w0, Below B w0 w -> Below B w0 W) /\ (∀ S : Nat -> Prop, ¬ S q -> Keeps S w W) /\ W.cell? ⟨q, 0, none⟩ = some v0 /\ W.cell? ⟨q, 1, none⟩ = some v1 /\ W.cell? ⟨q, 2, none⟩ = some v2 /\ W.cell? ⟨q, 3, none⟩ = some v3 /\ W.cell? ⟨q, 4, none⟩ = some v4 := by
 have o : ∀ (w : World) (i j : Nat) (v : Value), i ≠ j -> (w.setCell ⟨q, i, none⟩ v).cell? ⟨q, j, none⟩ = w.cell? ⟨q, j, none⟩ := fun w i j v h => L0a _ _ _ _ (by simp <;> omega)
 refine ⟨_, rfl, fun B hB w0 hb => ((((hb.setCell hB _).setCell hB _).setCell hB _).setCell hB _).setCell hB _, fun S hS => ((((Keeps.setCell hS _).trans (Keeps.setCell hS _)).trans (Keeps.setCell hS _)).trans (Keeps.setCell hS _)).trans (Keeps.setCell hS _), ?_, ?_, ?_, ?_, ?_⟩
 ·rw [o _ 4 0 _ (by decide), o _ 3 0 _ (by decide), o _ 2 0 _ (by decide), o _ 1 0 _ (by decide)]
  exact L0e _ _ _ (h0)
 ·rw [o _ 4 1 _ (by decide), o _ 3 1 _ (by decide), o _ 2 1 _ (by decide)]
  exact L0e _ _ _ ((o _ 0 1 _ (by decide)).trans h1)
 ·rw [o _ 4 2 _ (by decide), o _ 3 2 _ (by decide)]
  exact L0e _ _ _ ((o _ 1 2 _ (by decide)).trans ((o _ 0 2 _ (by decide)).trans h2))
 ·rw [o _ 4 3 _ (by decide)]
  exact L0e _ _ _ ((o _ 2 3 _ (by decide)).trans ((o _ 1 3 _ (by decide)).trans ((o _ 0 3 _ (by decide)).trans h3)))
 exact L0e _ _ _ ((o _ 3 4 _ (by decide)).trans ((o _ 2 4 _ (by decide)).trans ((o _ 1 4 _ (by decide)).trans ((o _ 0 4 _ (by decide)).trans h4))))
