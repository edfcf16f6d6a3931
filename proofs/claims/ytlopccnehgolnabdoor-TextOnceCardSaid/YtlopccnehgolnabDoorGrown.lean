
/- What a row that grew leaves as it was. No program is named. -/
import Derived.Test.YtlopccnehgolnabDoorBase
namespace Go.Proofs.YtlopccnehgolnabDoor
open Go.RowKit

theorem grown_cell {w w' : World} {row : Option Nat} (hg : w.grownBy w' row) {q : Nat} (hq : q < w.heap.size) (hne : row ≠ some q) (o : Nat) :
    w'.cell? ⟨q, o, none⟩ = w.cell? ⟨q, o, none⟩ ∧ w'.frozen? ⟨q, o, none⟩ = w.frozen? ⟨q, o, none⟩ :=
  ⟨World.cell?_of_block (w := w) (hg.block q hq fun e => hne e.symm), World.frozen?_of_block (w := w) (hg.block q hq fun e => hne e.symm)⟩
theorem grown_setCell (w : World) (p : Addr) (u : Value) : w.grownBy (w.setCell p u) (some p.block) :=
  ⟨rfl, rfl, rfl, by simp [World.setCell], fun k _ hne => Below.heap_setCell _ _ _ _ (fun e => hne (by rw [e]))⟩
theorem Own.kept_flat {α : Type} {R : Rd α} {e : TypeId} {w w' : World} {base : Nat} {S0 : Nat → Prop} {v : Value} {xs : List α} {row : Option Nat} (h : Own R e w base S0 v xs) (hF : Flat R) (hg : w.grownBy w' row) (hne : v.ownBlock = none ∨ v.ownBlock ≠ row) :
    Own R e w' base (fun _ => False) v xs := by
  obtain ⟨S, ⟨cells, h1, _, h3, h4⟩, _⟩ := h
  exact ⟨fun _ => False, ⟨cells, h1.kept hg hne, fun _ _ h => h, h3, fun i x hx => hF _ _ _ _ _ _ (h4 i x hx)⟩, fun _ h => h.elim⟩

end Go.Proofs.YtlopccnehgolnabDoor
