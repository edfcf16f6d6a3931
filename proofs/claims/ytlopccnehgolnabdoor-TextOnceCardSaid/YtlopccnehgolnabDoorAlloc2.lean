
/- Two blocks that are laid one behind the other. No program is named. -/
import Derived.Test.YtlopccnehgolnabDoorBase
namespace Go.Proofs.YtlopccnehgolnabDoor
open Go.RowKit

/-- Two blocks just laid. -/
theorem alloc2_cells (w : World) (cs ds : Array Value) (t t' : TypeId) : ∃ W, (w.alloc (.cells cs t)).alloc (.cells ds t') = W ∧ Below w.heap.size w W ∧ W.heap.size = w.heap.size + 2 ∧ (∀ i, W.cell? ⟨w.heap.size, i, none⟩ = cs[i]?) ∧ (∀ i, W.cell? ⟨w.heap.size + 1, i, none⟩ = ds[i]?) ∧ (∀ i, W.frozen? ⟨w.heap.size, i, none⟩ = false) ∧ (∀ i, W.frozen? ⟨w.heap.size + 1, i, none⟩ = false) := by
  have e : (w.alloc (.cells cs t)).heap.size = w.heap.size + 1 := by simp
  refine ⟨_, rfl, ((Below.refl _ _).alloc (Nat.le_refl _) _).alloc (by simp) _, by simp, fun i => ?_, fun i => ?_, fun i => by simp, fun i => ?_⟩
  · rw [World.cell?_alloc_lt _ _ _ (by simp)]; simp
  · rw [← e]; simp
  · rw [← e]; simp

end Go.Proofs.YtlopccnehgolnabDoor
