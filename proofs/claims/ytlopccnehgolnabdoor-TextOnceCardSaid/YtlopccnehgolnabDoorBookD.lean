
/- The contract of FindDomain. -/
import Derived.Test.YtlopccnehgolnabDoorBook
namespace Go.Proofs.YtlopccnehgolnabDoor
open Go.RowKit Rb

theorem store3 {w : World} {q : Nat} {u0 u1 u2 : Value} (v0 v1 v2 : Value) (h0 : w.cell? ⟨q, 0, none⟩ = some u0) (h1 : w.cell? ⟨q, 1, none⟩ = some u1) (h2 : w.cell? ⟨q, 2, none⟩ = some u2) :
    ∃ W, ((w.setCell ⟨q, 0, none⟩ v0).setCell ⟨q, 1, none⟩ v1).setCell ⟨q, 2, none⟩ v2 = W ∧ (∀ B, B ≤ q → ∀ w0, Below B w0 w → Below B w0 W) ∧
      W.cell? ⟨q, 0, none⟩ = some v0 ∧ W.cell? ⟨q, 1, none⟩ = some v1 ∧ W.cell? ⟨q, 2, none⟩ = some v2 := by
  have o : ∀ (w : World) (i j : Nat) (v : Value), i ≠ j → (w.setCell ⟨q, i, none⟩ v).cell? ⟨q, j, none⟩ = w.cell? ⟨q, j, none⟩ := fun w i j v h => World.cell?_setCell_other _ _ _ _ (by simp <;> omega)
  refine ⟨_, rfl, fun B hB w0 hb => ((hb.setCell hB _).setCell hB _).setCell hB _, ?_, ?_, ?_⟩
  · rw [o _ 2 0 _ (by decide), o _ 1 0 _ (by decide)]
    exact World.cell?_setCell_same _ _ _ h0
  · rw [o _ 2 1 _ (by decide)]
    exact World.cell?_setCell_same _ _ _ ((o _ 0 1 _ (by decide)).trans h1)
  · exact World.cell?_setCell_same _ _ _ ((o _ 1 2 _ (by decide)).trans ((o _ 0 2 _ (by decide)).trans h2))

section
variable {w : World} {S : Nat → Prop} {A : Option Addr} {l : List Dm}
/-- A domain in a row of domains. -/
theorem Elems.dm (h : Elems rDm w S A l) {i : Nat} (hi : i < l.length) : ∃ b off x, A = some ⟨b, off, none⟩ ∧ b < w.heap.size ∧ l[i]? = some x ∧ (x.name.length ≤ 140737488355328 ∧ InI x.lo ∧ InI x.hi) ∧
    w.cell? ⟨b, off + i * 3, none⟩ = some (.string ⟨x.name.toArray⟩) ∧ w.cell? ⟨b, off + i * 3 + 1, none⟩ = some (.int .i64 x.lo) ∧ w.cell? ⟨b, off + i * 3 + 2, none⟩ = some (.int .i64 x.hi) := by
  obtain ⟨b, off, es, hA, hS, hb, ⟨rfl, hr⟩, hc⟩ := h i l[i] (List.getElem?_eq_getElem hi)
  exact ⟨b, off, l[i], hA, hb, List.getElem?_eq_getElem hi, hr, hc 0 _ rfl, hc 1 _ rfl, hc 2 _ rfl⟩
end

end Go.Proofs.YtlopccnehgolnabDoor
