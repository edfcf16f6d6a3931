
/- The contract of the reference's BothBoxes; Clone at whatever elements. -/
import Derived.Test.YtlopccnehgolnabDoorBoxC
import Derived.Deep.RegionHeld3
namespace Go.Proofs.YtlopccnehgolnabDoor
open Go.RowKit Rb

/-- A literal of one list, just laid: its one element. -/
theorem Elems.lit1 {α : Type} {R : Rd α} {w : World} {S : Nat → Prop} {v : Value} {x : α} (t : TypeId) (hk : R.k = 1) (hr : R.rel w S [v] x) : Elems R (w.alloc (.cells #[v] t)) (fun b => S b ∨ b = w.heap.size) (some ⟨w.heap.size, 0, none⟩) [x] := by
  intro i y hy
  match i, hy with
  | 0, hy =>
    obtain rfl : x = y := by simpa using hy
    refine ⟨w.heap.size, 0, [v], rfl, .inr rfl, by simp, R.mono (Rd.alloc hr _) fun b hb _ => .inl hb, fun j u hu => ?_⟩
    match j, hu with
    | 0, hu =>
      obtain rfl : v = u := by simpa using hu
      simp [hk]

end Go.Proofs.YtlopccnehgolnabDoor
