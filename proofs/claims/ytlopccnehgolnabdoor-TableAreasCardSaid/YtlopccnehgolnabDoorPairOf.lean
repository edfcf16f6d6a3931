
/- Contracts of the reference's BothOf and LessOf. -/
import Derived.Test.YtlopccnehgolnabDoorNormOf
import Derived.Test.YtlopccnehgolnabDoorMadeB
import Derived.Test.YtlopccnehgolnabDoorPairMath
namespace Go.Proofs.YtlopccnehgolnabDoor
open Go.RowKit Rb


theorem Elems.pair {w : World} {S T : Nat → Prop} {v u : Value} {l m : List Rg} (hl : rRgs.rel w S [v] l) (hm : rRgs.rel w T [u] m) (t : TypeId) : Elems rRgs (w.alloc (.cells #[v, u] t)) (fun _ => True) (some ⟨w.heap.size, 0, none⟩) [l, m] := by
  intro i x hx
  match i, hx with
  | 0, hx =>
    obtain rfl : l = x := by simpa using hx
    refine ⟨w.heap.size, 0, [v], rfl, trivial, by simp, rRgs.mono (Rd.alloc hl _) fun _ _ _ => trivial, fun j y hu => ?_⟩
    match j, hu with
    | 0, hu =>
      obtain rfl : v = y := by simpa using hu
      simp [rRgs, rSl]
  | 1, hx =>
    obtain rfl : m = x := by simpa using hx
    refine ⟨w.heap.size, 0, [u], rfl, trivial, by simp, rRgs.mono (Rd.alloc hm _) fun _ _ _ => trivial, fun j y hu => ?_⟩
    match j, hu with
    | 0, hu =>
      obtain rfl : u = y := by simpa using hu
      simp [rRgs, rSl]


end Go.Proofs.YtlopccnehgolnabDoor
