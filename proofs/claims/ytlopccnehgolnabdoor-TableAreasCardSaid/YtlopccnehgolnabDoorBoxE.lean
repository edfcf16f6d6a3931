
/- Contracts of boxes (does box answer at all), count. -/
import Derived.Test.YtlopccnehgolnabDoorBoxL
import Derived.Deep.RegionHeld3
namespace Go.Proofs.YtlopccnehgolnabDoor
open Go.RowKit Rb

def exA : Bx := [[(1, 9)], [(1, 9)]]
def exB : Bx := [[(5, 6)], [(1, 9)]]
theorem ex_less : lessB exA exB = [[[(1, 4), (7, 9)], [(1, 9)]]] := by decide
theorem ex_good : goodBx exA 2 = true := by decide
theorem ex_size : sizeBx exA = 81 := by
  unfold sizeBx
  rw [if_pos (by decide)]
  decide
theorem ex_point : pointBx [[(1, 4), (7, 9)], [(1, 9)]] = [1, 1] := by decide
theorem ex_has : inBx [[(1, 4), (7, 9)], [(1, 9)]] [1, 1] = true := by decide

theorem lit_box (w : World) (x y : Int) (hx : InI x) (hy : InI y) : rBx.rel ((((w.alloc (.cells #[.int .i64 x, .int .i64 y] 72)).alloc (.cells #[.int .i64 1, .int .i64 9] 72))).alloc (.cells #[.slice (some ⟨w.heap.size, 0, none⟩) 1 1, .slice (some ⟨w.heap.size + 1, 0, none⟩) 1 1] 51)) (fun _ => True)
    [.slice (some ⟨w.heap.size + 1 + 1, 0, none⟩) 2 2] [[(x, y)], [(1, 9)]] := by
  have h1 := Rd.lit1 (R := rRg) (w := w) (S := fun _ => True) (x := (x, y)) (cells := [.int .i64 x, .int .i64 y]) 72 rfl (by decide) (by decide) ⟨rfl, hx, hy⟩
  have h2 := Rd.lit1 (R := rRg) (w := w.alloc (.cells #[.int .i64 x, .int .i64 y] 72)) (S := fun _ => True) (x := (1, 9)) (cells := [.int .i64 1, .int .i64 9]) (n := w.heap.size + 1) 72 (by simp) (by decide) (by decide) ⟨rfl, by unfold InI; omega, by unfold InI; omega⟩
  exact Rd.lit2 (R := rSl rRg) (S := fun _ => True) (x := [(x, y)]) (y := [(1, 9)]) (c1 := [.slice (some ⟨w.heap.size, 0, none⟩) 1 1]) (c2 := [.slice (some ⟨w.heap.size + 1, 0, none⟩) 1 1]) (n := w.heap.size + 1 + 1) 51 (by simp) (by decide) (by decide) (Rd.alloc h1 _) h2


end Go.Proofs.YtlopccnehgolnabDoor
