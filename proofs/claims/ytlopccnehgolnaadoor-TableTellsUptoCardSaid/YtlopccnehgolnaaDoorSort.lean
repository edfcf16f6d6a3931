
/- The contract of the library's sort, at Norm's comparison. -/
import Derived.Test.YtlopccnehgolnaaDoorShelf
import Derived.Test.YtlopccnehgolnaaDoorSpanD
import Derived.Shelf.SlSortCmp.NoneTotal
namespace Go.Proofs.YtlopccnehgolnaaDoor
open Go.RowKit Rb Go.Shelf Go.Sort

/-- A number brought within its bounds. -/
def cl (n : Int) : Int := max (-1000000) (min n 1000000)
theorem cl_bd (n : Int) : -1000000 ≤ cl n ∧ cl n ≤ 1000000 := by unfold cl; omega
theorem cl_id {n : Int} (h : -1000000 ≤ n ∧ n ≤ 1000000) : cl n = n := by unfold cl; omega
/-- A range's two cells, as the sort sees them. -/
def encR (x : Rg) : List Value := [.int .i64 (cl x.1), .int .i64 (cl x.2)]
def cmpR (x y : Rg) : Int := cl x.1 - cl y.1

theorem ltR (x y : Rg) : ltOf cmpR x y = decide (cl x.1 < cl y.1) := by
  rw [Bool.eq_iff_iff]
  unfold ltOf
  rw [decide_eq_true_iff, decide_eq_true_iff]
  unfold cmpR
  omega
theorem swoR : SWO (ltOf cmpR) where
  irrefl x := by rw [ltR]; simp
  trans x y z h1 h2 := by rw [ltR] at *; simp at *; omega
  ntrans x y z h1 h2 := by rw [ltR] at *; simp at *; omega

theorem heap_sortedR {w : World} {g n : Nat} {os : Array Obj} {cur : Array Value} {e : TypeId} {fr : Nat × Nat} (F : Array Value) (hb : w.heap[g]? = some (.cells cur e fr)) :
    (grow (putRow id (Sort.ahead w n) g 0 F) os).heap[g]? = some (.cells (putCells id 0 F cur) e fr) := by
  have hg : g < w.heap.size := (Array.getElem?_eq_some_iff.1 hb).1
  rw [heap_grow_old _ _ (by simpa using hg)]
  simp [putRow, mapBlock, Sort.ahead, Array.getElem?_modify, hb, onCells]
theorem grownBy_sortedR {w : World} {g n : Nat} {os : Array Obj} (F : Array Value) : w.grownBy (grow (putRow id (Sort.ahead w n) g 0 F) os) (some g) := by
  refine ⟨rfl, rfl, rfl, by simp, fun k hk hne => ?_⟩
  rw [heap_grow_old _ _ (by simpa using hk)]
  have : g ≠ k := fun e => hne (by rw [e])
  simp [putRow, mapBlock, Sort.ahead, Array.getElem?_modify, this]
theorem take_putCellsR (cur F : Array Value) (h : F.size ≤ cur.size) : (putCells id 0 F cur).toList.take F.size = F.toList := by
  apply List.ext_getElem?
  intro j
  by_cases hj : j < F.size
  · rw [List.getElem?_take_of_lt hj, Array.getElem?_toList]
    simp [putCells, hj, show j < cur.size by omega]
  · rw [List.getElem?_take_eq_none (by omega), List.getElem?_eq_none (by simp; omega)]

theorem flatK_pair (d : Array Rg) (i : Nat) (hi : i < d.size) : ((flatK encR 2 d).toList.drop (i * 2)).take 2 = encR d[i]! := by
  have h0 : (flatK encR 2 d).toList[i * 2]? = some (encR d[i]!)[0]! := by
    have := get_flatK encR 2 d (i * 2) (by omega)
    rw [getElem!_pos _ _ (by simp; omega), show i * 2 / 2 = i by omega, show i * 2 % 2 = 0 by omega] at this
    rw [Array.getElem?_toList, Array.getElem?_eq_getElem (by simp; omega), this]
  have h1 : (flatK encR 2 d).toList[i * 2 + 1]? = some (encR d[i]!)[1]! := by
    have := get_flatK encR 2 d (i * 2 + 1) (by omega)
    rw [getElem!_pos _ _ (by simp; omega), show (i * 2 + 1) / 2 = i by omega, show (i * 2 + 1) % 2 = 1 by omega] at this
    rw [Array.getElem?_toList, Array.getElem?_eq_getElem (by simp; omega), this]
  apply List.ext_getElem?
  intro j
  rcases Nat.lt_or_ge j 2 with hj | hj
  · rw [List.getElem?_take_of_lt hj, List.getElem?_drop]
    have : j = 0 ∨ j = 1 := by omega
    rcases this with rfl | rfl
    · rw [Nat.add_zero, h0]; rfl
    · rw [h1]; rfl
  · rw [List.getElem?_take_eq_none (by omega), List.getElem?_eq_none (by simp [encR]; omega)]

end Go.Proofs.YtlopccnehgolnaaDoor
