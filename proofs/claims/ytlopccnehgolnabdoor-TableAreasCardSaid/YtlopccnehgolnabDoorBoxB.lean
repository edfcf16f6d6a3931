
/- Contracts of Size, CopyBox, Clone, Both of boxes. -/
import Derived.Test.YtlopccnehgolnabDoorBoxA
import Derived.Test.YtlopccnehgolnabDoorLit
import Derived.Test.YtlopccnehgolnabDoorPairL
import Derived.Test.YtlopccnehgolnabDoorPairOf
import Derived.StillTailTactics
import Derived.WalkSpells
namespace Go.Proofs.YtlopccnehgolnabDoor
open Go.RowKit Rb

theorem el_Rgs : ElemOf Tryd.prog (rSl rRg) 39 51 := .mk' Tryd.underlying39 (z := .slice none 0 0) (k := 1) (b := 24) (by kernel_rfl) rfl rfl rfl (by decide) (by decide)
/-- How many inputs a box of sets has. -/
def prodS : Bx → Int
  | [] => 1
  | s :: b => sizeN s * prodS b
def sizeBx (b : Bx) : Int := if goodBx b (b.length : Int) then prodS b else 0
theorem sizeN_bd2 {s : List Rg} (h : GoodS s) : 0 ≤ sizeN s ∧ sizeN s ≤ 2000002 := by
  have h1 := sizeN_bd h
  have h2 : sizeN s ≤ 1000000 - (-1000000 - 2) := h1.2 (by unfold MX; omega)
  exact ⟨h1.1, by omega⟩

theorem mul_bd {a b A B : Int} (ha : 0 ≤ a) (hA : a ≤ A) (hb : 0 ≤ b) (hB : b ≤ B) : 0 ≤ a * b ∧ a * b ≤ A * B :=
  ⟨Int.mul_nonneg ha hb, Int.mul_le_mul hA hB hb (by omega)⟩


end Go.Proofs.YtlopccnehgolnabDoor
