
/- Contracts of Size, CopyBox, Clone, Both of boxes. -/
import Derived.Test.YtlopccnehgolnabBoxA
import Derived.Test.YtlopccnehgolnabLit
import Derived.Test.YtlopccnehgolnabPairL
import Derived.Test.YtlopccnehgolnabPairOf
import Derived.StillTailTactics
import Derived.WalkSpells
namespace Go.Proofs.Ytlopccnehgolnab
open Go.RowKit Rb

theorem el_Rgs : ElemOf Try.prog (rSl rRg) 27 72 := .mk' Try.underlying27 (z := .slice none 0 0) (k := 1) (b := 24) (by kernel_rfl) rfl rfl rfl (by decide) (by decide)
theorem el_Bxs : ElemOf Try.prog rBx 79 27 := .mk' Try.underlying79 (z := .slice none 0 0) (k := 1) (b := 24) (by kernel_rfl) rfl rfl rfl (by decide) (by decide)

/-- How many inputs a box of sets has. -/
def prodS : Bx → Int
  | [] => 1
  | s :: b => sizeN s * prodS b
def sizeBx (b : Bx) : Int := if goodBx b (b.length : Int) then prodS b else 0
theorem sizeN_bd2 {s : List Rg} (h : GoodS s) : 0 ≤ sizeN s ∧ sizeN s ≤ 2000002 := by
  have h1 := sizeN_bd h
  have h2 : sizeN s ≤ 1000000 - (-1000000 - 2) := h1.2 (by unfold MX; omega)
  exact ⟨h1.1, by omega⟩

theorem mul_bd {a b A B : Int} (ha : 0 ≤ a) (hA : a ≤ A) (hb : 0 ≤ b) (hB : b ≤ B) : 0 ≤ a * b ∧ a * b ≤ A * B :=
  ⟨Int.mul_nonneg ha hb, Int.mul_le_mul hA hB hb (by omega)⟩


end Go.Proofs.Ytlopccnehgolnab
