import Derived.Test.YtlopccnehgolnabGreatDoorSpanD
import Derived.Test.YtlopccnehgolnabGreatDoorGPromises0
import Derived.Deep.RegionHeld3
import Derived.Deep.RegionLaw
import Derived.BigRegion
import Derived.Test.YtlopccnehgolnabGreatDoorSort
namespace Go.Proofs.YtlopccnehgolnabGreatDoor
open Go.RowKit Rb
open List renaming foldl_cons -> jA
def Z3v (l : List Rg) : Int := l.foldl (fun n r => n + (r.2 - r.1 + 1)) 0
theorem Y44 (l : List Rg) (a : Int) : l.foldl (fun n r => n + (r.2 - r.1 + 1)) a = a + Z3v l := by
 unfold Z3v
 induction l generalizing a with
 | nil => simp
 | cons r t ih => simp only [jA]; rw [ih, ih (0 + _)]; omega
theorem Y08 (r : Rg) (l : List Rg) : Z3v (r :: l) = (r.2 - r.1 + 1) + Z3v l := by
 show (r :: l).foldl _ 0 = _
 rw [jA, Y44]; omega
theorem Y5z : ∀ {l : List Rg} {a : Int}, GoodFrom a l -> 0 <= Z3v l /\ (a <= MX -> Z3v l <= MX - a)
 | [], a, _ => by simp [Z3v]
 | r :: t, a, h => by
  obtain ⟨h1, h2, h3, h4, h5⟩ := h
  have h6 := Y5z h5
  have h7 := h6.2 h2
  rw [Y08]
  omega
